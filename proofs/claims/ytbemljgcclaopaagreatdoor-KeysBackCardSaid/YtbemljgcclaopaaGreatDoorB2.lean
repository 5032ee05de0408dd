/- What the bytes' type is in this program, and an append of bytes. -/
import Derived.WalkLawsBesides
import Derived.WalkSpells
import Derived.Outline
import Derived.RegionTactic
import Derived.BigRegion
import Derived.BigQuiet
import Derived.Deep.QuietTactic
import Derived.KernelRfl
import Derived.LoopN
import Derived.Test.YtbemljgcclaopaaGreatDoorB3
import Derived.Test.YtbemljgcclaopaaGreatDoorProg
namespace Go.Proofs.YtbemljgcclaopaaGreatDoor
open Go.RowKit
theorem infoB : (Tryz.prog.info? 5).map (fun i => (i.zero, i.size, i.bytes)) = some (some (.int .u8 0), 1, 1) := by kernel_rfl
theorem ints_one (k : IntKind) (l : List Int) : ∀ u ∈ Ints k l, u.oneCell' = true := by
  intro u hu; simp only [Ints, List.mem_map] at hu; obtain ⟨x, _, rfl⟩ := hu; rfl
theorem ints_append (k : IntKind) (l m : List Int) : Ints k l ++ Ints k m = Ints k (l ++ m) := by simp [Ints]
theorem ints_len (k : IntKind) (l : List Int) : (Ints k l).length = l.length := by simp [Ints]
theorem ints_drop (k : IntKind) (l : List Int) (n : Nat) : (Ints k l).drop n = Ints k (l.drop n) := by simp [Ints, List.map_drop]
theorem ints_take (k : IntKind) (l : List Int) (n : Nat) : (Ints k l).take n = Ints k (l.take n) := by simp [Ints, List.map_take]
/-- What a []byte owns. -/
abbrev OwnB (w : World) (base : Nat) (v : Value) (l : List Int) : Prop := w.ownsRow base 5 1 v l.length (Ints .u8 l)
/-- 'append(s, x...)' of bytes. -/
theorem wpList_appB (w : World) {ops : Array Oper} {rest : List Oper} {o : Oper} {a : Act} {Q : Exit → Act → World → Prop} (hgd : o.guard = none) (s x : Operand)
    (ho : o.op = .call { callee := .builtin .append, args := #[s, x], argTypes := #[24, 24] })
    (base : Nat) (v : Value) (xs : List Int) (hs : a.eval s = v) (hown : OwnB w base v xs)
    (ad : Option Addr) (m c : Nat) (news : List Int) (hx : a.eval x = .slice ad m c) (hl : news.length = m) (hsrc : Src w ad (Ints .u8 news))
    (hb : xs.length + m ≤ 140737488355328) (hbase : base ≤ w.heap.size) (hnc : ad = none → c = 0)
    (h : ∀ v' w', OwnB w' base v' (xs ++ news) → w.grownBy w' v.ownBlock → (v' = .slice none 0 0 ↔ v = .slice none 0 0 ∧ m = 0) → wpList Tryz.prog ops Q rest (a.put o.dst v') w') : wpList Tryz.prog ops Q (o :: rest) a w := by
  obtain ⟨i0, hi, hz0, hz1, hz2⟩ := info_parts infoB
  refine wpList_app w hgd s x 24 ho base 5 i0 (.int .u8 0) 1 Tryz.underlying24 hi hz0 hz1 hz2 rfl v xs.length (Ints .u8 xs) hs hown ad m c (Ints .u8 news) hx (by rw [ints_len]; exact hl) hsrc (ints_one _ _) (by unfold maxLen; omega) (by omega) hbase hnc ?_
  intro v' w' h1 h2 h3
  refine h v' w' ?_ h2 h3
  rw [ints_append] at h1
  unfold OwnB
  rw [List.length_append, hl]; exact h1
/-- 'append(s, x...)' of bytes, s full. -/
theorem wpList_fullB (w : World) {ops : Array Oper} {rest : List Oper} {o : Oper} {a : Act} {Q : Exit → Act → World → Prop} (hgd : o.guard = none) (s x : Operand)
    (ho : o.op = .call { callee := .builtin .append, args := #[s, x], argTypes := #[24, 24] })
    (p : Addr) (n : Nat) (olds : List Int) (hs : a.eval s = .slice (some p) n n) (hlo : olds.length = n) (holds : Src w (some p) (Ints .u8 olds))
    (ad : Option Addr) (m c : Nat) (news : List Int) (hx : a.eval x = .slice ad m c) (hl : news.length = m) (hsrc : Src w ad (Ints .u8 news))
    (hb : n + m ≤ 140737488355328) (hnc : ad = none → c = 0)
    (h : ∀ a' c' w', n + m ≤ c' → Src w' a' (Ints .u8 (olds ++ news)) → w.grownBy w' none → wpList Tryz.prog ops Q rest (a.put o.dst (.slice a' (n + m) c')) w') : wpList Tryz.prog ops Q (o :: rest) a w := by
  obtain ⟨i0, hi, hz0, hz1, hz2⟩ := info_parts infoB
  refine wpList_app_full w hgd s x 24 ho 5 i0 (.int .u8 0) 1 Tryz.underlying24 hi hz0 hz1 hz2 rfl p n (Ints .u8 olds) hs (by rw [ints_len]; exact hlo) holds ad m c (Ints .u8 news) hx (by rw [ints_len]; exact hl) hsrc (ints_one _ _) (by unfold maxLen; omega) (by omega) hnc ?_
  intro a' c' w' h0 h1 h2
  refine h a' c' w' h0 ?_ h2
  rw [ints_append] at h1; exact h1
theorem ints_replicate (k : IntKind) (n : Nat) (x : Int) : Ints k (List.replicate n x) = List.replicate n (.int k x) := by simp [Ints]
/-- 'append(s, make([]byte, k)...)'. -/
theorem wpList_zeroB (w : World) {ops : Array Oper} {rest : List Oper} {o : Oper} {a : Act} {Q : Exit → Act → World → Prop} (hgd : o.guard = none) (s x : Operand)
    (ho : o.op = .call { callee := .builtin .append, args := #[s, x], argTypes := #[24, 3] })
    (base : Nat) (v : Value) (xs : List Int) (hs : a.eval s = v) (hown : OwnB w base v xs) (hn : 0 < xs.length) (k : Nat) (hx : a.eval x = .int .i64 k)
    (hb : xs.length + k ≤ 140737488355328) (hbase : base ≤ w.heap.size)
    (h : ∀ v' w', OwnB w' base v' (xs ++ List.replicate k 0) → w.grownBy w' v.ownBlock → wpList Tryz.prog ops Q rest (a.put o.dst v') w') : wpList Tryz.prog ops Q (o :: rest) a w := by
  obtain ⟨i0, hi, hz0, hz1, hz2⟩ := info_parts infoB
  refine wpList_zeros w hgd s x 24 3 ho base 5 i0 (.int .u8 0) 1 .i64 .i64 Tryz.underlying24 Tryz.underlying3 hi hz0 hz1 hz2 rfl rfl v xs.length (Ints .u8 xs) hs hown hn k hx (by unfold maxLen; omega) (by omega) hbase ?_
  intro v' w' h1 h2
  refine h v' w' ?_ h2
  rw [← ints_replicate, ints_append] at h1
  unfold OwnB
  rw [List.length_append, List.length_replicate]; exact h1
end Go.Proofs.YtbemljgcclaopaaGreatDoor
