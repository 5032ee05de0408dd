/- Slices of rows: a key and its columns. -/
import Derived.Test.YtbemljgcclaopaaGreatDoorT6
import Derived.Test.YtbemljgcclaopaaGreatDoorM2
import Derived.Maps.AppendAt
namespace Go.Proofs.YtbemljgcclaopaaGreatDoor
open Go.RowKit
/-- A row as two cells: its key; its columns as a slice. -/
abbrev RV := ByteArray × (Option Addr × Nat × Nat)
def encR (r : RV) : List Value := [.string r.1, .slice r.2.1 r.2.2.1 r.2.2.2]
/-- .. and the columns' texts. -/
abbrev RT := RV × List ByteArray
def textR (p : RT) : ByteArray × List ByteArray := (p.1.1, p.2)
/-- A slice of strings reads as cs. -/
def ColsAt (w : World) (s : Option Addr × Nat × Nat) (cs : List ByteArray) : Prop := cs.length = s.2.1 ∧ s.2.1 ≤ s.2.2 ∧ s.2.2 ≤ maxLen ∧ Src w s.1 (cs.map Value.string)
theorem ColsAt.exc {s : List Nat} {w w' : World} {v : Option Addr × Nat × Nat} {cs : List ByteArray} (h : ColsAt w v cs) (he : Exc s w w') (hb : ∀ b off sp, v.1 = some ⟨b, off, sp⟩ → b ∉ s) : ColsAt w' v cs :=
  ⟨h.1, h.2.1, h.2.2.1, he.src h.2.2.2 hb⟩
theorem ColsAt.below {w w' : World} {B : Nat} {v : Option Addr × Nat × Nat} {cs : List ByteArray} (h : ColsAt w v cs) (he : Below B w w') (hB : w.heap.size ≤ B) : ColsAt w' v cs :=
  ⟨h.1, h.2.1, h.2.2.1, h.2.2.2.below he hB⟩
theorem ColsAt.nil (w : World) : ColsAt w (none, 0, 0) [] := ⟨rfl, Nat.le_refl _, Nat.zero_le _, Src.nil _ _⟩
def cellsR (l : List RT) : List Value := l.flatMap fun p => encR p.1
theorem cellsR_len (l : List RT) : (cellsR l).length = l.length * 2 := by
  unfold cellsR
  induction l with
  | nil => rfl
  | cons p l ih => simp only [List.flatMap_cons, List.length_append, ih, List.length_cons]; simp [encR]; omega
/-- v is a slice of rows of the call's own, its columns in other blocks. -/
def RowsIn (w : World) (base : Nat) (v : Value) (l : List RT) : Prop :=
  w.ownsRow base 65 2 v l.length (cellsR l) ∧ ∀ p ∈ l, ColsAt w p.1.2 p.2 ∧ ∀ b off sp, p.1.2.1 = some ⟨b, off, sp⟩ → base ≤ b ∧ b < w.heap.size ∧ v.ownBlock ≠ some b
theorem RowsIn.exc {s : List Nat} {w w' : World} {base : Nat} {v : Value} {l : List RT} (h : RowsIn w base v l) (he : Exc s w w') (hb : ∀ b, base ≤ b → b ∉ s) : RowsIn w' base v l := by
  refine ⟨he.own h.1 (fun j hj => hb j ?_), fun p hp => ⟨(h.2 p hp).1.exc he (fun b off sp e => hb b ((h.2 p hp).2 b off sp e).1), fun b off sp e => ⟨((h.2 p hp).2 b off sp e).1, Nat.lt_of_lt_of_le ((h.2 p hp).2 b off sp e).2.1 he.size, ((h.2 p hp).2 b off sp e).2.2⟩⟩⟩
  obtain ⟨_, h1⟩ := h.1
  rcases h1 with ⟨rfl, _⟩ | ⟨g, cap, cur, rfl, hg, _⟩
  · cases hj
  · simp [Value.ownBlock] at hj; omega
theorem RowsIn.below {w w' : World} {base : Nat} {v : Value} {l : List RT} (h : RowsIn w base v l) (he : Below w.heap.size w w') : RowsIn w' base v l :=
  h.exc (Below.exc he []) (fun _ _ => by simp)
theorem infoR : (Tryz.prog.info? 65).map (fun i => (i.zero, i.size, i.bytes)) = some (some (.agg #[.string ByteArray.empty, .slice none 0 0]), 2, 40) := by kernel_rfl
/-- 'append(out, row)'. -/
theorem run_appR (w : World) (base : Nat) (v : Value) (l : List RT) (h : RowsIn w base v l) (blk : Nat) (r : RV) (cs : List ByteArray) (hrow : Row w blk 65 (encR r)) (hc : ColsAt w r.2 cs) (hbs : ∀ b off sp, r.2.1 = some ⟨b, off, sp⟩ → base ≤ b ∧ b < w.heap.size ∧ v.ownBlock ≠ some b)
    (hl : l.length + 1 ≤ 1000000) (hbase : base ≤ w.heap.size) (ty : TypeId) :
    ∃ v' w', (Builtin.append_ #[39, 39] ty #[v, .slice (some ⟨blk, 0, none⟩) 1 1]).run Tryz.prog w = .ok v' w' ∧ RowsIn w' base v' (l ++ [(r, cs)]) ∧ w.grownBy w' v.ownBlock ∧ (v'.ownBlock = v.ownBlock ∨ v'.ownBlock = some w.heap.size) := by
  obtain ⟨i, hi, hz, hsize, hby⟩ := info_parts infoR
  obtain ⟨v', w', h1, h2, h3, _, h5⟩ := run_append_own_at (P := Tryz.prog) w base 39 ty 65 i _ 2 40 Tryz.underlying39 hi hz hsize hby rfl (by decide) v _ _ h.1 ⟨blk, 0, none⟩ 1 1 (encR r) rfl (fun j u hj => by
      have := hrow.cell hj
      have e : (⟨blk, 0, none⟩ : Addr).add j = ⟨blk, j, none⟩ := by unfold Addr.add; split <;> simp_all
      rw [e]; exact this) (by intro u hu; simp [encR] at hu; rcases hu with rfl | rfl <;> rfl) (by unfold maxLen; omega) (by omega) hbase
  have he : Exc (match v.ownBlock with | some k => [k] | none => []) w w' := Exc.grown h3 (fun k e => by rw [e]; simp)
  have hkeep : ∀ (s : Option Addr × Nat × Nat) (cs : List ByteArray), ColsAt w s cs → (∀ b off sp, s.1 = some ⟨b, off, sp⟩ → v.ownBlock ≠ some b) → ColsAt w' s cs ∧ ∀ b off sp, s.1 = some ⟨b, off, sp⟩ → v.ownBlock ≠ some b := fun s cs hcs hb =>
    ⟨hcs.exc he (fun b off sp e hm => by have := hb b off sp e; cases hv : v.ownBlock with
      | none => rw [hv] at hm; simp at hm
      | some k => rw [hv] at hm this; simp at hm; exact this (by rw [hm])), hb⟩
  refine ⟨v', w', h1, ⟨?_, ?_⟩, h3, h5⟩
  · rw [List.length_append]
    have : cellsR (l ++ [(r, cs)]) = cellsR l ++ encR r := by simp [cellsR]
    rw [this]; exact h2
  · intro p hp
    rcases List.mem_append.1 hp with hp | hp
    · obtain ⟨k1, k2⟩ := h.2 p hp
      obtain ⟨k3, _⟩ := hkeep _ _ k1 (fun b off sp e => (k2 b off sp e).2.2)
      refine ⟨k3, fun b off sp e => ⟨(k2 b off sp e).1, Nat.lt_of_lt_of_le (k2 b off sp e).2.1 h3.size, ?_⟩⟩
      rcases h5 with h5 | h5
      · rw [h5]; exact (k2 b off sp e).2.2
      · rw [h5]; intro e2; have := (k2 b off sp e).2.1; simp at e2; omega
    · simp only [List.mem_singleton] at hp
      subst hp
      obtain ⟨k3, _⟩ := hkeep _ _ hc (fun b off sp e => (hbs b off sp e).2.2)
      refine ⟨k3, fun b off sp e => ⟨(hbs b off sp e).1, Nat.lt_of_lt_of_le (hbs b off sp e).2.1 h3.size, ?_⟩⟩
      rcases h5 with h5 | h5
      · rw [h5]; exact (hbs b off sp e).2.2
      · rw [h5]; intro e2; have := (hbs b off sp e).2.1; simp at e2; omega
theorem RowsIn.own {w : World} {base : Nat} {v : Value} {l : List RT} (h : RowsIn w base v l) {j : Nat} (hj : v.ownBlock = some j) : base ≤ j ∧ j < w.heap.size := by
  obtain ⟨⟨_, h1⟩, _⟩ := h
  rcases h1 with ⟨rfl, _⟩ | ⟨g, cap, cur, rfl, hg, hh, _⟩
  · cases hj
  · simp [Value.ownBlock] at hj; subst hj; exact ⟨hg, (Array.getElem?_eq_some_iff.1 hh).1⟩
theorem RowsIn.exc' {s : List Nat} {w w' : World} {base : Nat} {v : Value} {l : List RT} (h : RowsIn w base v l) (he : Exc s w w') (ho : ∀ j, v.ownBlock = some j → j ∉ s) (hc : ∀ p ∈ l, ∀ b off sp, p.1.2.1 = some ⟨b, off, sp⟩ → b ∉ s) : RowsIn w' base v l :=
  ⟨he.own h.1 ho, fun p hp => ⟨(h.2 p hp).1.exc he (hc p hp), fun b off sp e => ⟨((h.2 p hp).2 b off sp e).1, Nat.lt_of_lt_of_le ((h.2 p hp).2 b off sp e).2.1 he.size, ((h.2 p hp).2 b off sp e).2.2⟩⟩⟩
/-- v is a slice of rows that read as t, the call's own; none of its blocks is of av. -/
def OutL (w : World) (base : Nat) (av : List Nat) (out : Value) (t : List (ByteArray × List ByteArray)) : Prop :=
  ∃ l, RowsIn w base out l ∧ l.map textR = t ∧ (∀ j, out.ownBlock = some j → j ∉ av) ∧ ∀ p ∈ l, ∀ b off sp, p.1.2.1 = some ⟨b, off, sp⟩ → b ∉ av
theorem OutL.exc {s av : List Nat} {w w' : World} {base : Nat} {v : Value} {t : List (ByteArray × List ByteArray)} (h : OutL w base av v t) (he : Exc s w w') (hs : ∀ k ∈ s, k ∈ av ∨ k < base ∨ w.heap.size ≤ k) : OutL w' base av v t := by
  obtain ⟨l, h1, h2, h3, h4⟩ := h
  refine ⟨l, h1.exc' he (fun j hj hm => ?_) (fun p hp b off sp e hm => ?_), h2, h3, h4⟩
  · have := h1.own hj
    rcases hs j hm with h | h | h
    · exact h3 j hj h
    · omega
    · omega
  · have := (h1.2 p hp).2 b off sp e
    rcases hs b hm with h | h | h
    · exact h4 p hp b off sp e h
    · omega
    · omega
theorem OutL.below {av : List Nat} {w w' : World} {base : Nat} {v : Value} {t : List (ByteArray × List ByteArray)} (h : OutL w base av v t) (he : Below w.heap.size w w') : OutL w' base av v t :=
  h.exc (Below.exc he []) (by simp)
theorem OutL.own {av : List Nat} {w : World} {base : Nat} {v : Value} {t : List (ByteArray × List ByteArray)} (h : OutL w base av v t) {j : Nat} (hj : v.ownBlock = some j) : base ≤ j ∧ j < w.heap.size ∧ j ∉ av := by
  obtain ⟨l, h1, _, h3, _⟩ := h
  exact ⟨(h1.own hj).1, (h1.own hj).2, h3 j hj⟩
theorem OutL.avoid {av av' : List Nat} {w : World} {base : Nat} {v : Value} {t : List (ByteArray × List ByteArray)} (h : OutL w base av v t) (h' : ∀ k ∈ av', k < base ∨ w.heap.size ≤ k) : OutL w base av' v t := by
  obtain ⟨l, h1, h2, _, _⟩ := h
  refine ⟨l, h1, h2, fun j hj hm => ?_, fun p hp b off sp e hm => ?_⟩
  · have := h1.own hj; have := h' j hm; omega
  · have := (h1.2 p hp).2 b off sp e; have := h' b hm; omega
/-- 'append(out, row)', the row laid in a new block. -/
theorem out_app {W : World} {base : Nat} {av : List Nat} {out : Value} {t : List (ByteArray × List ByteArray)} (hO : OutL W base av out t) (hb : base ≤ W.heap.size) (hav : ∀ k ∈ av, k < W.heap.size) (r : RV) (cs : List ByteArray) (hc : ColsAt W r.2 cs)
    (hbs : ∀ b off sp, r.2.1 = some ⟨b, off, sp⟩ → base ≤ b ∧ b < W.heap.size ∧ out.ownBlock ≠ some b ∧ b ∉ av) (hl : t.length + 1 ≤ 1000000) (ty : TypeId) :
    ∃ v' w', (Builtin.append_ #[39, 39] ty #[out, .slice (some ⟨W.heap.size, 0, none⟩) 1 1]).run Tryz.prog (W.alloc (.cells #[.string r.1, .slice r.2.1 r.2.2.1 r.2.2.2] 65)) = .ok v' w' ∧ OutL w' base av v' (t ++ [(r.1, cs)]) ∧
      Exc (match out.ownBlock with | some k => [k] | none => []) W w' := by
  have hx : Below W.heap.size W (W.alloc (.cells #[.string r.1, .slice r.2.1 r.2.2.1 r.2.2.2] 65)) := (Below.refl _ _).alloc (Nat.le_refl _) _
  have hsz : (W.alloc (.cells #[.string r.1, .slice r.2.1 r.2.2.1 r.2.2.2] 65)).heap.size = W.heap.size + 1 := by simp
  obtain ⟨l, h1, rfl, h3, h4⟩ := hO
  obtain ⟨v', w', g1, g2, g3, g4⟩ := run_appR _ base out l (h1.below hx) W.heap.size r cs (Row.newAt rfl rfl) (hc.below hx (Nat.le_refl _)) (fun b off sp e => ⟨(hbs b off sp e).1, by rw [hsz]; have := (hbs b off sp e).2.1; omega, (hbs b off sp e).2.2.1⟩) (by simpa using hl) (by omega) ty
  refine ⟨v', w', g1, ⟨_, g2, by simp [textR], fun j hj hm => ?_, fun p hp b off sp e => ?_⟩, (Below.exc hx _).trans (Exc.grown g3 (fun k e => by rw [e]; simp))⟩
  · rcases g4 with g4 | g4
    · rw [g4] at hj; exact h3 j hj hm
    · rw [g4, hsz] at hj; simp at hj; have := hav j hm; omega
  · rcases List.mem_append.1 hp with hp | hp
    · exact h4 p hp b off sp e
    · simp only [List.mem_singleton] at hp; subst hp; exact (hbs b off sp e).2.2.2
end Go.Proofs.YtbemljgcclaopaaGreatDoor
