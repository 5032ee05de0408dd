/- The tree of keys in memory; keys.New. -/
import Derived.Test.YtbemljgcclaopaaGreatDoorM1
import Derived.Test.YtbemljgcclaopaaGreatDoorK0
namespace Go.Proofs.YtbemljgcclaopaaGreatDoor
open Go.RowKit
/-- All blocks but those listed lie as they lay. -/
structure Exc (s : List Nat) (w w' : World) : Prop where
  os : w'.os = w.os
  tape : w'.tape = w.tape
  output : w'.output = w.output
  size : w.heap.size ≤ w'.heap.size
  block : ∀ k, k < w.heap.size → k ∉ s → w'.heap[k]? = w.heap[k]?
theorem Exc.refl (s : List Nat) (w : World) : Exc s w w := ⟨rfl, rfl, rfl, Nat.le_refl _, fun _ _ _ => rfl⟩
theorem Exc.trans {s : List Nat} {a b c : World} (h : Exc s a b) (k : Exc s b c) : Exc s a c :=
  ⟨k.os.trans h.os, k.tape.trans h.tape, k.output.trans h.output, Nat.le_trans h.size k.size, fun i h1 h2 => (k.block i (Nat.lt_of_lt_of_le h1 h.size) h2).trans (h.block i h1 h2)⟩
theorem Below.exc {w w' : World} (h : Below w.heap.size w w') (s : List Nat) : Exc s w w' := ⟨h.os, h.tape, h.output, h.size, fun k hk _ => h.block k hk⟩
theorem Exc.below {s : List Nat} {w w' : World} {B : Nat} (h : Exc s w w') (hs : ∀ k ∈ s, B ≤ k) (hB : B ≤ w.heap.size) : Below B w w' :=
  ⟨h.os, h.tape, h.output, h.size, fun k hk => h.block k (Nat.lt_of_lt_of_le hk hB) (fun hm => by have := hs k hm; omega)⟩
theorem Exc.row {s : List Nat} {w w' : World} {b : Nat} {e : TypeId} {vs : List Value} (h : Exc s w w') (hr : Row w b e vs) (hb : b ∉ s) : Row w' b e vs := (h.block b hr.lt hb).trans hr
theorem Exc.grown {s : List Nat} {w w' : World} {row : Option Nat} (h : w.grownBy w' row) (hr : ∀ k, row = some k → k ∈ s) : Exc s w w' :=
  ⟨h.os, h.tape, h.output, h.size, fun k hk hm => h.block k hk (fun e => hm (hr k e.symm))⟩
theorem Exc.map {α β : Type} {enc : α → Value} {val : β → Value} {s : List Nat} {w w' : World} {m : Nat} {l : List (α × β)} (h : Exc s w w') (hm : MapIs enc val w m l) (hb : m ∉ s) : MapIs enc val w' m l := by
  obtain ⟨es, c, hh, he⟩ := hm
  exact ⟨es, c, (h.block m (Array.getElem?_eq_some_iff.1 hh).1 hb).trans hh, he⟩
theorem Exc.src {s : List Nat} {w w' : World} {a : Option Addr} {l : List Value} (h : Exc s w w') (hs : Src w a l) (hb : ∀ b off sp, a = some ⟨b, off, sp⟩ → b ∉ s) : Src w' a l := by
  intro j u hj
  obtain ⟨b, off, ha, hc⟩ := hs j u hj
  exact ⟨b, off, ha, (World.cell?_of_block (w := w) (h.block b (cell_lt hc) (hb b off _ ha))).trans hc⟩
theorem Exc.own {s : List Nat} {w w' : World} {base : Nat} {e : TypeId} {size : Nat} {v : Value} {n : Nat} {xs : List Value} (h : Exc s w w') (ho : w.ownsRow base e size v n xs) (hb : ∀ j, v.ownBlock = some j → j ∉ s) : w'.ownsRow base e size v n xs := by
  obtain ⟨h1, h2⟩ := ho
  refine ⟨h1, ?_⟩
  rcases h2 with h2 | ⟨g, cap, cur, rfl, hg, hh, hr⟩
  · exact .inl h2
  · exact .inr ⟨g, cap, cur, rfl, hg, (h.block g (Array.getElem?_eq_some_iff.1 hh).1 (hb g (by simp [Value.ownBlock]))).trans hh, hr⟩
abbrev Gone := List (ByteArray × Bool)
abbrev Ats := List ((ByteArray × ByteArray) × Int)
/-- The tree at block b. -/
structure IsTree (w : World) (b mg ma : Nat) (root : List Int) (n : Int) (g : Gone) (a : Ats) : Prop where
  row : Row w b 53 (Ints .u8 root ++ [.int .i64 n, .map (some mg), .map (some ma)])
  gone : MapIs Value.string Value.bool w mg g
  ats : MapIs encP (Value.int .i64) w ma a
  ne : mg ≠ ma
  len : root.length = 32
  byte : ∀ x ∈ root, Byte x
theorem IsTree.neg {w : World} {b mg ma : Nat} {root : List Int} {n : Int} {g : Gone} {a : Ats} (h : IsTree w b mg ma root n g a) : b ≠ mg := by
  rintro rfl
  obtain ⟨es, c, hh, _⟩ := h.gone
  have := (show w.heap[b]? = _ from h.row).symm.trans hh
  simp at this
theorem IsTree.nea {w : World} {b mg ma : Nat} {root : List Int} {n : Int} {g : Gone} {a : Ats} (h : IsTree w b mg ma root n g a) : b ≠ ma := by
  rintro rfl
  obtain ⟨es, c, hh, _⟩ := h.ats
  have := (show w.heap[b]? = _ from h.row).symm.trans hh
  simp at this
theorem IsTree.exc {s : List Nat} {w w' : World} {b mg ma : Nat} {root : List Int} {n : Int} {g : Gone} {a : Ats} (h : IsTree w b mg ma root n g a) (he : Exc s w w') (h1 : b ∉ s) (h2 : mg ∉ s) (h3 : ma ∉ s) : IsTree w' b mg ma root n g a :=
  ⟨he.row h.row h1, he.map h.gone h2, he.map h.ats h3, h.ne, h.len, h.byte⟩
theorem IsTree.below {w w' : World} {b mg ma : Nat} {root : List Int} {n : Int} {g : Gone} {a : Ats} (h : IsTree w b mg ma root n g a) (hb : Below w.heap.size w w') : IsTree w' b mg ma root n g a :=
  h.exc (Below.exc hb []) (by simp) (by simp) (by simp)
theorem IsTree.cN {w : World} {b mg ma : Nat} {root : List Int} {n : Int} {g : Gone} {a : Ats} (h : IsTree w b mg ma root n g a) : w.cell? ⟨b, 32, none⟩ = some (.int .i64 n) :=
  h.row.cell (by rw [List.getElem?_append_right (by rw [ints_len, h.len]; exact Nat.le_refl _), ints_len, h.len]; rfl)
theorem IsTree.cG {w : World} {b mg ma : Nat} {root : List Int} {n : Int} {g : Gone} {a : Ats} (h : IsTree w b mg ma root n g a) : w.cell? ⟨b, 33, none⟩ = some (.map (some mg)) :=
  h.row.cell (by rw [List.getElem?_append_right (by rw [ints_len, h.len]; omega), ints_len, h.len]; rfl)
theorem IsTree.cA {w : World} {b mg ma : Nat} {root : List Int} {n : Int} {g : Gone} {a : Ats} (h : IsTree w b mg ma root n g a) : w.cell? ⟨b, 34, none⟩ = some (.map (some ma)) :=
  h.row.cell (by rw [List.getElem?_append_right (by rw [ints_len, h.len]; omega), ints_len, h.len]; rfl)
/-- What Current says. -/
def curE (g : Gone) (t s : ByteArray) : Int := if (isNameB t && isNameB s) = true then (if (lookA t g).getD false = true then 12 else 0) else 8
def verN (a : Ats) (t s : ByteArray) : Int := max ((lookA (t, s) a).getD 0) 1
def curN (g : Gone) (a : Ats) (t s : ByteArray) : Int := if curE g t s = 0 then verN a t s else 0
theorem IsTree.lookG {w : World} {b mg ma : Nat} {root : List Int} {n : Int} {g : Gone} {a : Ats} (h : IsTree w b mg ma root n g a) (t : ByteArray) : (Instr.lookup 50 (.map (some mg)) (.string t) false).run Tryz.prog w = .ok (.bool ((lookA t g).getD false)) w := by
  rw [run_lookup_is (keyOk_str (P := Tryz.prog) Tryz.underlying9) Tryz.underlying50 g h.gone t (.bool false) (by kernel_rfl)]
  cases lookA t g <;> rfl
theorem IsTree.lookAt {w : World} {b mg ma : Nat} {root : List Int} {n : Int} {g : Gone} {a : Ats} (h : IsTree w b mg ma root n g a) (t s : ByteArray) : (Instr.lookup 51 (.map (some ma)) (.agg #[.string t, .string s]) false).run Tryz.prog w = .ok (.int .i64 ((lookA (t, s) a).getD 0)) w := by
  have := run_lookup_is keyOk_pair Tryz.underlying51 a h.ats (t, s) (.int .i64 0) (by kernel_rfl)
  rw [encP] at this
  rw [this]
  cases lookA (t, s) a <;> rfl
set_option maxRecDepth 100000 in
set_option maxHeartbeats 2000000 in
theorem current_any (t s : ByteArray) (ht : t.size ≤ 9223372036854775807) (hs : s.size ≤ 9223372036854775807) (w : World) {b mg ma : Nat} {root : List Int} {n : Int} {g : Gone} {a : Ats} (h : IsTree w b mg ma root n g a) :
    Calls Tryz.prog 18 #[.pointer (some ⟨b, 0, none⟩), .string t, .string s] w fun e w' => e = .returned (.tuple #[.int .i64 (curN g a t s), .int .i64 (curE g t s)]) ∧ Below w.heap.size w w' := by
  have i1 := isName_any t w ht
  go_enter Tryz.func18, Tryz.ntmps18
  by_cases hn1 : isNameB t = true
  · by_cases hn2 : isNameB s = true
    · rw [hn1] at i1
      by_cases hg : (lookA t g).getD false = true
      · have hE : curE g t s = 12 := by unfold curE; rw [hn1, hn2, hg]; rfl
        have hN : curN g a t s = 0 := by unfold curN; rw [hE]; rfl
        rw [hE, hN]
        clear hE hN
        go_wp2_with (first
          | (go_at_call 45; (with_reducible refine Calls.mono i1 ?_); rintro e w1 ⟨rfl, hb1⟩; have i2 := isName_any s w1 hs; rw [hn2] at i2)
          | (go_at_call 45; (with_reducible refine Calls.mono i2 ?_); rintro e w2 ⟨rfl, hb2⟩; have h2 := (h.below hb1).below hb2; have hG := h2.cG; have hLG := h2.lookG t; rw [hg] at hLG))
        go_ret2
        exact ⟨rfl, hb1.trans (hb2.mono hb1.size)⟩
      · have hgf : (lookA t g).getD false = false := by simpa using hg
        have hE : curE g t s = 0 := by unfold curE; rw [hn1, hn2, hgf]; rfl
        have hN : curN g a t s = verN a t s := by unfold curN; rw [hE]; rfl
        rw [hE, hN]
        clear hE hN
        go_wp2_with (first
          | (go_at_call 45; (with_reducible refine Calls.mono i1 ?_); rintro e w1 ⟨rfl, hb1⟩; have i2 := isName_any s w1 hs; rw [hn2] at i2)
          | (go_at_call 45; (with_reducible refine Calls.mono i2 ?_); rintro e w2 ⟨rfl, hb2⟩; have h2 := (h.below hb1).below hb2; have hG := h2.cG; have hA := h2.cA; have hLG := h2.lookG t; have hLA := h2.lookAt t s; rw [hgf] at hLG))
        go_ret2
        exact ⟨rfl, hb1.trans (hb2.mono hb1.size)⟩
    · have hn2f : isNameB s = false := by simpa using hn2
      have hE : curE g t s = 8 := by unfold curE; rw [hn1, hn2f]; rfl
      have hN : curN g a t s = 0 := by unfold curN; rw [hE]; rfl
      rw [hE, hN]
      rw [hn1] at i1
      go_wp2_with (first
        | (go_at_call 45; (with_reducible refine Calls.mono i1 ?_); rintro e w1 ⟨rfl, hb1⟩; have i2 := isName_any s w1 hs; rw [hn2f] at i2)
        | (go_at_call 45; (with_reducible refine Calls.mono i2 ?_); rintro e w2 ⟨rfl, hb2⟩))
      go_ret2
      exact ⟨rfl, hb1.trans (hb2.mono hb1.size)⟩
  · have hn1f : isNameB t = false := by simpa using hn1
    have hE : curE g t s = 8 := by unfold curE; rw [hn1f]; rfl
    have hN : curN g a t s = 0 := by unfold curN; rw [hE]; rfl
    rw [hE, hN]
    rw [hn1f] at i1
    go_wp2_with (go_at_call 45; (with_reducible refine Calls.mono i1 ?_); rintro e w1 ⟨rfl, hb1⟩)
    go_ret2
    exact ⟨rfl, hb1⟩
end Go.Proofs.YtbemljgcclaopaaGreatDoor
