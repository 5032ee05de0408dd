/- keys.Rotate. -/
import Derived.Test.YtbemljgcclaopaaGreatDoorT2
namespace Go.Proofs.YtbemljgcclaopaaGreatDoor
open Go.RowKit
theorem IsTree.upA {w : World} {b mg ma : Nat} {root : List Int} {n : Int} {g : Gone} {a : Ats} (h : IsTree w b mg ma root n g a) (t s : ByteArray) (v : Int) : ∃ o, (Instr.mapUpdate 51 (.map (some ma)) (.agg #[.string t, .string s]) (.int .i64 v)).run Tryz.prog w = .ok () (w.putObj ma o) ∧ IsTree (w.putObj ma o) b mg ma root n g (setA (t, s) v a) ∧ Exc [ma] w (w.putObj ma o) := by
  obtain ⟨o, h1, h2⟩ := run_mapUpdate_is keyOk_pair Tryz.underlying51 a h.ats (t, s) v
  have he : Exc [ma] w (w.putObj ma o) := Exc.grown (grownBy_putObj' w ma o) (fun k e => by cases e; simp)
  exact ⟨o, h1, ⟨he.row h.row (by simpa using h.nea), he.map h.gone (by simpa using h.ne), h2, h.ne, h.len, h.byte⟩, he⟩
def rotE (g : Gone) (a : Ats) (t s : ByteArray) : Int := if curE g t s = 0 then (if 16 ≤ verN a t s ∨ verN a t s = 1 ∧ 16 ≤ a.length then 7 else 0) else curE g t s
def rotN (g : Gone) (a : Ats) (t s : ByteArray) : Int := if rotE g a t s = 0 then verN a t s + 1 else 0
def rotA (g : Gone) (a : Ats) (t s : ByteArray) : Ats := if rotE g a t s = 0 then setA (t, s) (verN a t s + 1) a else a
theorem IsTree.lenA {w : World} {b mg ma : Nat} {root : List Int} {n : Int} {g : Gone} {a : Ats} (h : IsTree w b mg ma root n g a) (hl : a.length ≤ 9223372036854775807) : (Builtin.len_ #[51] 3 #[Value.map (some ma)]).run Tryz.prog w = .ok (.int .i64 a.length) w := by
  obtain ⟨es, cl, hes, hel⟩ := run_mapLen_is a h.ats
  have hg : (getObj ma).run Tryz.prog w = .ok (.map es cl) w := by simp [getObj, Sem.run, hes]
  have u3 := Tryz.underlying3
  simp [Builtin.len_, run_underlying Tryz.underlying51, hg, hel, run_underlying u3]
  simp [goInt, wrap64]
  try omega
set_option maxRecDepth 100000 in
set_option maxHeartbeats 2000000 in
theorem rotate_meth (t s : ByteArray) (ht : t.size ≤ 9223372036854775807) (hs : s.size ≤ 9223372036854775807) (w : World) {b mg ma : Nat} {root : List Int} {n : Int} {g : Gone} {a : Ats} (h : IsTree w b mg ma root n g a) (hal : a.length ≤ 9223372036854775807) (hv : 1 ≤ verN a t s) :
    Calls Tryz.prog 8 #[.pointer (some ⟨b, 0, none⟩), .string t, .string s] w fun e w' => e = .returned (.tuple #[.int .i64 (rotN g a t s), .int .i64 (rotE g a t s)]) ∧ IsTree w' b mg ma root n g (rotA g a t s) ∧ Exc [ma] w w' := by
  have t1 := current_any t s ht hs w h
  go_enter Tryz.func8, Tryz.ntmps8
  by_cases hc : curE g t s = 0
  · have hN : curN g a t s = verN a t s := by unfold curN; rw [if_pos hc]
    rw [hc, hN] at t1
    obtain ⟨m, hm⟩ : ∃ m, verN a t s = m := ⟨_, rfl⟩
    rw [hm] at t1 hv
    by_cases hf : 16 ≤ m ∨ m = 1 ∧ 16 ≤ a.length
    · have hE : rotE g a t s = 7 := by unfold rotE; rw [if_pos hc, hm, if_pos hf]
      have hN' : rotN g a t s = 0 := by unfold rotN; rw [hE]; rfl
      have hA' : rotA g a t s = a := by unfold rotA; rw [hE]; rfl
      rw [hE, hN', hA']
      clear hE hN' hA' hN hm
      rcases hf with hf | ⟨rfl, hf⟩
      · go_wp2_with (go_at_call 18; refine t1.mono ?_; rintro e w1 ⟨rfl, hb1⟩)
        go_ret2
        exact ⟨rfl, h.below hb1, Below.exc hb1 _⟩
      · have hf' : (16 : Int) ≤ (a.length : Int) := by omega
        go_wp2_with (go_at_call 18; refine t1.mono ?_; rintro e w1 ⟨rfl, hb1⟩; have h1 := h.below hb1; have hA := h1.cA; have hlen := h1.lenA hal)
        go_ret2
        exact ⟨rfl, h.below hb1, Below.exc hb1 _⟩
    · have hE : rotE g a t s = 0 := by unfold rotE; rw [if_pos hc, hm, if_neg hf]
      have hN' : rotN g a t s = m + 1 := by unfold rotN; rw [hE, hm]; rfl
      have hA' : rotA g a t s = setA (t, s) (m + 1) a := by unfold rotA; rw [hE, hm]; rfl
      rw [hE, hN', hA']
      clear hE hN' hA' hN hm
      have hm16 : ¬ 16 ≤ m := fun h => hf (.inl h)
      by_cases hm1 : m = 1
      · subst hm1
        have hf' : ¬ (16 : Int) ≤ (a.length : Int) := fun h => hf (.inr ⟨rfl, by omega⟩)
        go_wp2_with (go_at_call 18; refine t1.mono ?_; rintro e w1 ⟨rfl, hb1⟩; have h1 := h.below hb1; have hA := h1.cA; have hlen := h1.lenA hal; obtain ⟨o, hup, hat, hex⟩ := h1.upA t s 2)
        go_ret2
        exact ⟨rfl, hat, (Below.exc hb1 _).trans hex⟩
      · have hm1' : (m == 1) = false := by simpa using hm1
        go_wp2_with (go_at_call 18; refine t1.mono ?_; rintro e w1 ⟨rfl, hb1⟩; have h1 := h.below hb1; have hA := h1.cA; have hlen := h1.lenA hal; obtain ⟨o, hup, hat, hex⟩ := h1.upA t s (m + 1))
        go_ret2
        exact ⟨rfl, hat, (Below.exc hb1 _).trans hex⟩
  · have hE : rotE g a t s = curE g t s := by unfold rotE; rw [if_neg hc]
    have hN' : rotN g a t s = 0 := by unfold rotN; rw [hE, if_neg hc]
    have hA' : rotA g a t s = a := by unfold rotA; rw [hE, if_neg hc]
    have hN : curN g a t s = 0 := by unfold curN; rw [if_neg hc]
    rw [hE, hN', hA']
    rw [hN] at t1
    generalize curE g t s = m at *
    clear hE hN' hA' hN
    go_wp2_with (go_at_call 18; refine t1.mono ?_; rintro e w1 ⟨rfl, hb1⟩)
    go_ret2
    exact ⟨rfl, h.below hb1, Below.exc hb1 _⟩
end Go.Proofs.YtbemljgcclaopaaGreatDoor
