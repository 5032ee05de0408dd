/- keys.Reseal. -/
import Derived.Test.YtbemljgcclaopaaGreatDoorT5
namespace Go.Proofs.YtbemljgcclaopaaGreatDoor
open Go.RowKit
def rsE (root : List Int) (n : Int) (g : Gone) (a : Ats) (t s : ByteArray) (d : List Int) : Int := if opE root g a t s d = 0 then (if verN a t s = fst0 d then 0 else skE g n t s (opB root g a t s d)) else opE root g a t s d
def rsC (root : List Int) (n : Int) (g : Gone) (a : Ats) (t s : ByteArray) (d : List Int) : Bool := if opE root g a t s d = 0 then (if verN a t s = fst0 d then false else decide (skE g n t s (opB root g a t s d) = 0)) else false
def rsB (root : List Int) (n : Int) (g : Gone) (a : Ats) (t s : ByteArray) (d : List Int) : List Int := if opE root g a t s d = 0 then (if verN a t s = fst0 d then d else skB root g a n t s (opB root g a t s d)) else []
def rsN (root : List Int) (n : Int) (g : Gone) (a : Ats) (t s : ByteArray) (d : List Int) : Int := if opE root g a t s d = 0 then (if verN a t s = fst0 d then n else skN g n t s (opB root g a t s d)) else n
theorem opE_cur {root : List Int} {g : Gone} {a : Ats} {t s : ByteArray} {d : List Int} (h : opE root g a t s d = 0) : curE g t s = 0 := by
  unfold opE at h; split at h
  · assumption
  · exact h
theorem openE_len {key s : List Int} (h : openE key s = 0) : 24 ≤ s.length ∧ s.length ≤ 1048 := by
  unfold openE at h
  split at h
  · cases h
  · split at h
    · cases h
    · omega
theorem opE_len {root : List Int} {g : Gone} {a : Ats} {t s : ByteArray} {d : List Int} (h : opE root g a t s d = 0) : 25 ≤ d.length ∧ d.length ≤ 1049 := by
  have hc := opE_cur h
  unfold opE at h
  rw [if_pos hc] at h
  split at h
  · cases h
  · split at h
    · have := openE_len h
      rw [List.length_drop] at this
      omega
    · contradiction
theorem openB_byte (key s : List Int) : ∀ x ∈ openB key s, Byte x := by
  unfold openB; split
  · exact xorL_byte _ _
  · intro x hx; cases hx
theorem opB_byte (root : List Int) (g : Gone) (a : Ats) (t s : ByteArray) (d : List Int) : ∀ x ∈ opB root g a t s d, Byte x := by
  unfold opB; split
  · exact openB_byte _ _
  · intro x hx; cases hx
set_option maxRecDepth 100000 in
set_option maxHeartbeats 2000000 in
theorem reseal_meth (t s : ByteArray) (ht : t.size ≤ 9223372036854775807) (hs : s.size ≤ 9223372036854775807) (a2 : Option Addr) (m c2 : Nat) (d : List Int) (hd : ∀ x ∈ d, Byte x) (w : World) (hT : Tz w) {b mg ma : Nat} {root : List Int} {n : Int} {g : Gone} {a : Ats} (h : IsTree w b mg ma root n g a)
    (hn : 0 ≤ n ∧ n ≤ 4611686018427387904) (ha : verN a t s ≤ 16) (hsd : Src w a2 (Ints .u8 d)) (hdl : d.length = m) (hc : m ≤ c2) (hc2 : c2 ≤ maxLen) :
    Calls Tryz.prog 10 #[.pointer (some ⟨b, 0, none⟩), .string t, .string s, .slice a2 m c2] w fun e w' => ∃ v, e = .returned (.tuple #[v, .bool (rsC root n g a t s d), .int .i64 (rsE root n g a t s d)]) ∧ OwnB w' w.heap.size v (rsB root n g a t s d) ∧ IsTree w' b mg ma root (rsN root n g a t s d) g a ∧ Exc [b] w w' := by
  have HD := hid hd
  have HDL := hid hdl
  have HC2 := hid hc2
  clear hd hdl hc2
  have t1 := openK_meth t s ht hs a2 m c2 d HD.out w hT h ha hsd HDL.out hc HC2.out
  by_cases ho : opE root g a t s d = 0
  · have hcu := opE_cur ho
    have hlen := opE_len ho
    rw [HDL.out] at hlen
    have hN : curN g a t s = verN a t s := by unfold curN; rw [if_pos hcu]
    have hoN : opN root g a t s d = fst0 d := by unfold opN; rw [if_pos ho]
    rw [ho, hoN] at t1
    by_cases hv : verN a t s = fst0 d
    · have hE : rsE root n g a t s d = 0 := by unfold rsE; rw [if_pos ho, if_pos hv]
      have hC : rsC root n g a t s d = false := by unfold rsC; rw [if_pos ho, if_pos hv]
      have hB : rsB root n g a t s d = d := by unfold rsB; rw [if_pos ho, if_pos hv]
      have hNn : rsN root n g a t s d = n := by unfold rsN; rw [if_pos ho, if_pos hv]
      rw [hE, hC, hB, hNn]
      rw [← hv] at t1
      have HH := hid hcu
      have HN := hid hN
      generalize verN a t s = vn at *
      clear hE hC hB hNn hoN hcu hN hv ho
      go_enter Tryz.func10, Tryz.ntmps10
      go_wp2_with (first
        | (go_at_call 9; refine t1.mono ?_; rintro e w1 ⟨v1, rfl, hown1, hb1⟩; have t2 := current_any t s ht hs w1 (h.below hb1); rw [HH.out, HN.out] at t2)
        | (go_at_call 18; refine t2.mono ?_; rintro e w2 ⟨rfl, hb2⟩; have t3 := clone_any a2 m c2 d w2 HDL.out (by omega) ((hsd.below hb1 (Nat.le_refl _)).below hb2 (by exact Nat.le_refl _)))
        | (go_at_call 22; refine t3.mono ?_; rintro e w3 ⟨v3, rfl, hown3, hb3⟩))
      go_ret3
      have s1 := hb1.size
      have s2 := hb2.size
      have hB := (hb1.trans (hb2.mono s1)).trans (hb3.mono (Nat.le_trans s1 s2))
      exact ⟨_, rfl, own_mono hown3 (Nat.le_trans s1 s2), h.below hB, Below.exc hB _⟩
    · have hE : rsE root n g a t s d = skE g n t s (opB root g a t s d) := by unfold rsE; rw [if_pos ho, if_neg hv]
      have hC : rsC root n g a t s d = decide (skE g n t s (opB root g a t s d) = 0) := by unfold rsC; rw [if_pos ho, if_neg hv]
      have hB : rsB root n g a t s d = skB root g a n t s (opB root g a t s d) := by unfold rsB; rw [if_pos ho, if_neg hv]
      have hNn : rsN root n g a t s d = skN g n t s (opB root g a t s d) := by unfold rsN; rw [if_pos ho, if_neg hv]
      rw [hE, hC, hB, hNn]
      have HB := hid (opB_byte root g a t s d)
      have HH := hid hcu
      have HN := hid hN
      have HA := hid ha
      obtain ⟨kE, hkE⟩ : ∃ kE, skE g n t s (opB root g a t s d) = kE := ⟨_, rfl⟩
      have HK := hid hkE
      rw [hkE]
      obtain ⟨vn, hvn⟩ : ∃ vn, verN a t s = vn := ⟨_, rfl⟩
      have HVN := hid hvn
      rw [hvn] at hv
      have hvb : (vn == fst0 d) = false := by simpa using hv
      clear hE hC hB hNn hoN hcu hN ho hkE hvn hv
      go_enter Tryz.func10, Tryz.ntmps10
      go_wp2_with (first
        | (go_at_call 9; refine t1.mono ?_; rintro e w1 ⟨v1, rfl, hown1, hb1⟩; have t2 := current_any t s ht hs w1 (h.below hb1); rw [HH.out, HN.out, HVN.out] at t2)
        | (go_at_call 18; refine t2.mono ?_; rintro e w2 ⟨rfl, hb2⟩; obtain ⟨a3, c3, rfl, hvl, hc3, hm3, hs3, hz3, hb3⟩ := own_src' hown1; have t3 := sealK_meth t s ht hs a3 _ c3 (opB root g a t s d) HB.out w2 ((hT.below hb1).below hb2) ((h.below hb1).below hb2) hn HA.out (hs3.below hb2 (Nat.le_refl _)) rfl hc3; rw [HK.out] at t3)
        | (go_at_call 6; refine t3.mono ?_; rintro e w3 ⟨v3, rfl, hown3, htr3, hx3⟩))
      all_goals
        go_ret3
        have s1 := hb1.size
        have s2 := hb2.size
        exact ⟨_, rfl, own_mono hown3 (Nat.le_trans s1 s2), htr3, ((Below.exc hb1 _).trans (Below.exc hb2 _)).trans hx3⟩
  · have hE : rsE root n g a t s d = opE root g a t s d := by unfold rsE; rw [if_neg ho]
    have hC : rsC root n g a t s d = false := by unfold rsC; rw [if_neg ho]
    have hB : rsB root n g a t s d = [] := by unfold rsB; rw [if_neg ho]
    have hNn : rsN root n g a t s d = n := by unfold rsN; rw [if_neg ho]
    have hoN : opN root g a t s d = 0 := by unfold opN; rw [if_neg ho]
    rw [hE, hC, hB, hNn]
    rw [hoN] at t1
    obtain ⟨kE, hkE⟩ : ∃ kE, opE root g a t s d = kE := ⟨_, rfl⟩
    rw [hkE] at t1 ho ⊢
    clear hE hC hB hNn hoN hkE
    go_enter Tryz.func10, Tryz.ntmps10
    go_wp2_with (go_at_call 9; refine t1.mono ?_; rintro e w1 ⟨v1, rfl, hown1, hb1⟩)
    go_ret3
    exact ⟨_, rfl, World.ownsRow_nil _ _ _ _, h.below hb1, Below.exc hb1 _⟩
end Go.Proofs.YtbemljgcclaopaaGreatDoor
