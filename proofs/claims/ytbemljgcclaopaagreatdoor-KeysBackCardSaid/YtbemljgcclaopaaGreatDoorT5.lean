/- keys.Open. -/
import Derived.Test.YtbemljgcclaopaaGreatDoorT4
import Derived.Test.YtbemljgcclaopaaGreatDoorS5
namespace Go.Proofs.YtbemljgcclaopaaGreatDoor
open Go.RowKit
def fst0 (d : List Int) : Int := d[0]?.getD 0
def opE (root : List Int) (g : Gone) (a : Ats) (t s : ByteArray) (d : List Int) : Int := if curE g t s = 0 then (if d.length = 0 then 3 else if keyE g a t s (fst0 d) = 0 then openE (keyV root t s (fst0 d).toNat) (d.drop 1) else keyE g a t s (fst0 d)) else curE g t s
def opN (root : List Int) (g : Gone) (a : Ats) (t s : ByteArray) (d : List Int) : Int := if opE root g a t s d = 0 then fst0 d else 0
def opB (root : List Int) (g : Gone) (a : Ats) (t s : ByteArray) (d : List Int) : List Int := if opE root g a t s d = 0 then openB (keyV root t s (fst0 d).toNat) (d.drop 1) else []
theorem keyV_len (root : List Int) (t s : ByteArray) (v : Nat) : (keyV root t s v).length = 32 := rfl
theorem keyV_byte (root : List Int) (t s : ByteArray) (v : Nat) : ∀ x ∈ keyV root t s v, Byte x := tagB_byte _ _
theorem cutA_src {w : World} {a : Option Addr} {l : List Value} (h : Src w a l) {k c : Nat} (hc : l.length ≤ c) : Src w (cutA a k c) (l.drop k) := h.cut hc
attribute [-go_sem] Instr.loadAt sliced
set_option maxRecDepth 100000 in
set_option maxHeartbeats 2000000 in
theorem openK_meth (t s : ByteArray) (ht : t.size ≤ 9223372036854775807) (hs : s.size ≤ 9223372036854775807) (a2 : Option Addr) (m c2 : Nat) (d : List Int) (hd : ∀ x ∈ d, Byte x) (w : World) (hT : Tz w) {b mg ma : Nat} {root : List Int} {n : Int} {g : Gone} {a : Ats} (h : IsTree w b mg ma root n g a)
    (ha : verN a t s ≤ 16) (hsd : Src w a2 (Ints .u8 d)) (hdl : d.length = m) (hc : m ≤ c2) (hc2 : c2 ≤ maxLen) :
    Calls Tryz.prog 9 #[.pointer (some ⟨b, 0, none⟩), .string t, .string s, .slice a2 m c2] w fun e w' => ∃ v, e = .returned (.tuple #[v, .int .i64 (opN root g a t s d), .int .i64 (opE root g a t s d)]) ∧ OwnB w' w.heap.size v (opB root g a t s d) ∧ Below w.heap.size w w' := by
  have HD := hid hd
  have HDL := hid hdl
  have HC2 := hid hc2
  clear hd hdl hc2
  have t1 := current_any t s ht hs w h
  go_enter Tryz.func9, Tryz.ntmps9
  by_cases hcu : curE g t s = 0
  · have hN : curN g a t s = verN a t s := by unfold curN; rw [if_pos hcu]
    rw [hcu, hN] at t1
    rcases Nat.eq_zero_or_pos m with hm0 | hm0
    · subst hm0
      have hE : opE root g a t s d = 3 := by unfold opE; rw [if_pos hcu, if_pos HDL.out]
      have hN' : opN root g a t s d = 0 := by unfold opN; rw [hE]; rfl
      have hB' : opB root g a t s d = [] := by unfold opB; rw [hE]; rfl
      rw [hE, hN', hB']
      generalize verN a t s = vn at *
      clear hE hN' hB' hN
      go_wp2_with (go_at_call 18; refine t1.mono ?_; rintro e w1 ⟨rfl, hb1⟩)
      go_ret3
      exact ⟨_, rfl, World.ownsRow_nil _ _ _ _, hb1⟩
    · obtain ⟨b2, off2, rfl, hb2⟩ := hsd.addr (by rw [ints_len, HDL.out]; exact hm0)
      obtain ⟨x0, hx0⟩ : ∃ x0, fst0 d = x0 := ⟨_, rfl⟩
      have hby : Byte x0 := by rw [← hx0]; unfold fst0; rw [List.getElem?_eq_getElem (by rw [HDL.out]; exact hm0)]; exact HD.out _ (List.getElem_mem _)
      have hm0' : ¬ (m : Int) = 0 := by omega
      have hm1' : ((m : Int) == 0) = false := by simpa using hm0'
      have hx64 : wrap64 x0 = x0 := by unfold Byte at hby; unfold wrap64; omega
      have p0 : w.cell? ⟨b2, off2, none⟩ = some (.int .u8 x0) := by
        have := hsd.at (j := 0) (u := .int .u8 x0) (by simp only [Ints, List.getElem?_map, ← hx0, fst0]; rw [List.getElem?_eq_getElem (by rw [HDL.out]; exact hm0)]; simp)
        simpa using this
      have HX := hid hx0
      clear hx0
      have c0 : (0 : Int) ≤ 0 := Int.le_refl _
      have hkl := keyH_len root g a t s x0
      have hkb := keyH_byte root g a t s x0
      obtain ⟨KL, hKL⟩ : ∃ KL, keyH root g a t s x0 = KL := ⟨_, rfl⟩
      obtain ⟨ke, hke⟩ : ∃ ke, keyE g a t s x0 = ke := ⟨_, rfl⟩
      rw [hKL] at hkl hkb
      have HKE := hid hke
      have HKL := hid hKL
      have HL := hid hkl
      have HB := hid hkb
      clear hke hKL hkl hkb
      by_cases hk : ke = 0
      · have hKV : KL = keyV root t s x0.toNat := by rw [← HKL.out]; unfold keyH; rw [HKE.out, if_pos hk]
        have hE : opE root g a t s d = openE KL (d.drop 1) := by unfold opE; rw [if_pos hcu, if_neg (by rw [HDL.out]; omega), HX.out, HKE.out, if_pos hk, hKV]
        have HE := hid hE
        have HKV := hid hKV
        clear hE hKV
        subst hk
        go_wp2_with (first
          | (go_at_call 18; refine t1.mono ?_; rintro e w1 ⟨rfl, hb1⟩; have q0 := loadB w1 _ _ ((hb1.cell (p := ⟨b2, off2, none⟩) hb2).trans p0); have t2 := key_meth t s ht hs x0 w1 (hT.below hb1) (h.below hb1) ha; rw [HKE.out, HKL.out] at t2)
          | (go_at_call 19; refine t2.mono ?_; rintro e w2 ⟨rfl, hb2'⟩)
          | (refine wpList_store_row rfl 23 (.tmp 14) (.tmp 44) rfl w2.heap.size (Ints .u8 KL).toArray rfl rfl 23 (Ints .u8 (List.replicate 32 0)).toArray (Row.newAt rfl rfl) (by rw [List.size_toArray, ints_len, HL.out]; kernel_rfl) (by rw [List.size_toArray, List.size_toArray, ints_len, ints_len, HL.out]; rfl) (by rw [Array.all_eq_true_iff_forall_mem]; intro u hu; exact ints_one _ _ u (by simpa using hu)) ?_))
        have hbn : Below w2.heap.size w2 ((w2.alloc (.cells #[.int .u8 0, .int .u8 0, .int .u8 0, .int .u8 0, .int .u8 0, .int .u8 0, .int .u8 0, .int .u8 0, .int .u8 0, .int .u8 0, .int .u8 0, .int .u8 0, .int .u8 0, .int .u8 0, .int .u8 0, .int .u8 0, .int .u8 0, .int .u8 0, .int .u8 0, .int .u8 0, .int .u8 0, .int .u8 0, .int .u8 0, .int .u8 0, .int .u8 0, .int .u8 0, .int .u8 0, .int .u8 0, .int .u8 0, .int .u8 0, .int .u8 0, .int .u8 0] 23)).setRow w2.heap.size (Ints .u8 KL).toArray) := below_setRow ((Below.refl _ _).alloc (Nat.le_refl _) _) (Nat.le_refl _) _
        have hrK : Row ((w2.alloc (.cells #[.int .u8 0, .int .u8 0, .int .u8 0, .int .u8 0, .int .u8 0, .int .u8 0, .int .u8 0, .int .u8 0, .int .u8 0, .int .u8 0, .int .u8 0, .int .u8 0, .int .u8 0, .int .u8 0, .int .u8 0, .int .u8 0, .int .u8 0, .int .u8 0, .int .u8 0, .int .u8 0, .int .u8 0, .int .u8 0, .int .u8 0, .int .u8 0, .int .u8 0, .int .u8 0, .int .u8 0, .int .u8 0, .int .u8 0, .int .u8 0, .int .u8 0, .int .u8 0] 23)).setRow w2.heap.size (Ints .u8 KL).toArray) w2.heap.size 23 (Ints .u8 KL) := Row.put (old := Ints .u8 (List.replicate 32 0)) (Row.newAt rfl rfl) _
        have hbw : Below w.heap.size w ((w2.alloc (.cells #[.int .u8 0, .int .u8 0, .int .u8 0, .int .u8 0, .int .u8 0, .int .u8 0, .int .u8 0, .int .u8 0, .int .u8 0, .int .u8 0, .int .u8 0, .int .u8 0, .int .u8 0, .int .u8 0, .int .u8 0, .int .u8 0, .int .u8 0, .int .u8 0, .int .u8 0, .int .u8 0, .int .u8 0, .int .u8 0, .int .u8 0, .int .u8 0, .int .u8 0, .int .u8 0, .int .u8 0, .int .u8 0, .int .u8 0, .int .u8 0, .int .u8 0, .int .u8 0] 23)).setRow w2.heap.size (Ints .u8 KL).toArray) := (hb1.trans (hb2'.mono hb1.size)).trans (hbn.mono (Nat.le_trans hb1.size hb2'.size))
        clear hbn
        generalize ((w2.alloc (.cells #[.int .u8 0, .int .u8 0, .int .u8 0, .int .u8 0, .int .u8 0, .int .u8 0, .int .u8 0, .int .u8 0, .int .u8 0, .int .u8 0, .int .u8 0, .int .u8 0, .int .u8 0, .int .u8 0, .int .u8 0, .int .u8 0, .int .u8 0, .int .u8 0, .int .u8 0, .int .u8 0, .int .u8 0, .int .u8 0, .int .u8 0, .int .u8 0, .int .u8 0, .int .u8 0, .int .u8 0, .int .u8 0, .int .u8 0, .int .u8 0, .int .u8 0, .int .u8 0] 23)).setRow w2.heap.size (Ints .u8 KL).toArray) = W5 at hrK hbw ⊢
        generalize w2.heap.size = hb at *
        clear hb1 hb2' q0 t2 t1
        have hl0 := run_load_row (P := Tryz.prog) hrK.drew Tryz.underlying23 rfl (by rw [ints_len, HL.out]; kernel_rfl)
        have i1 : (1 : Int) ≤ (m : Int) := by omega
        have hcut := sliced_one (some ⟨b2, off2, none⟩) 1 m c2
        have hsr : Src W5.drew (cutA (some ⟨b2, off2, none⟩) 1 c2) (Ints .u8 (d.drop 1)) := by rw [← ints_drop]; exact (hsd.below (Below.drew hbw) (Nat.le_refl _)).cut (by rw [ints_len, HDL.out]; exact hc)
        obtain ⟨A, hA⟩ : ∃ A, cutA (some (⟨b2, off2, none⟩ : Addr)) 1 c2 = A := ⟨_, rfl⟩
        rw [hA] at hcut hsr
        clear hA
        have t5 := open_any KL HB.out HL.out A (m - 1) (c2 - 1) (d.drop 1) (fun x hx => HD.out x (List.mem_of_mem_drop hx)) W5.drew hsr (by rw [List.length_drop, HDL.out]) (by omega) (by have := HC2.out; omega)
        obtain ⟨oE, hoE⟩ : ∃ oE, openE KL (d.drop 1) = oE := ⟨_, rfl⟩
        have HO := hid hoE
        rw [hoE] at t5
        clear hoE
        go_cut [12, 15] (fun e x wx => e = .int .i64 oE ∧ OwnB wx w.heap.size x (openB KL (d.drop 1)) ∧ Below w.heap.size w wx)
        case first =>
          go_region_with (first
            | (go_at_call 21; (with_reducible refine Calls.mono t5 ?_); rintro e w6 ⟨v6, rfl, hown6, _, hb6⟩))
          all_goals (go_simp; go_wp2_with fail; go_meet; exact ⟨rfl, own_mono hown6 hbw.size, (Below.drew hbw).trans (hb6.mono hbw.size)⟩)
        case rest =>
          obtain ⟨rfl, hown, hB⟩ := hcut
          by_cases ho : oE = 0
          · have hN' : opN root g a t s d = x0 := by unfold opN; rw [HE.out, HO.out, if_pos ho, HX.out]
            have hB' : opB root g a t s d = openB KL (d.drop 1) := by unfold opB; rw [HE.out, HO.out, if_pos ho, HX.out, HKV.out]
            have HN' := hid hN'
            have HB' := hid hB'
            clear hN' hB'
            subst ho
            go_wp2
            go_ret3
            rw [HE.out, HO.out, HN'.out, HB'.out]
            exact ⟨_, rfl, hown, hB⟩
          · have hN' : opN root g a t s d = 0 := by unfold opN; rw [HE.out, HO.out, if_neg ho]
            have hB' : opB root g a t s d = [] := by unfold opB; rw [HE.out, HO.out, if_neg ho]
            have HN' := hid hN'
            have HB' := hid hB'
            clear hN' hB'
            go_wp2
            go_ret3
            rw [HE.out, HO.out, HN'.out, HB'.out]
            exact ⟨_, rfl, World.ownsRow_nil _ _ _ _, hB⟩
      · have hE : opE root g a t s d = ke := by unfold opE; rw [if_pos hcu, if_neg (by rw [HDL.out]; omega), HX.out, HKE.out, if_neg hk]
        have hN' : opN root g a t s d = 0 := by unfold opN; rw [hE, if_neg hk]
        have hB' : opB root g a t s d = [] := by unfold opB; rw [hE, if_neg hk]
        rw [hE, hN', hB']
        clear hE hN' hB' hN
        go_wp2_with (first
          | (go_at_call 18; refine t1.mono ?_; rintro e w1 ⟨rfl, hb1⟩; have q0 := loadB w1 _ _ ((hb1.cell (p := ⟨b2, off2, none⟩) hb2).trans p0); have t2 := key_meth t s ht hs x0 w1 (hT.below hb1) (h.below hb1) ha; rw [HKE.out, HKL.out] at t2)
          | (go_at_call 19; refine t2.mono ?_; rintro e w2 ⟨rfl, hb2'⟩)
          | (refine wpList_store_row rfl 23 (.tmp 14) (.tmp 44) rfl w2.heap.size (Ints .u8 KL).toArray rfl rfl 23 (Ints .u8 (List.replicate 32 0)).toArray (Row.newAt rfl rfl) (by rw [List.size_toArray, ints_len, HL.out]; kernel_rfl) (by rw [List.size_toArray, List.size_toArray, ints_len, ints_len, HL.out]; rfl) (by rw [Array.all_eq_true_iff_forall_mem]; intro u hu; exact ints_one _ _ u (by simpa using hu)) ?_))
        go_ret3
        exact ⟨_, rfl, World.ownsRow_nil _ _ _ _, (hb1.trans (hb2'.mono hb1.size)).trans ((below_setRow ((Below.refl _ _).alloc (Nat.le_refl _) _) (Nat.le_refl _) _).mono (Nat.le_trans hb1.size hb2'.size))⟩
  · have hE : opE root g a t s d = curE g t s := by unfold opE; rw [if_neg hcu]
    have hN' : opN root g a t s d = 0 := by unfold opN; rw [hE, if_neg hcu]
    have hB' : opB root g a t s d = [] := by unfold opB; rw [hE, if_neg hcu]
    have hN : curN g a t s = 0 := by unfold curN; rw [if_neg hcu]
    rw [hE, hB', hN']
    rw [hN] at t1
    generalize curE g t s = k at *
    clear hE hB' hN' hN
    have hkf : (k == 0) = false := by simpa using hcu
    go_wp2_with (go_at_call 18; refine t1.mono ?_; rintro e w1 ⟨rfl, hb1⟩)
    go_ret3
    exact ⟨_, rfl, World.ownsRow_nil _ _ _ _, hb1⟩
end Go.Proofs.YtbemljgcclaopaaGreatDoor
