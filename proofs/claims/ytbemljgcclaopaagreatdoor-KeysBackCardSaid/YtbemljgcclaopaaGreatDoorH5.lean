/- hash.Tag: what it reckons, and its walk. -/
import Derived.StillTailTactics
import Derived.Deep.DeepCutAuto
import Derived.Deep.CutBlock
import Derived.Test.YtbemljgcclaopaaGreatDoorH4
namespace Go.Proofs.YtbemljgcclaopaaGreatDoor
open Go.RowKit
def xorB (x c : Int) : Int := bits BinOp.xor .u8 x c
theorem xorB_byte (x c : Int) : Byte (xorB x c) := by
  unfold Byte xorB bits; simp [IntKind.wrap, IntKind.bits, IntKind.signed]; omega
def keyB (k : List Int) : List Int := if 64 < k.length then sumB k else k
def pad64 (k : List Int) : List Int := k ++ List.replicate (64 - k.length) 0
def xorAll (l : List Int) (c : Int) : List Int := l.map fun x => xorB x c
/-- The HMAC of b by k, as the program reckons it. -/
def tagB (k b : List Int) : List Int := sumB (xorAll (pad64 (keyB k)) 92 ++ sumB (xorAll (pad64 (keyB k)) 54 ++ b))
theorem tagB_len (k b : List Int) : (tagB k b).length = 32 := rfl
theorem tagB_byte (k b : List Int) : ∀ x ∈ tagB k b, Byte x := sumB_byte _
theorem keyB_len (k : List Int) : (keyB k).length ≤ 64 := by
  unfold keyB; split
  · rw [sumB_len]; omega
  · omega
theorem pad64_len (k : List Int) (h : k.length ≤ 64) : (pad64 k).length = 64 := by simp [pad64]; omega
def xorPre (l : List Int) (c : Int) (i : Nat) : List Int := xorAll (l.take i) c ++ l.drop i
theorem xorPre_zero (l : List Int) (c : Int) : xorPre l c 0 = l := by simp [xorPre, xorAll]
theorem xorPre_all (l : List Int) (c : Int) (n : Nat) (h : l.length = n) : xorPre l c n = xorAll l c := by subst h; simp [xorPre]
theorem xorPre_len (l : List Int) (c : Int) (i : Nat) : (xorPre l c i).length = l.length := by simp [xorPre, xorAll]; omega
theorem xorPre_at (l : List Int) (c : Int) (i : Nat) (h : i < l.length) : (xorPre l c i)[i]? = some (l[i]?.getD 0) := by
  unfold xorPre
  rw [List.getElem?_append_right (by simp [xorAll]; omega)]
  have : (xorAll (l.take i) c).length = i := by simp [xorAll]; omega
  simp [this, h]
theorem xorPre_step (l : List Int) (c : Int) (i : Nat) (h : i < l.length) : (xorPre l c i).set i (xorB (l[i]?.getD 0) c) = xorPre l c (i + 1) := by
  apply List.ext_getElem?
  intro j
  have hl : (xorAll (l.take i) c).length = i := by simp [xorAll]; omega
  have hl1 : (xorAll (l.take (i + 1)) c).length = i + 1 := by simp [xorAll]; omega
  rw [List.getElem?_set]
  by_cases hj : i = j
  · subst hj
    rw [if_pos rfl, if_pos (by rw [xorPre_len]; exact h)]
    unfold xorPre
    rw [List.getElem?_append_left (by omega)]
    simp [xorAll, h]
  · rw [if_neg hj]
    unfold xorPre
    by_cases hlt : j < i
    · rw [List.getElem?_append_left (by omega), List.getElem?_append_left (by omega)]
      simp only [xorAll, List.getElem?_map, List.getElem?_take]
      rw [if_pos hlt, if_pos (by omega)]
    · rw [List.getElem?_append_right (by omega), List.getElem?_append_right (by omega), hl, hl1]
      simp only [List.getElem?_drop]
      congr 1; omega
theorem xorAll_len (l : List Int) (c : Int) : (xorAll l c).length = l.length := by simp [xorAll]
theorem xorAll_byte (l : List Int) (c : Int) : ∀ x ∈ xorAll l c, Byte x := by
  intro x hx; simp only [xorAll, List.mem_map] at hx; obtain ⟨y, _, rfl⟩ := hx; exact xorB_byte _ _
set_option maxRecDepth 100000 in
set_option maxHeartbeats 2000000 in
theorem tag_any (a1 a2 : Option Addr) (n1 c1 n2 c2 : Nat) (kl bl : List Int) (hkl : ∀ x ∈ kl, Byte x) (hbl : ∀ x ∈ bl, Byte x) (w : World) (hs1 : Src w a1 (Ints .u8 kl)) (hs2 : Src w a2 (Ints .u8 bl))
    (hn1 : kl.length = n1) (hc1 : n1 ≤ c1) (hz1 : a1 = none → c1 = 0) (hn2 : bl.length = n2) (hc2 : n2 ≤ c2) (hz2 : a2 = none → c2 = 0) (hb1 : n1 ≤ 1099511627776) (hb2 : n2 ≤ 1099511627000) :
    Calls Tryz.prog 65 #[.slice a1 n1 c1, .slice a2 n2 c2] w fun e w' => e = .returned (.agg (Ints .u8 (tagB kl bl)).toArray) ∧ Below w.heap.size w w' := by
  have HK := hid hkl
  have HB := hid hbl
  have HN1 := hid hn1
  have HN2 := hid hn2
  clear hkl hbl hn1 hn2
  go_enter Tryz.func65, Tryz.ntmps65
  go_upto_if 12 with (fail)
  go_cut [0] (fun b wx => ∃ a0 n0 c0, b = .slice a0 n0 c0 ∧ Src wx a0 (Ints .u8 (keyB kl)) ∧ (keyB kl).length = n0 ∧ n0 ≤ c0 ∧ (a0 = none → c0 = 0) ∧ Row wx w.heap.size 23 (Ints .u8 (List.replicate 32 0)) ∧ Below w.heap.size w wx)
  case first =>
    have hR : Row (w.alloc (.cells (Ints .u8 (List.replicate 32 0)).toArray 23)) w.heap.size 23 (Ints .u8 (List.replicate 32 0)) := Row.newAt rfl rfl
    have hB0 := (Below.refl w.heap.size w).alloc (Nat.le_refl _) (.cells (Ints .u8 (List.replicate 32 0)).toArray 23)
    by_cases h64 : 64 < n1
    · have hk : keyB kl = sumB kl := if_pos (by have := HN1.out; omega)
      have HKK := hid hk
      clear hk
      go_wp2_with fail
      refine (sum_any a1 n1 c1 kl HK.out _ (hs1.below hB0 (Nat.le_refl _)) HN1.out hc1 hb1).mono ?_
      rintro e w1 ⟨rfl, hb⟩
      have hR1 := hR.below hb (by simp)
      have hsz : w.heap.size < w1.heap.size := hR1.lt
      have hB1 := hB0.trans (hb.mono (by simp))
      go_wp2_with (refine wpList_store_row rfl 23 (.tmp 5) (.tmp 14) rfl w1.heap.size (Ints .u8 (sumB kl)).toArray rfl rfl 23 (Ints .u8 (List.replicate 32 0)).toArray (Row.newAt rfl rfl) (by kernel_rfl) (by kernel_rfl) (by kernel_rfl) ?_)
      go_meet
      refine ⟨some ⟨w1.heap.size, 0, none⟩, 32, 32, rfl, ?_, ?_, by omega, by simp, (hR1.alloc _).putOther (by omega) _, below_setRow (hB1.alloc (by omega) _) (by omega) _⟩
      · rw [HKK.out]
        exact Src.rowAll (Row.put (old := Ints .u8 (List.replicate 32 0)) (Row.newAt rfl rfl) (Ints .u8 (sumB kl)))
      · rw [HKK.out]; rfl
    · have hk : keyB kl = kl := if_neg (by have := HN1.out; omega)
      have HKK := hid hk
      clear hk
      go_wp2_with fail
      go_meet
      exact ⟨a1, n1, c1, rfl, by rw [HKK.out]; exact hs1.below hB0 (Nat.le_refl _), by rw [HKK.out]; exact HN1.out, hc1, hz1, hR, hB0⟩
  case rest =>
    obtain ⟨a0, n0, c0, rfl, hs0, hn0, hc0, hz0, hR, hb⟩ := hcut
    rename_i wx
    have hkl := keyB_len kl
    have hn64 : n0 ≤ 64 := by omega
    have hp64 := pad64_len _ hkl
    generalize hkk : keyB kl = k at *
    have HKK := hid hkk
    clear hkk
    have HP64 := hid hp64
    have HN0 := hid hn0
    clear hp64 hn0
    have hsz : w.heap.size < wc.heap.size := hR.lt
    have hR1 : Row ((wc.alloc (.cells (Ints .u8 (List.replicate 64 0)).toArray 134)).alloc (.cells (Ints .u8 (List.replicate 64 0)).toArray 134)) wc.heap.size 134 (Ints .u8 (List.replicate 64 0)) := (Row.newAt rfl rfl).alloc _
    have hR2 : Row ((wc.alloc (.cells (Ints .u8 (List.replicate 64 0)).toArray 134)).alloc (.cells (Ints .u8 (List.replicate 64 0)).toArray 134)) (wc.heap.size + 1) 134 (Ints .u8 (List.replicate 64 0)) := Row.newAt (by simp) rfl
    have hBn : Below wc.heap.size wc ((wc.alloc (.cells (Ints .u8 (List.replicate 64 0)).toArray 134)).alloc (.cells (Ints .u8 (List.replicate 64 0)).toArray 134)) := ((Below.refl wc.heap.size wc).alloc (Nat.le_refl _) _).alloc (by simp) _
    have HPK : Hid (∀ w', Row w' wc.heap.size 134 (Ints .u8 k ++ (Ints .u8 (List.replicate 64 0)).drop n0) → Row w' wc.heap.size 134 (Ints .u8 (pad64 k))) := by
      intro w' h
      rw [ints_drop, ints_append, List.drop_replicate] at h
      unfold pad64; rw [HN0.out]; exact h
    go_wp2_with (first
      | (refine wpList_copyAt _ rfl (.tmp 16) (.tmp 17) 24 24 rfl 5 Tryz.underlying24 (by kernel_rfl) wc.heap.size 64 64 134 (Ints .u8 (List.replicate 64 0)) rfl hR1 (by simp [Ints]) a0 n0 c0 (Ints .u8 k) rfl (by rw [ints_len]; exact HN0.out) hn64 (hs0.below hBn (Nat.le_refl _)) (ints_one _ _) hz0 ?_; intro w2 hq1 hg2; have hr1 := HPK.out w2 hq1; clear hq1; have hr2 := hR2.grown hg2 (by simp))
      | (refine wpList_load_row rfl 134 (.tmp 6) rfl wc.heap.size rfl 134 (Ints .u8 (pad64 k)).toArray (0, 0) _ hr1 Tryz.underlying134 rfl (by rw [List.size_toArray, ints_len, HP64.out]; kernel_rfl) ?_)
      | (refine wpList_store_row rfl 134 (.tmp 7) (.tmp 19) rfl (wc.heap.size + 1) (Ints .u8 (pad64 k)).toArray rfl rfl 134 (Ints .u8 (List.replicate 64 0)).toArray hr2 (by rw [List.size_toArray, ints_len, HP64.out]; kernel_rfl) (by rw [List.size_toArray, List.size_toArray, ints_len, ints_len, HP64.out]; rfl) (by rw [Array.all_eq_true_iff_forall_mem]; intro u hu; exact ints_one _ _ u (by simpa using hu)) ?_))
    have hq1 : Row (w2.setRow (wc.heap.size + 1) (Ints .u8 (pad64 k)).toArray) wc.heap.size 134 (Ints .u8 (xorPre (pad64 k) 54 0)) := by rw [xorPre_zero]; exact hr1.putOther (by omega) _
    have hq2 : Row (w2.setRow (wc.heap.size + 1) (Ints .u8 (pad64 k)).toArray) (wc.heap.size + 1) 134 (Ints .u8 (xorPre (pad64 k) 92 0)) := by rw [xorPre_zero]; exact hr2.put _
    have hqB : Below wc.heap.size wc (w2.setRow (wc.heap.size + 1) (Ints .u8 (pad64 k)).toArray) := below_setRow (hBn.grown hg2 (by simp; omega) (fun j e => by cases e; exact Nat.le_refl _)) (by omega) _
    clear hR1 hR2 hBn hr1 hr2 hg2
    go_loopw [20] (fun i wx => ∃ j : Nat, j ≤ 64 ∧ i = .int .i64 j ∧ Row wx wc.heap.size 134 (Ints .u8 (xorPre (pad64 k) 54 j)) ∧ Row wx (wc.heap.size + 1) 134 (Ints .u8 (xorPre (pad64 k) 92 j)) ∧ Below wc.heap.size wc wx) (fun i _ => 64 - (intOf i).toNat)
    case atStart => exact ⟨0, by omega, rfl, hq1, hq2, hqB⟩
    case round =>
      clear hq1 hq2 hqB
      obtain ⟨j, hj, rfl, hr1, hr2, hB⟩ := hrel
      by_cases hj64 : j < 64
      · have p1 := hr1.cell (i := j) (v := .int .u8 ((pad64 k)[j]?.getD 0)) (by simp only [Ints, List.getElem?_map]; rw [xorPre_at _ _ _ (by rw [HP64.out]; exact hj64)]; rfl)
        have p2 := hr2.cell (i := j) (v := .int .u8 ((pad64 k)[j]?.getD 0)) (by simp only [Ints, List.getElem?_map]; rw [xorPre_at _ _ _ (by rw [HP64.out]; exact hj64)]; rfl)
        have f1 := hr1.frozen j
        have f2 := hr2.frozen j
        go_wp2
        go_roundw
        case rel => exact ⟨j + 1, by omega, by go_num, by rw [← xorPre_step _ _ _ (by rw [HP64.out]; exact hj64)]; exact (hr1.setInt j _).other (by simp) _, by rw [← xorPre_step _ _ _ (by rw [HP64.out]; exact hj64)]; exact (hr2.other (by simp) _).setInt j _, (hB.setCell (Nat.le_refl _) _).setCell (by simp) _⟩
        case measure => simp [intOf]; omega
      · have hj0 : j = 64 := by omega
        subst hj0
        rw [xorPre_all _ _ _ HP64.out] at hr1 hr2
        have hbr := hb.trans (hB.mono (Nat.le_of_lt hsz))
        have hszr := hB.size
        have hs2' := hs2.below hbr (Nat.le_refl _)
        have hin : (xorAll (pad64 k) 54 ++ bl).length = 64 + n2 := by rw [List.length_append, xorAll_len, HP64.out, HN2.out]
        have hinb : ∀ x ∈ xorAll (pad64 k) 54 ++ bl, Byte x := by
          intro x hx
          rcases List.mem_append.1 hx with hx | hx
          · exact xorAll_byte _ _ x hx
          · exact HB.out x hx
        have HIN := hid hin
        have HINB := hid hinb
        clear hin hinb hs2 hb hs1 hs0
        have hlt1 := hr1.lt
        have hlt2 := hr2.lt
        go_wp2_with (first
          | (at_builtin; refine wpList_fullB _ rfl (.tmp 34) (.tmp 35) rfl ⟨wc.heap.size, 0, none⟩ 64 (xorAll (pad64 k) 54) rfl (by rw [xorAll_len]; exact HP64.out) (Src.rowAll hr1) a2 n2 c2 bl rfl HN2.out hs2' (by omega) hz2 ?_; intro a4 c4 w4 hc4 hs4 hg4; have hgs4 := hg4.size)
          | (go_at_call 96; refine (sum_any a4 (64 + n2) c4 (xorAll (pad64 k) 54 ++ bl) HINB.out _ hs4 HIN.out hc4 (by omega)).mono ?_; rintro e w5 ⟨rfl, hb5⟩; have hgs5 := hb5.size)
          | (refine wpList_store_row rfl 23 (.tmp 9) (.tmp 37) rfl w5.heap.size (Ints .u8 (sumB (xorAll (pad64 k) 54 ++ bl))).toArray rfl rfl 23 (Ints .u8 (List.replicate 32 0)).toArray (Row.newAt rfl rfl) (by kernel_rfl) (by kernel_rfl) (by rw [Array.all_eq_true_iff_forall_mem]; intro u hu; exact ints_one _ _ u (by simpa using hu)) ?_))
        have e1 : Row ((w5.alloc (.cells #[.int .u8 0, .int .u8 0, .int .u8 0, .int .u8 0, .int .u8 0, .int .u8 0, .int .u8 0, .int .u8 0, .int .u8 0, .int .u8 0, .int .u8 0, .int .u8 0, .int .u8 0, .int .u8 0, .int .u8 0, .int .u8 0, .int .u8 0, .int .u8 0, .int .u8 0, .int .u8 0, .int .u8 0, .int .u8 0, .int .u8 0, .int .u8 0, .int .u8 0, .int .u8 0, .int .u8 0, .int .u8 0, .int .u8 0, .int .u8 0, .int .u8 0, .int .u8 0] 23)).setRow w5.heap.size (Ints .u8 (sumB (xorAll (pad64 k) 54 ++ bl))).toArray) w5.heap.size 23 (Ints .u8 (sumB (xorAll (pad64 k) 54 ++ bl))) := Row.put (old := Ints .u8 (List.replicate 32 0)) (Row.newAt rfl rfl) _
        have e2 : Row ((w5.alloc (.cells #[.int .u8 0, .int .u8 0, .int .u8 0, .int .u8 0, .int .u8 0, .int .u8 0, .int .u8 0, .int .u8 0, .int .u8 0, .int .u8 0, .int .u8 0, .int .u8 0, .int .u8 0, .int .u8 0, .int .u8 0, .int .u8 0, .int .u8 0, .int .u8 0, .int .u8 0, .int .u8 0, .int .u8 0, .int .u8 0, .int .u8 0, .int .u8 0, .int .u8 0, .int .u8 0, .int .u8 0, .int .u8 0, .int .u8 0, .int .u8 0, .int .u8 0, .int .u8 0] 23)).setRow w5.heap.size (Ints .u8 (sumB (xorAll (pad64 k) 54 ++ bl))).toArray) (wc.heap.size + 1) 134 (Ints .u8 (xorAll (pad64 k) 92)) := ((((hr2.grown hg4 (by simp)).below hb5 (by omega))).alloc _).putOther (by omega) _
        have e3 : Row ((w5.alloc (.cells #[.int .u8 0, .int .u8 0, .int .u8 0, .int .u8 0, .int .u8 0, .int .u8 0, .int .u8 0, .int .u8 0, .int .u8 0, .int .u8 0, .int .u8 0, .int .u8 0, .int .u8 0, .int .u8 0, .int .u8 0, .int .u8 0, .int .u8 0, .int .u8 0, .int .u8 0, .int .u8 0, .int .u8 0, .int .u8 0, .int .u8 0, .int .u8 0, .int .u8 0, .int .u8 0, .int .u8 0, .int .u8 0, .int .u8 0, .int .u8 0, .int .u8 0, .int .u8 0] 23)).setRow w5.heap.size (Ints .u8 (sumB (xorAll (pad64 k) 54 ++ bl))).toArray) w.heap.size 23 (Ints .u8 (List.replicate 32 0)) := ((((((hR.below hB hsz)).grown hg4 (by simp)).below hb5 (by omega))).alloc _).putOther (by omega) _
        have e4 : Below w.heap.size w ((w5.alloc (.cells #[.int .u8 0, .int .u8 0, .int .u8 0, .int .u8 0, .int .u8 0, .int .u8 0, .int .u8 0, .int .u8 0, .int .u8 0, .int .u8 0, .int .u8 0, .int .u8 0, .int .u8 0, .int .u8 0, .int .u8 0, .int .u8 0, .int .u8 0, .int .u8 0, .int .u8 0, .int .u8 0, .int .u8 0, .int .u8 0, .int .u8 0, .int .u8 0, .int .u8 0, .int .u8 0, .int .u8 0, .int .u8 0, .int .u8 0, .int .u8 0, .int .u8 0, .int .u8 0] 23)).setRow w5.heap.size (Ints .u8 (sumB (xorAll (pad64 k) 54 ++ bl))).toArray) := below_setRow (((hbr.grown hg4 (by omega) (fun j e => by cases e)).trans (hb5.mono (by omega))).alloc (by omega) _) (by omega) _
        go_frame
        generalize ((w5.alloc (.cells #[.int .u8 0, .int .u8 0, .int .u8 0, .int .u8 0, .int .u8 0, .int .u8 0, .int .u8 0, .int .u8 0, .int .u8 0, .int .u8 0, .int .u8 0, .int .u8 0, .int .u8 0, .int .u8 0, .int .u8 0, .int .u8 0, .int .u8 0, .int .u8 0, .int .u8 0, .int .u8 0, .int .u8 0, .int .u8 0, .int .u8 0, .int .u8 0, .int .u8 0, .int .u8 0, .int .u8 0, .int .u8 0, .int .u8 0, .int .u8 0, .int .u8 0, .int .u8 0] 23)).setRow w5.heap.size (Ints .u8 (sumB (xorAll (pad64 k) 54 ++ bl))).toArray) = W5 at e1 e2 e3 e4 ⊢
        generalize w5.heap.size = g5 at *
        clear hs4 hg4 hb5 hgs5 hs2' hr1 hr2 hbr
        go_still_tail 2, (by kernel_rfl)
        have e1' := e1.drew
        have e2' := e2.drew
        have e3' := e3.drew
        have e4' := e4.drew
        change wpList _ _ _ _ _ W5.drew
        clear e1 e2 e3 e4
        generalize W5.drew = W6 at e1' e2' e3' e4' ⊢
        have hlt3 := e3'.lt
        have hlt4 := e1'.lt
        have hout : (xorAll (pad64 k) 92 ++ sumB (xorAll (pad64 k) 54 ++ bl)).length = 64 + 32 := by rw [List.length_append, xorAll_len, HP64.out, sumB_len]
        have hob : ∀ x ∈ xorAll (pad64 k) 92 ++ sumB (xorAll (pad64 k) 54 ++ bl), Byte x := by
          intro x hx
          rcases List.mem_append.1 hx with hx | hx
          · exact xorAll_byte _ _ x hx
          · exact sumB_byte _ x hx
        have HOUT := hid hout
        have HOB := hid hob
        clear hout hob
        go_wp2_with (first
          | (at_builtin; refine wpList_fullB _ rfl (.tmp 38) (.tmp 39) rfl ⟨wc.heap.size + 1, 0, none⟩ 64 (xorAll (pad64 k) 92) rfl (by rw [xorAll_len]; exact HP64.out) (Src.rowAll e2') (some ⟨g5, 0, none⟩) 32 32 (sumB (xorAll (pad64 k) 54 ++ bl)) rfl (sumB_len _) (Src.rowAll e1') (by omega) (fun h => by cases h) ?_; intro a7 c7 w7 hc7 hs7 hg7; have hgs7 := hg7.size)
          | (go_at_call 96; refine (sum_any a7 (64 + 32) c7 (xorAll (pad64 k) 92 ++ sumB (xorAll (pad64 k) 54 ++ bl)) HOB.out _ hs7 HOUT.out hc7 (by omega)).mono ?_; rintro e w8 ⟨rfl, hb8⟩; have hgs8 := hb8.size; have hr8 := (e3'.grown hg7 (by simp)).below hb8 (by omega))
          | (refine wpList_store_row rfl 23 (.tmp 4) (.tmp 41) rfl w.heap.size (Ints .u8 (sumB (xorAll (pad64 k) 92 ++ sumB (xorAll (pad64 k) 54 ++ bl)))).toArray rfl rfl 23 (Ints .u8 (List.replicate 32 0)).toArray hr8 (by kernel_rfl) (by kernel_rfl) (by rw [Array.all_eq_true_iff_forall_mem]; intro u hu; exact ints_one _ _ u (by simpa using hu)) ?_))
        refine bodyPost_ret (v := .agg (Ints .u8 (tagB kl bl)).toArray) ?_ rfl ⟨rfl, below_setRow ((e4'.grown hg7 (by omega) (fun j e => by cases e)).trans (hb8.mono (by omega))) (Nat.le_refl _) _⟩
        unfold tagB
        rw [HKK.out]
        exact results_cell_row rfl _ _ w.heap.size 23 _ (0, 0) _ rfl (setRow_heap _ _ _ _ _ _ hr8) Tryz.underlying23 rfl (by kernel_rfl)
end Go.Proofs.YtbemljgcclaopaaGreatDoor
