/- keys.Key. -/
import Derived.Test.YtbemljgcclaopaaGreatDoorT1
namespace Go.Proofs.YtbemljgcclaopaaGreatDoor
open Go.RowKit
def strN (n : Nat) : ByteArray := ⟨(numS n).toArray⟩
/-- The key of a version. -/
def keyV (root : List Int) (t s : ByteArray) (v : Nat) : List Int := derB root [t, s, strN v]
def keyE (g : Gone) (a : Ats) (t s : ByteArray) (v : Int) : Int := if curE g t s = 0 then (if v < 1 ∨ verN a t s < v then 2 else 0) else curE g t s
def keyH (root : List Int) (g : Gone) (a : Ats) (t s : ByteArray) (v : Int) : List Int := if keyE g a t s v = 0 then keyV root t s v.toNat else List.replicate 32 0
theorem dropWhile_nil {p : UInt8 → Bool} : ∀ {l : List UInt8}, l.dropWhile p = [] → ∀ x ∈ l, p x = true
  | [], _, x, hx => by cases hx
  | y :: l, h, x, hx => by
    by_cases hy : p y = true
    · rw [List.dropWhile_cons, if_pos hy] at h
      rcases List.mem_cons.1 hx with rfl | hx
      · exact hy
      · exact dropWhile_nil h x hx
    · rw [List.dropWhile_cons, if_neg hy] at h; cases h
theorem IsTree.loadRoot {w : World} {b mg ma : Nat} {root : List Int} {n : Int} {g : Gone} {a : Ats} (h : IsTree w b mg ma root n g a) : (Instr.loadAt 23 (.pointer (some ⟨b, 0, none⟩))).run Tryz.prog w = .ok (.agg (Ints .u8 root).toArray) w := by
  refine run_loadAt_mid w b 0 23 _ _ (fun j v hj => ?_) Tryz.underlying23 rfl (by rw [ints_len, h.len]; kernel_rfl)
  have hlt : j < (Ints .u8 root).length := (List.getElem?_eq_some_iff.1 hj).1
  simpa using h.row.cell (i := j) (by rw [List.getElem?_append_left hlt]; exact hj)
theorem keyL_three (t s u : ByteArray) : (keyL [t, s, u]).length = t.size + s.size + u.size + 6 := by
  simp [keyL, strI_len]; omega
theorem nameB_all {t : ByteArray} (h : isNameB t = true) : t.size ≤ 9 ∧ ∀ x ∈ t.data.toList, x ∈ nameChars := by
  unfold isNameB at h
  simp only [Bool.and_eq_true, decide_eq_true_eq] at h
  refine ⟨h.1.2, ?_⟩
  have h2 := h.2
  rw [List.isEmpty_iff] at h2
  unfold Lib.trimS Lib.trimLeftS Lib.trimRightS at h2
  have h3 := dropWhile_nil h2
  have h4 : ∀ (p : UInt8 → Bool) (l : List UInt8), (∀ x ∈ (l.dropWhile p), p x = true) → ∀ x ∈ l, p x = true := by
    intro p l
    induction l with
    | nil => intro _ x hx; cases hx
    | cons y l ih =>
      intro hd x hx
      by_cases hy : p y = true
      · rw [List.dropWhile_cons, if_pos hy] at hd
        rcases List.mem_cons.1 hx with rfl | hx
        · exact hy
        · exact ih hd x hx
      · rw [List.dropWhile_cons, if_neg hy] at hd
        exact hd x hx
  intro x hx
  have := h4 (fun x => nameChars.contains x) t.data.toList.reverse (fun y hy => h3 y (List.mem_reverse.2 hy)) x (by simpa using hx)
  simpa using this
theorem name_noZero {t : ByteArray} (h : isNameB t = true) : NoZero t := fun h0 => by
  have := (nameB_all h).2 0 h0
  revert this; decide
theorem strN_size {n : Nat} (h : n < 9223372036854775808) : (strN n).size ≤ 17 := by
  have := hexT_len h
  show (numS n).length ≤ 17
  simp [numS]; omega
theorem dig_ne (d : Nat) (h : d < 16) : byteU (dig d) ≠ 0 := by
  have : ∀ d : Fin 16, byteU (dig d.val) ≠ 0 := by decide
  exact this ⟨d, h⟩
theorem strN_noZero {n : Nat} (h : n < 9223372036854775808) : NoZero (strN n) := by
  intro h0
  have hl := hexT_len h
  have h1 : (0 : UInt8) ∈ numS n := by simpa [strN] using h0
  rcases List.mem_cons.1 h1 with h1 | h1
  · have : ∀ k : Fin 17, (97 + UInt8.ofNat k.val) ≠ 0 := by decide
    exact this ⟨(hexT n).length, by omega⟩ h1.symm
  · have h2 : (0 : UInt8) ∈ hexS n := by
      unfold hexT Lib.trimPrefix at h1
      split at h1
      · exact List.mem_of_mem_drop h1
      · exact h1
    unfold hexS at h2
    have : ∀ k, ∀ x ∈ digs n k, byteU x ≠ 0 := by
      intro k
      induction k with
      | zero => intro x hx; cases hx
      | succ k ih =>
        intro x hx
        rcases List.mem_cons.1 hx with rfl | hx
        · exact dig_ne _ (by omega)
        · exact ih x hx
    obtain ⟨x, hx, he⟩ := List.mem_map.1 h2
    exact this _ x hx he
attribute [-go_sem] Instr.loadAt
set_option maxRecDepth 100000 in
set_option maxHeartbeats 2000000 in
theorem key_meth (t s : ByteArray) (ht : t.size ≤ 9223372036854775807) (hs : s.size ≤ 9223372036854775807) (v : Int) (w : World) (hT : Tz w) {b mg ma : Nat} {root : List Int} {n : Int} {g : Gone} {a : Ats} (h : IsTree w b mg ma root n g a) (ha : verN a t s ≤ 16) :
    Calls Tryz.prog 19 #[.pointer (some ⟨b, 0, none⟩), .string t, .string s, .int .i64 v] w fun e w' => e = .returned (.tuple #[.agg (Ints .u8 (keyH root g a t s v)).toArray, .int .i64 (keyE g a t s v)]) ∧ Below w.heap.size w w' := by
  go_enter Tryz.func19, Tryz.ntmps19
  have hB0 : Below w.heap.size w (w.alloc (.cells (Ints .u8 (List.replicate 32 0)).toArray 23)) := (Below.refl _ w).alloc (Nat.le_refl _) _
  have hR0 : Row (w.alloc (.cells (Ints .u8 (List.replicate 32 0)).toArray 23)) w.heap.size 23 (Ints .u8 (List.replicate 32 0)) := Row.newAt rfl rfl
  have t1 := current_any t s ht hs _ (h.below hB0)
  by_cases hc : curE g t s = 0
  · have hN : curN g a t s = verN a t s := by unfold curN; rw [if_pos hc]
    rw [hc, hN] at t1
    by_cases hv : v < 1 ∨ verN a t s < v
    · have hE : keyE g a t s v = 2 := by unfold keyE; rw [if_pos hc, if_pos hv]
      have hH : keyH root g a t s v = List.replicate 32 0 := by unfold keyH; rw [hE]; rfl
      rw [hE, hH]
      generalize verN a t s = m at *
      clear hN hE hH
      go_wp2_with (first
        | (go_at_call 18; refine t1.mono ?_; rintro e w1 ⟨rfl, hb1⟩; have hr1 := hR0.below hb1 hR0.lt)
        | (refine wpList_store_row rfl 23 (.tmp 8) (.tmp 34) rfl w.heap.size (Ints .u8 (List.replicate 32 0)).toArray rfl rfl 23 (Ints .u8 (List.replicate 32 0)).toArray hr1 (by kernel_rfl) rfl (by kernel_rfl) ?_))
      all_goals
        refine bodyPost_ret (v := .tuple #[.agg (Ints .u8 (List.replicate 32 0)).toArray, .int .i64 2]) ?_ rfl ⟨rfl, below_setRow (hB0.trans (hb1.mono hB0.size)) (Nat.le_refl _) _⟩
        exact results_row_tmp (p := 8) (q := 9) rfl _ _ w.heap.size 23 _ (0, 0) _ rfl (setRow_heap _ _ _ _ _ _ hr1) Tryz.underlying23 rfl (by kernel_rfl)
    · have hE : keyE g a t s v = 0 := by unfold keyE; rw [if_pos hc, if_neg hv]
      have hv1 : ¬ v < 1 := fun h => hv (.inl h)
      have hv2 : ¬ verN a t s < v := fun h => hv (.inr h)
      obtain ⟨k, rfl⟩ : ∃ k : Nat, v = (k : Int) := ⟨v.toNat, by omega⟩
      have hk16 : k ≤ 16 := by omega
      have hnm : isNameB t = true ∧ isNameB s = true := by
        unfold curE at hc
        split at hc
        · rename_i hh; simpa using hh
        · cases hc
      have hz1 := name_noZero hnm.1
      have hz2 := name_noZero hnm.2
      have hz3 := strN_noZero (n := k) (by omega)
      have hk64 : (keyL [t, s, strN k]).length ≤ 64 := by
        have := (nameB_all hnm.1).1
        have := (nameB_all hnm.2).1
        have := strN_size (n := k) (by omega)
        rw [keyL_three]; omega
      generalize verN a t s = m at *
      clear hN hv
      go_wp2_with (first
        | (go_at_call 18; refine t1.mono ?_; rintro e w1 ⟨rfl, hb1⟩; have t2 := number_any k (by omega) w1 ((hT.below hB0).below hb1))
        | (go_at_call 46; refine t2.mono ?_; rintro e w2 ⟨rfl, hb2⟩; have h2 := ((h.below hB0).below hb1).below hb2; have hld := h2.loadRoot; have t3 := derive_any root h.byte h.len [t, s, strN k] (by intro p hp; simp only [List.mem_cons, List.not_mem_nil, or_false] at hp; rcases hp with rfl | rfl | rfl; exact hz1; exact hz2; exact hz3) hk64 (by simp) (by simp) (some ⟨w2.heap.size, 0, none⟩) 3 3 rfl (by omega) (w2.alloc (.cells #[.string t, .string s, .string (strN k)] 9)) (Src.rowAll (Row.newAt rfl rfl)))
        | (go_at_call 47; refine t3.mono ?_; rintro e w3 ⟨rfl, hb3⟩; have hr3 := ((((hR0.below hb1 hR0.lt).below hb2 (hR0.below hb1 hR0.lt).lt)).alloc (.cells #[.string t, .string s, .string (strN k)] 9)).below hb3 (Row.lt (((hR0.below hb1 hR0.lt).below hb2 (hR0.below hb1 hR0.lt).lt).alloc _)))
        | (refine wpList_store_row rfl 23 (.tmp 8) (.tmp 49) rfl w.heap.size (Ints .u8 (derB root [t, s, strN k])).toArray rfl rfl 23 (Ints .u8 (List.replicate 32 0)).toArray hr3 (by rw [List.size_toArray, ints_len, show (derB root [t, s, strN k]).length = 32 from rfl]; kernel_rfl) (by rw [List.size_toArray, List.size_toArray, ints_len, ints_len]; rfl) (by rw [Array.all_eq_true_iff_forall_mem]; intro u hu; exact ints_one _ _ u (by simpa using hu)) ?_))
      have hH : keyH root g a t s k = derB root [t, s, strN k] := by unfold keyH keyV; rw [hE, if_pos rfl]; rfl
      rw [hE, hH]
      have hbw := ((hB0.trans (hb1.mono hB0.size)).trans (hb2.mono (Nat.le_trans hB0.size hb1.size)))
      have hsz := hbw.size
      refine bodyPost_ret (v := .tuple #[.agg (Ints .u8 (derB root [t, s, strN k])).toArray, .int .i64 0]) ?_ rfl ⟨rfl, below_setRow ((hbw.alloc hsz _).trans (hb3.mono (by simp; omega))) (Nat.le_refl _) _⟩
      exact results_row_tmp (p := 8) (q := 9) rfl _ _ w.heap.size 23 _ (0, 0) _ rfl (setRow_heap _ _ _ _ _ _ hr3) Tryz.underlying23 rfl (by rw [List.size_toArray, ints_len, show (derB root [t, s, strN k]).length = 32 from rfl]; kernel_rfl)
  · have hE : keyE g a t s v = curE g t s := by unfold keyE; rw [if_neg hc]
    have hN : curN g a t s = 0 := by unfold curN; rw [if_neg hc]
    have hH : keyH root g a t s v = List.replicate 32 0 := by unfold keyH; rw [hE, if_neg hc]
    rw [hE, hH]
    rw [hN] at t1
    generalize curE g t s = m at *
    clear hN hE hH
    go_wp2_with (first
      | (go_at_call 18; refine t1.mono ?_; rintro e w1 ⟨rfl, hb1⟩; have hr1 := hR0.below hb1 hR0.lt)
      | (refine wpList_store_row rfl 23 (.tmp 8) (.tmp 24) rfl w.heap.size (Ints .u8 (List.replicate 32 0)).toArray rfl rfl 23 (Ints .u8 (List.replicate 32 0)).toArray hr1 (by kernel_rfl) rfl (by kernel_rfl) ?_))
    all_goals
        refine bodyPost_ret (v := .tuple #[.agg (Ints .u8 (List.replicate 32 0)).toArray, .int .i64 m]) ?_ rfl ⟨rfl, below_setRow (hB0.trans (hb1.mono hB0.size)) (Nat.le_refl _) _⟩
        exact results_row_tmp (p := 8) (q := 9) rfl _ _ w.heap.size 23 _ (0, 0) _ rfl (setRow_heap _ _ _ _ _ _ hr1) Tryz.underlying23 rfl (by kernel_rfl)
end Go.Proofs.YtbemljgcclaopaaGreatDoor
