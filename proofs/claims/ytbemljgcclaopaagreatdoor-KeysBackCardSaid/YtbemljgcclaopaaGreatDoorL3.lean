/- holdfastlaw09.KeysBack. -/
import Derived.Test.YtbemljgcclaopaaGreatDoorL2
namespace Go.Proofs.YtbemljgcclaopaaGreatDoor
open Go.RowKit
theorem rows_out {w : World} {base : Nat} {v : Value} {l : List RT} (h : RowsIn w base v l) : OutL w base [] v (l.map textR) := ⟨l, h, rfl, by simp, by simp⟩
theorem rowsK_size (n k : Nat) (hn : n ≤ 2) (hk : k ≤ 15) : ∀ t ∈ rowsK n k, t.1.size ≤ 9223372036854775806 ∧ ∀ c ∈ t.2, c.size ≤ 9223372036854775807 := by
  intro t ht
  have h17 : ∀ m, m ≤ 16 → (strN m).size ≤ 9223372036854775807 := fun m hm => Nat.le_trans (strN_size (by omega)) (by decide)
  unfold rowsK at ht
  rcases List.mem_cons.1 ht with rfl | ht
  · refine ⟨(by decide : hashK.size ≤ 9223372036854775806), fun c hc => ?_⟩
    simp only [List.mem_singleton] at hc; subst hc; exact h17 n (by omega)
  · split at ht
    · cases ht
    · simp only [List.mem_singleton] at ht; subst ht
      refine ⟨(by decide : (⟨#[97, 47, 109, 97, 105, 108]⟩ : ByteArray).size ≤ 9223372036854775806), fun c hc => ?_⟩
      simp only [List.mem_singleton] at hc; subst hc; exact h17 (k + 1) (by omega)
theorem rowsK_len (n k : Nat) : 0 < (rowsK n k).length ∧ (rowsK n k).length ≤ 2 := by
  unfold rowsK; split <;> simp
theorem atsK_mem (k : Nat) (hk : k ≤ 15) : ∀ p ∈ atsK k, p.1.1.size ≤ 9 ∧ p.1.2.size ≤ 9 ∧ 0 ≤ p.2 ∧ p.2 ≤ 4611686018427387904 := by
  intro p hp
  cases k with
  | zero => cases hp
  | succ k => simp only [atsK, List.mem_singleton] at hp; subst hp; exact ⟨(by decide : nA.size ≤ 9), (by decide : nM.size ≤ 9), by simp only; omega, by simp only; omega⟩
theorem resN_le (k : Nat) : 0 < resN k ∧ resN k ≤ 2 := by unfold resN; split <;> omega
theorem ops_E (root : List Int) (j : Nat) (d : List Int) (hd : d.length ≤ 1024) : opE root [] (atsK j) nA nM (resB root j d) = 0 := op_E root j j (Nat.le_refl _) _ d hd
theorem ops_N (root : List Int) (j : Nat) (d : List Int) (hd : d.length ≤ 1024) : opN root [] (atsK j) nA nM (resB root j d) = (j : Int) + 1 := op_N root j j (Nat.le_refl _) _ d hd
theorem ops_B (root : List Int) (j : Nat) (d : List Int) (hb : ∀ x ∈ d, Byte x) (hd : d.length ≤ 1024) : opB root [] (atsK j) nA nM (resB root j d) = d := op_B root j j (Nat.le_refl _) _ (by split <;> (unfold U64; omega)) d hb hd
theorem sameBytes_same (a1 a2 : Option Addr) (n1 c1 n2 c2 : Nat) (d : List Int) (h1 : d.length = n1) (h2 : d.length = n2) (hm : n1 ≤ 9223372036854775807) (w : World) (hs1 : Src w a1 (Ints .u8 d)) (hs2 : Src w a2 (Ints .u8 d)) :
    Calls Tryz.prog 13 #[.slice a1 n1 c1, .slice a2 n2 c2] w fun e w' => e = .returned (.bool true) ∧ Below w.heap.size w w' :=
  (sameBytes_any a1 a2 n1 c1 n2 c2 d d h1 h2 hm w hs1 hs2).mono (fun e w' h => ⟨by rw [h.1, decide_eq_true rfl], h.2⟩)
attribute [-go_sem] Instr.loadAt
set_option maxRecDepth 100000 in
set_option maxHeartbeats 4000000 in
theorem keysBack_any (root : List Int) (hb : ∀ x ∈ root, Byte x) (hl : root.length = 32) (pa : Option Addr) (pn pc : Nat) (d : List Int) (hd : ∀ x ∈ d, Byte x) (hdl : d.length = pn) (hpc : pn ≤ pc) (hpm : pn ≤ 9223372036854775807) (n : Int) (hn : 0 ≤ n ∧ n < 256) (w : World) (hT : Tz w) (hs : Src w pa (Ints .u8 d)) :
    Calls Tryz.prog 3 #[.agg (Ints .u8 root).toArray, .slice pa pn pc, .int .u8 n] w fun e w' => e = .returned (.bool true) ∧ Below w.heap.size w w' := by
  have HB := hid hb
  have HL := hid hl
  have HD := hid hd
  have HDL := hid hdl
  clear hb hl hd hdl
  have hR0 : Row (w.alloc (.cells (Ints .u8 root).toArray 23)) w.heap.size 23 (Ints .u8 root) := Row.newAt rfl rfl
  have hB0 : Below w.heap.size w (w.alloc (.cells (Ints .u8 root).toArray 23)) := (Below.refl _ w).alloc (Nat.le_refl _) _
  have hl0 := run_load_row (P := Tryz.prog) hR0 Tryz.underlying23 rfl (by rw [ints_len, HL.out]; kernel_rfl)
  have t1 := new_any root HB.out HL.out (w.alloc (.cells (Ints .u8 root).toArray 23))
  by_cases hlong : 1024 < d.length
  · have E1 := hid (sk_long 0 d hlong)
    have E2 : Hid (skN [] 0 nA nM d = 0) := hid (by unfold skN; rw [sk_long 0 d hlong]; rfl)
    have E3 : Hid (skB root [] (atsK 0) 0 nA nM d = []) := hid (by unfold skB; rw [sk_long 0 d hlong]; rfl)
    clear hlong
    go_enter Tryz.func3, Tryz.ntmps3
    go_wp2_with (first
      | (go_at_call 5; refine t1.mono ?_; rintro e w1 ⟨b, mg, ma, rfl, htr, hb1, g1, g2, g3, g4, g5, g6⟩; have t2 := sealK_meth nA nM (by decide) (by decide) pa pn pc d HD.out w1 ((hT.below hB0).below hb1) htr (by omega) (by decide) ((hs.below hB0 (Nat.le_refl _)).below hb1 (Nat.le_refl _)) HDL.out hpc; rw [show ([] : Ats) = atsK 0 from rfl, E1.out, E2.out, E3.out] at t2)
      | (go_at_call 6; refine t2.mono ?_; rintro e w2 ⟨v2, rfl, hown2, htr2, hx2⟩; have hB2 : Below w.heap.size w w2 := (hB0.trans (hb1.mono hB0.size)).trans (hx2.below (by intro k hk; simp at hk; have := hB0.size; omega) (Nat.le_trans hB0.size hb1.size)); have t3 := live_any w2 (hT.below hB2))
      | (go_at_call 7; refine t3.mono ?_; rintro e w3 ⟨rfl, hb3⟩))
    go_ret
    exact ⟨rfl, hB2.trans (hb3.mono hB2.size)⟩
  · have hsh : d.length ≤ 1024 := by omega
    obtain ⟨kk, hkk⟩ : ∃ kk : Nat, n % 16 = (kk : Int) := ⟨(n % 16).toNat, by omega⟩
    have hk15 : kk ≤ 15 := by omega
    have E1 := hid (sk_E 0 d (by omega) hsh)
    have E2 := hid (sk_N 0 d (by omega) hsh)
    have E3 := hid (sk_B root 0 0 d (by omega) hsh)
    have O1 := hid (op_E root 0 kk (Nat.zero_le _) 0 d hsh)
    have O2 := hid (op_N root 0 kk (Nat.zero_le _) 0 d hsh)
    have O3 := hid (op_B root 0 kk (Nat.zero_le _) 0 (by unfold U64; omega) d HD.out hsh)
    have Z1 := hid (rs_E root kk d HD.out hsh)
    have Z2 := hid (rs_C root kk d HD.out hsh)
    have Z3 := hid (rs_B root kk d HD.out hsh)
    have Z4 := hid (rs_N root kk d HD.out hsh)
    have HSH := hid hsh
    clear hsh hlong
    go_enter Tryz.func3, Tryz.ntmps3
    go_wp2_with (first
      | (go_at_call 5; refine t1.mono ?_; rintro e w1 ⟨b, mg, ma, rfl, htr, hb1, g1, g2, g3, g4, g5, g6⟩; have t2 := sealK_meth nA nM (by decide) (by decide) pa pn pc d HD.out w1 ((hT.below hB0).below hb1) htr (by omega) (by decide) ((hs.below hB0 (Nat.le_refl _)).below hb1 (Nat.le_refl _)) HDL.out hpc; rw [show ([] : Ats) = atsK 0 from rfl, E1.out, E2.out, E3.out] at t2)
      | (go_at_call 6; refine t2.mono ?_; rintro e w2 ⟨v2, rfl, hown2, htr2, hx2⟩))
    have hR2 : Row w2 w.heap.size 23 (Ints .u8 root) := hx2.row (hR0.below hb1 hR0.lt) (by have := hR0.lt; simp; omega)
    have hB2 : Below w.heap.size w w2 := (hB0.trans (hb1.mono hB0.size)).trans (hx2.below (by intro k hk; simp at hk; have := hB0.size; omega) (Nat.le_trans hB0.size hb1.size))
    have hbb : w.heap.size < b ∧ w.heap.size < mg ∧ w.heap.size < ma := by have := hR0.lt; omega
    have hob : ∀ j, v2.ownBlock = some j → b < j ∧ mg < j ∧ ma < j := fun j hj => by have := own_ge hown2 hj; omega
    clear t1 t2 hl0 hR0 hx2 g1 g2 g3 g4 g5 g6 hB0 hb1 htr
    have HB2 := hid hB2
    have HR2 := hid hR2
    have htr2' : IsTree w2 b mg ma root 1 [] (atsK 0) := htr2
    clear htr2 hR2 hB2
    rw [hkk]
    have HKK := hid hkk
    clear hkk
    go_loopw [11] (fun i wr => ∃ j : Nat, j ≤ kk ∧ i = .int .i64 j ∧ IsTree wr b mg ma root 1 [] (atsK j) ∧ Exc [ma] w2 wr) (fun i _ => kk - (intOf i).toNat)
    case atStart => exact ⟨0, Nat.zero_le _, rfl, htr2', Exc.refl _ _⟩
    case round =>
      obtain ⟨j, hj, rfl, htj, hxj⟩ := hrel
      clear htr2'
      by_cases hjk : j < kk
      · have r1 := rotate_meth nA nM (by decide) (by decide) wr htj (by cases j <;> simp [atsK]) (by rw [ver_K]; omega)
        rw [rot_E j (by omega), rot_N j (by omega), rot_A j (by omega)] at r1
        go_wp2_with (go_at_call 8; refine r1.mono ?_; rintro e w3 ⟨rfl, htr3, hx3⟩)
        refine ⟨?_, by simp [intOf]; omega⟩
        first
          | exact ⟨j + 1, by omega, by go_num, htr3, hxj.trans hx3⟩
          | ((repeat apply Exists.intro); exact ⟨⟨j + 1, by omega, by go_num, htr3, hxj.trans hx3⟩, rfl⟩)
      · obtain rfl : j = kk := by omega
        have hown3 := hxj.own hown2 (fun i hi => by have := hob i hi; simp; omega)
        obtain ⟨a3, c3, rfl, hvl3, hc3, hm3, hs3, hz3, hb3⟩ := own_src' hown3
        have hB3 : Below w.heap.size w wr := HB2.out.trans (hxj.below (by intro k hk; simp at hk; omega) HB2.out.size)
        have hR3 : Row wr w.heap.size 23 (Ints .u8 root) := hxj.row HR2.out (by simp; omega)
        have t4 := openK_meth nA nM (by decide) (by decide) a3 _ c3 (txtK root 0 0 d) (txt_byte _ _ (by omega) _ _) wr (hT.below hB3) htj (by rw [ver_K]; omega) hs3 rfl hc3 hm3
        rw [O1.out, O2.out, O3.out] at t4
        have HS3 := hid hs3
        have HC3 := hid hc3
        have HM3 := hid hm3
        have HOB := hid hob
        clear hown3 hvl3 hc3 hm3 hs3 hz3 hb3 hown2 hob
        go_wp2_with (first
          | (go_at_call 9; refine t4.mono ?_; rintro e w4 ⟨v4, rfl, hown4, hb4⟩; have t5 := reseal_meth nA nM (by decide) (by decide) a3 _ c3 (txtK root 0 0 d) (txt_byte _ _ (by omega) _ _) w4 ((hT.below hB3).below hb4) (htj.below hb4) (by omega) (by rw [ver_K]; omega) (HS3.out.below hb4 (Nat.le_refl _)) rfl HC3.out HM3.out; rw [Z1.out, Z2.out, Z3.out, Z4.out] at t5)
          | (go_at_call 10; refine t5.mono ?_; rintro e w5 ⟨v5, rfl, hown5, htr5, hx5⟩))
        have hB5 : Below w.heap.size w w5 := hB3.trans ((hb4.mono hB3.size).trans (hx5.below (by intro k hk; simp at hk; omega) (Nat.le_trans hB3.size hb4.size)))
        have hR5 : Row w5 w.heap.size 23 (Ints .u8 root) := hx5.row (hR3.below hb4 hR3.lt) (by simp; omega)
        have hbd : Below w5.heap.size w5 w5.drew := (Below.refl _ _).drew
        have hl5 := run_load_row (P := Tryz.prog) hR5.drew Tryz.underlying23 rfl (by rw [ints_len, HL.out]; kernel_rfl)
        have hrn := resN_le j
        have t6 := rows_meth w5.drew ((hT.below hB5).below hbd) (htr5.below hbd) (by omega) (atsK_mem j hk15) (by cases j <;> simp [atsK])
        have t6' : Calls Tryz.prog 12 #[.pointer (some ⟨b, 0, none⟩)] w5.drew fun e w' => ∃ v, e = .returned v ∧ (OutL w' w5.drew.heap.size [] v (rowsK (resN j) j) ∧ Below w5.drew.heap.size w5.drew w') := t6.mono (fun e w' h => by
          obtain ⟨v, l, he, h1, h2, h3, h4⟩ := h
          refine ⟨v, he, ?_, h4⟩
          rw [← rowsK_sorted (resN j) j _ h2 h3]
          exact rows_out h1)
        refine any_start (by kernel_rfl) ?_
        refine any_take 1 73 (.pointer (some ⟨b, 0, none⟩)) rfl rfl (by kernel_rfl) (by kernel_rfl) (by kernel_rfl) (fun _ _ _ h => h) (by rfl) (fun w => by go_simp) ?_
        go_frame
        refine any_read_call 0 2 72 74 (.agg (Ints .u8 root).toArray) 12 #[.pointer (some ⟨b, 0, none⟩)] _ (by kernel_rfl) rfl rfl rfl rfl (by kernel_rfl) (by kernel_rfl) (by rfl) (by rfl) (fun v => by rfl) (by rfl) (by go_simp) (fun v w' hR => ?hA) (by go_simp) (by go_simp) t6' (by kernel_rfl) (fun v => by rfl) ?hB
        case hA =>
          have := run_load_row (P := Tryz.prog) (hR5.drew.below hR.2 hR5.drew.lt) Tryz.underlying23 rfl (by rw [ints_len, HL.out]; kernel_rfl)
          go_simp
        case hB =>
          rintro v6 w6 ⟨hO6, hb6⟩
          go_frame
          obtain ⟨g, cap, rfl, hcap, hcm, hRA⟩ := hO6.rowsAt (rowsK_len (resN j) j).1
          have t7 := load_any root HB.out HL.out (some ⟨g, 0, none⟩) _ cap (rowsK (resN j) j) rfl hcap (by have := (rowsK_len (resN j) j).2; omega) (rowsK_size _ _ hrn.2 hk15) w6 hRA
          have t7' : Calls Tryz.prog 11 #[.agg (Ints .u8 root).toArray, .slice (some ⟨g, 0, none⟩) (rowsK (resN j) j).length cap] w6 fun e w' => ∃ v, e = .returned v ∧ (∃ ub umg uma, v = .tuple #[.pointer (some ⟨ub, 0, none⟩), .int .i64 0] ∧ IsTree w' ub umg uma root (resN j) [] (atsK j) ∧ Below w6.heap.size w6 w') := t7.mono (fun e w' h => by
            obtain ⟨h1, h2⟩ := h
            rw [ld_K (resN j) j hrn.1 hrn.2 hk15] at h2
            obtain ⟨ub, umg, uma, h3, h4, _⟩ := h2
            exact ⟨_, h3, ub, umg, uma, rfl, h4, h1⟩)
          refine any_call 3 75 11 #[.agg (Ints .u8 root).toArray, .slice (some ⟨g, 0, none⟩) (rowsK (resN j) j).length cap] _ (by kernel_rfl) rfl rfl (by rfl) (by go_simp) t7' ?_
          rintro v7 w7 ⟨ub, umg, uma, rfl, htr7, hb7⟩
          go_frame
          refine any_one 4 71 (.tuple #[.pointer (some ⟨ub, 0, none⟩), .int .i64 0]) (w7) (by kernel_rfl) rfl rfl (by rfl) (by go_simp) ?_
          go_frame
          refine any_take 5 76 (.pointer (some ⟨ub, 0, none⟩)) rfl rfl (by kernel_rfl) (by kernel_rfl) (by kernel_rfl) (fun _ _ _ h => h) (by rfl) (fun w => by go_simp) ?_
          go_frame
          refine any_take 6 77 (.int .i64 0) rfl rfl (by kernel_rfl) (by kernel_rfl) (by kernel_rfl) (fun _ _ _ h => h) (by rfl) (fun w => by go_simp) ?_
          go_frame
          refine any_one 7 20 (.pointer (some ⟨ub, 0, none⟩)) (w7) (by kernel_rfl) rfl rfl (by rfl) (by go_simp) ?_
          go_frame
          refine any_one 8 21 (.int .i64 0) (w7) (by kernel_rfl) rfl rfl (by rfl) (by go_simp) ?_
          go_frame
          refine any_end (by kernel_rfl) ?_
          have hb57 : Below w5.heap.size w5 w7 := hbd.trans ((hb6.mono (by simp)).trans (hb7.mono (by have := hb6.size; simpa using this)))
          have hlj := htj.lts
          have hown45 := hx5.own hown4 (fun i hi => by have := own_ge hown4 hi; simp; omega)
          have hown47 := own_kept hown45 hb57
          have hown7 := own_kept hown5 hb57
          obtain ⟨a4, c4, rfl, hvl4, hc4, hm4, hs4, hz4, hq4⟩ := own_src' hown47
          obtain ⟨a7, c7, rfl, hvl7, hc7, hm7, hs7, hz7, hq7⟩ := own_src' hown7
          have hB7 : Below w.heap.size w w7 := hB5.trans (hb57.mono hB5.size)
          have t8 := openK_meth nA nM (by decide) (by decide) a7 _ c7 (resB root j d) (txt_byte _ _ hk15 _ _) w7 (hT.below hB7) htr7 (by rw [ver_K]; omega) hs7 rfl hc7 hm7
          rw [ops_E root j d HSH.out, ops_N root j d HSH.out, ops_B root j d HD.out HSH.out] at t8
          have hsP := hs.below hB7 (Nat.le_refl _)
          have hdlm : d.length ≤ 9223372036854775807 := by rw [HDL.out]; exact hpm
          have hw16 : IntKind.i64.wrap ((j : Int) + 1) = (j : Int) + 1 := by simp [IntKind.wrap, IntKind.bits, IntKind.signed]; omega
          have HS4 := hid hs4
          have HSP := hid hsP
          clear t6 t6' t7 t7' hO6 hRA hl5 hcap hcm hvl4 hc4 hm4 hz4 hq4 hvl7 hc7 hm7 hz7 hq7 hs7 hown7 hown47 hown45 hs4 hsP
          go_wp2_with (first
            | (go_at_call 9; refine t8.mono ?_; rintro e w8 ⟨v8, rfl, hown8, hb8⟩; have t9 := live_any w8 ((hT.below hB7).below hb8))
            | (go_at_call 7; refine t9.mono ?_; rintro e w9 ⟨rfl, hb9⟩; obtain ⟨a8, c8, rfl, hvl8, hc8, hm8, hs8, hz8, hq8⟩ := own_src' hown8; have t10 := sameBytes_same a4 pa _ c4 pn pc d rfl HDL.out hdlm w9 ((HS4.out.below hb8 (Nat.le_refl _)).below hb9 (Nat.le_refl _)) ((HSP.out.below hb8 (Nat.le_refl _)).below hb9 (Nat.le_refl _)))
            | (go_at_call 13; (with_reducible refine Calls.mono t10 ?_); rintro e w10 ⟨rfl, hb10⟩; have t11 := sameBytes_same a8 pa _ c8 pn pc d rfl HDL.out hdlm w10 ((hs8.below hb9 (Nat.le_refl _)).below hb10 (Nat.le_refl _)) (((HSP.out.below hb8 (Nat.le_refl _)).below hb9 (Nat.le_refl _)).below hb10 (Nat.le_refl _)))
            | (go_at_call 13; (with_reducible refine Calls.mono t11 ?_); rintro e w11 ⟨rfl, hb11⟩))
          go_ret
          refine ⟨rfl, ?_⟩
          have k7 := hB7.size
          have k8 := hb8.size
          have k9 := hb9.size
          have k10 := hb10.size
          exact (((hB7.trans (hb8.mono k7)).trans (hb9.mono (Nat.le_trans k7 k8))).trans (hb10.mono (Nat.le_trans k7 (Nat.le_trans k8 k9)))).trans (hb11.mono (Nat.le_trans k7 (Nat.le_trans k8 (Nat.le_trans k9 k10))))
end Go.Proofs.YtbemljgcclaopaaGreatDoor
