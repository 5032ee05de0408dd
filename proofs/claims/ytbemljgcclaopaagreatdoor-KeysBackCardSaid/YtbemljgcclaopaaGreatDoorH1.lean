import Derived.Test.YtbemljgcclaopaaGreatDoorH0
namespace Go.Proofs.YtbemljgcclaopaaGreatDoor
open Go.RowKit
def x32 (a b : Int) : Int := bits BinOp.xor .u32 a b
def o32 (a b : Int) : Int := bits BinOp.or .u32 a b
def n32 (a b : Int) : Int := bits BinOp.and .u32 a b
/-- The eight words of the running hash. -/
structure S8 where (a b c d e f g h : Int)
def S8.list (s : S8) : List Int := [s.a, s.b, s.c, s.d, s.e, s.f, s.g, s.h]
def I32 (x : Int) : Prop := 0 ≤ x ∧ x < 4294967296
def S8.ok (s : S8) : Prop := I32 s.a ∧ I32 s.b ∧ I32 s.c ∧ I32 s.d ∧ I32 s.e ∧ I32 s.f ∧ I32 s.g ∧ I32 s.h
def tOf (kk ww : Int) (s : S8) : Int := s.h + x32 (x32 (rr s.e 6) (rr s.e 11)) (rr s.e 25) + x32 s.g (n32 s.e (x32 s.f s.g)) + kk + ww
def uOf (s : S8) : Int := x32 (x32 (rr s.a 2) (rr s.a 13)) (rr s.a 22) + o32 (n32 s.a s.b) (n32 s.c (o32 s.a s.b))
def rnd (kk ww : Int) (s : S8) : S8 := ⟨(tOf kk ww s + uOf s) % 4294967296, s.a, s.b, s.c, (s.d + tOf kk ww s) % 4294967296, s.e, s.f, s.g⟩
def comp (K W : List Int) (s : S8) : Nat → S8
  | 0 => s
  | k + 1 => rnd (K[k]?.getD 0) (W[k]?.getD 0) (comp K W s k)
theorem comp_ok (K W : List Int) (s : S8) (h : s.ok) (k : Nat) : (comp K W s k).ok := by
  induction k with
  | zero => exact h
  | succ k ih =>
    obtain ⟨i0, i1, i2, i3, i4, i5, i6, i7⟩ := ih
    simp only [comp, rnd, S8.ok]
    refine ⟨?_, i0, i1, i2, ?_, i4, i5, i6⟩ <;> (unfold I32; omega)
def S8.val (s : S8) : Value := .agg #[.int .u32 s.a, .int .u32 s.b, .int .u32 s.c, .int .u32 s.d, .int .u32 s.e, .int .u32 s.f, .int .u32 s.g, .int .u32 s.h]
def addS (s v : S8) : S8 := ⟨(s.a + v.a) % 4294967296, (s.b + v.b) % 4294967296, (s.c + v.c) % 4294967296, (s.d + v.d) % 4294967296, (s.e + v.e) % 4294967296, (s.f + v.f) % 4294967296, (s.g + v.g) % 4294967296, (s.h + v.h) % 4294967296⟩
theorem addS_ok (s v : S8) : (addS s v).ok := by
  simp only [addS, S8.ok]
  refine ⟨?_, ?_, ?_, ?_, ?_, ?_, ?_, ?_⟩ <;> (unfold I32; omega)
theorem x32_bd (a b : Int) : 0 ≤ x32 a b ∧ x32 a b < 4294967296 := by
  unfold x32 bits; simp [IntKind.wrap, IntKind.bits, IntKind.signed]; omega
theorem o32_bd (a b : Int) : 0 ≤ o32 a b ∧ o32 a b < 4294967296 := bits_or_bd a b
/-- The words of the schedule behind k rounds. -/
def sched (B : Nat → Int) : Nat → List Int
  | 0 => List.replicate 64 0
  | k + 1 => (sched B k).set k (if k < 16 then o32 (o32 (o32 (B (4 * k) * 16777216) (B (4 * k + 1) * 65536)) (B (4 * k + 2) * 256)) (B (4 * k + 3))
      else ((sched B k)[k - 16]?.getD 0 + x32 (x32 (rr ((sched B k)[k - 15]?.getD 0) 7) (rr ((sched B k)[k - 15]?.getD 0) 18)) ((sched B k)[k - 15]?.getD 0 / 8) + (sched B k)[k - 7]?.getD 0 + x32 (x32 (rr ((sched B k)[k - 2]?.getD 0) 17) (rr ((sched B k)[k - 2]?.getD 0) 19)) ((sched B k)[k - 2]?.getD 0 / 1024)) % 4294967296)
theorem sched_len (B : Nat → Int) (k : Nat) : (sched B k).length = 64 := by
  induction k with
  | zero => simp [sched]
  | succ k ih => simp [sched, ih]
theorem sched_bd (B : Nat → Int) (k : Nat) : ∀ i : Nat, 0 ≤ (sched B k)[i]?.getD 0 ∧ (sched B k)[i]?.getD 0 < 4294967296 := by
  induction k with
  | zero => intro i; simp only [sched, List.getElem?_replicate]; split <;> simp
  | succ k ih =>
    intro i
    simp only [sched, List.getElem?_set]
    split
    · split
      · simp only [Option.getD_some]; split
        · exact o32_bd _ _
        · omega
      · simp
    · exact ih i
theorem sched_lo (B : Nat → Int) (k : Nat) (h : k < 16) : sched B (k + 1) = (sched B k).set k (o32 (o32 (o32 (B (4 * k) * 16777216) (B (4 * k + 1) * 65536)) (B (4 * k + 2) * 256)) (B (4 * k + 3))) := by
  simp only [sched]; rw [if_pos h]
theorem sched_hi (B : Nat → Int) (k : Nat) (h : ¬ k < 16) : sched B (k + 1) = (sched B k).set k (((sched B k)[k - 16]?.getD 0 + x32 (x32 (rr ((sched B k)[k - 15]?.getD 0) 7) (rr ((sched B k)[k - 15]?.getD 0) 18)) ((sched B k)[k - 15]?.getD 0 / 8) + (sched B k)[k - 7]?.getD 0 + x32 (x32 (rr ((sched B k)[k - 2]?.getD 0) 17) (rr ((sched B k)[k - 2]?.getD 0) 19)) ((sched B k)[k - 2]?.getD 0 / 1024)) % 4294967296) := by
  simp only [sched]; rw [if_neg h]
set_option maxRecDepth 10000 in
/-- 'copy(v[1:], v[:7])' over eight words. -/
theorem copy8 (W : World) (b : Nat) (v0 v1 v2 v3 v4 v5 v6 v7 : Int) (h : Row W b 155 (Ints .u32 [v0, v1, v2, v3, v4, v5, v6, v7])) :
    (Builtin.copy_ #[170, 170] 3 #[.slice (some ⟨b, 1, none⟩) 7 7, .slice (some ⟨b, 0, none⟩) 7 8]).run Tryz.prog W = .ok (.int .i64 7) (((((((W.setCell ⟨b, 1, none⟩ (.int .u32 v0)).setCell ⟨b, 2, none⟩ (.int .u32 v1)).setCell ⟨b, 3, none⟩ (.int .u32 v2)).setCell ⟨b, 4, none⟩ (.int .u32 v3)).setCell ⟨b, 5, none⟩ (.int .u32 v4)).setCell ⟨b, 6, none⟩ (.int .u32 v5)).setCell ⟨b, 7, none⟩ (.int .u32 v6)) := by
  have hr := run_copy_cells (P := Tryz.prog) W 170 170 3 120 b 1 7 7 ⟨b, 0, none⟩ 7 8 (Ints .u32 [v0, v1, v2, v3, v4, v5, v6]) Tryz.underlying170 (by kernel_rfl) rfl
    (by
      intro j v hj
      match j, hj with
      | 0, hj => simp [Ints] at hj; subst hj; exact h.cell (i := 0) rfl
      | 1, hj => simp [Ints] at hj; subst hj; exact h.cell (i := 1) rfl
      | 2, hj => simp [Ints] at hj; subst hj; exact h.cell (i := 2) rfl
      | 3, hj => simp [Ints] at hj; subst hj; exact h.cell (i := 3) rfl
      | 4, hj => simp [Ints] at hj; subst hj; exact h.cell (i := 4) rfl
      | 5, hj => simp [Ints] at hj; subst hj; exact h.cell (i := 5) rfl
      | 6, hj => simp [Ints] at hj; subst hj; exact h.cell (i := 6) rfl
      | n + 7, hj => simp [Ints] at hj)
    (by
      intro j hj
      have hj' : 1 + j < (Ints .u32 [v0, v1, v2, v3, v4, v5, v6, v7]).length := by simp [Ints] at hj ⊢; omega
      rw [h.cellD hj']; rfl)
    (fun j _ => h.frozen (1 + j))
    (by intro v hv; simp only [Ints, List.mem_map] at hv; obtain ⟨x, _, rfl⟩ := hv; rfl)
  exact hr
/-- A block mixed into a running hash. -/
def mixS (KL : List Int) (B : Nat → Int) (s : S8) : S8 := addS s (comp KL (sched B 64) s 64)
set_option maxRecDepth 100000 in
set_option maxHeartbeats 2000000 in
theorem mix_any (h0 h1 h2 h3 h4 h5 h6 h7 : Int) (hh : S8.ok ⟨h0, h1, h2, h3, h4, h5, h6, h7⟩) (kb ke : Nat) (KL : List Int) (hKL : KL.length = 64) (hKB : ∀ i : Nat, 0 ≤ KL[i]?.getD 0 ∧ KL[i]?.getD 0 < 4294967296) (bb bo n c : Nat) (w : World) (B : Nat → Int) (hB : ∀ j, 0 ≤ B j ∧ B j < 256)
    (hkr : Row w kb ke (Ints .u32 KL)) (hn : 64 ≤ n) (hn2 : n ≤ 140737488351232) (hbb : bb < w.heap.size) (hbc : ∀ j, j < 64 → w.cell? ⟨bb, bo + j, none⟩ = some (.int .u8 (B j))) :
    Calls Tryz.prog 119 #[.agg #[.int .u32 h0, .int .u32 h1, .int .u32 h2, .int .u32 h3, .int .u32 h4, .int .u32 h5, .int .u32 h6, .int .u32 h7], .pointer (some ⟨kb, 0, none⟩), .slice (some ⟨bb, bo, none⟩) n c] w fun e w' => e = .returned (mixS KL B ⟨h0, h1, h2, h3, h4, h5, h6, h7⟩).val ∧ Below w.heap.size w w' := by
  have HB := hid hbc
  have HBB := hid hB
  have HKL := hid hKL
  have HKB := hid hKB
  have HH := hid hh
  clear hbc hB hKL hKB hh
  go_enter Tryz.func119, Tryz.ntmps119
  go_wp2
  go_loopw [18] (fun i wr => ∃ k : Nat, k ≤ 64 ∧ i = .int .i64 k ∧ Row wr (w.heap.size + 1 + 1) 185 (Ints .u32 (sched B k)) ∧ Row wr w.heap.size 155 (Ints .u32 [h0, h1, h2, h3, h4, h5, h6, h7]) ∧ Row wr (w.heap.size + 1) 155 (Ints .u32 [0, 0, 0, 0, 0, 0, 0, 0]) ∧ w.heap.size + 3 = wr.heap.size ∧ Below w.heap.size w wr) (fun i _ => 64 - (intOf i).toNat)
  case atStart =>
    refine ⟨0, by omega, rfl, ?_, ?_, ?_, ?_, ?_⟩
    · exact Row.newAt (by simp) rfl
    · exact ((Row.newAt rfl rfl).alloc _).alloc _
    · exact (Row.newAt (by simp) rfl).alloc _
    · simp
    · exact (((Below.refl _ _).alloc (Nat.le_refl _) _).alloc (by simp) _).alloc (by simp; omega) _
  case round =>
    obtain ⟨k, hk, rfl, hr, hrh, hro, hsz, hb⟩ := hrel
    by_cases h64 : k < 64
    · have HSZ := hid hsz
      clear hsz
      by_cases h16 : k < 16
      · have c0 := (hb.cell (p := ⟨bb, bo + 4 * k, none⟩) hbb).trans (HB.out (4 * k) (by omega))
        have c1 := (hb.cell (p := ⟨bb, bo + (4 * k + 1), none⟩) hbb).trans (HB.out (4 * k + 1) (by omega))
        have c2 := (hb.cell (p := ⟨bb, bo + (4 * k + 2), none⟩) hbb).trans (HB.out (4 * k + 2) (by omega))
        have c3 := (hb.cell (p := ⟨bb, bo + (4 * k + 3), none⟩) hbb).trans (HB.out (4 * k + 3) (by omega))
        have b0 := HBB.out (4 * k)
        have b1 := HBB.out (4 * k + 1)
        have b2 := HBB.out (4 * k + 2)
        have b3 := HBB.out (4 * k + 3)
        have d0 := hr.int (i := k) (by rw [sched_len]; omega)
        have d1 := hr.frozen k
        have HS := hid (sched_lo B k h16)
        go_wp2
        go_region
        go_wp2
        go_roundw
        case rel =>
          refine ⟨k + 1, by omega, by go_num, ?_, ?_, ?_, ?_, ?_⟩
          · rw [HS.out]; exact (hr.setInt k _).drew
          · exact (hrh.other (by simp; omega) _).drew
          · exact (hro.other (by simp) _).drew
          · have := HSZ.out; simp; omega
          · exact ((hb.setCell (by simp; omega) _).drew)
        case measure => simp [intOf]; omega
      · have e15 : ((k : Int) - 15).toNat = k - 15 := by omega
        have e2 : ((k : Int) - 2).toNat = k - 2 := by omega
        have e16 : ((k : Int) - 16).toNat = k - 16 := by omega
        have e7 : ((k : Int) - 7).toNat = k - 7 := by omega
        have j15 : (15 : Int) ≤ k := by omega
        have j2 : (2 : Int) ≤ k := by omega
        have j7 : (7 : Int) ≤ k := by omega
        have j16 : (16 : Int) ≤ k := by omega
        have m15 : (k : Int) - 15 < 64 := by omega
        have m2 : (k : Int) - 2 < 64 := by omega
        have m7 : (k : Int) - 7 < 64 := by omega
        have m16 : (k : Int) - 16 < 64 := by omega
        have hl := sched_len B k
        have x15 := hr.int (i := k - 15) (by omega)
        have x2 := hr.int (i := k - 2) (by omega)
        have x16 := hr.int (i := k - 16) (by omega)
        have x7 := hr.int (i := k - 7) (by omega)
        have xk := hr.int (i := k) (by omega)
        have d1 := hr.frozen k
        have y15 := sched_bd B k (k - 15)
        have y2 := sched_bd B k (k - 2)
        have y16 := sched_bd B k (k - 16)
        have y7 := sched_bd B k (k - 7)
        have HS := hid (sched_hi B k h16)
        clear hl
        go_wp2
        go_quiet ((go_at_call 147; exact Calls.quiet_of_same (rot_any _ _ _ (by omega) (by omega) (by decide))))
        go_wp2
        go_quiet ((go_at_call 147; exact quiet_add_same (rot_any _ _ _ (by omega) (by omega) (by decide))))
        go_wp2
        go_region
        go_wp2
        go_roundw
        case rel =>
          refine ⟨k + 1, by omega, by go_num, ?_, ?_, ?_, ?_, ?_⟩
          · rw [HS.out]; exact (hr.drewN _).setInt k _
          · exact (hrh.drewN _).other (by simp; omega) _
          · exact (hro.drewN _).other (by simp) _
          · have := HSZ.out; simp; omega
          · exact ((below_drewN hb _)).setCell (by simp; omega) _
        case measure => simp [intOf]; omega
    · have hk64 : k = 64 := by omega
      subst hk64
      have q0 := hrh.cell (i := 0) rfl
      have q1 := hrh.cell (i := 1) rfl
      have q2 := hrh.cell (i := 2) rfl
      have q3 := hrh.cell (i := 3) rfl
      have q4 := hrh.cell (i := 4) rfl
      have q5 := hrh.cell (i := 5) rfl
      have q6 := hrh.cell (i := 6) rfl
      have q7 := hrh.cell (i := 7) rfl
      have hsz' : wr.heap.size = w.heap.size + 3 := hsz.symm
      clear hsz
      go_wp2
      have hnew : Row (wr.alloc (.cells #[.int .u32 h0, .int .u32 h1, .int .u32 h2, .int .u32 h3, .int .u32 h4, .int .u32 h5, .int .u32 h6, .int .u32 h7] 155)) (w.heap.size + 3) 155 (Ints .u32 [h0, h1, h2, h3, h4, h5, h6, h7]) := Row.newAt hsz'.symm rfl
      have hb1 := hb.alloc (by omega) (.cells #[.int .u32 h0, .int .u32 h1, .int .u32 h2, .int .u32 h3, .int .u32 h4, .int .u32 h5, .int .u32 h6, .int .u32 h7] 155)
      have hr1 := hr.alloc (.cells #[.int .u32 h0, .int .u32 h1, .int .u32 h2, .int .u32 h3, .int .u32 h4, .int .u32 h5, .int .u32 h6, .int .u32 h7] 155)
      have hrh1 := hrh.alloc (.cells #[.int .u32 h0, .int .u32 h1, .int .u32 h2, .int .u32 h3, .int .u32 h4, .int .u32 h5, .int .u32 h6, .int .u32 h7] 155)
      have hro1 := hro.alloc (.cells #[.int .u32 h0, .int .u32 h1, .int .u32 h2, .int .u32 h3, .int .u32 h4, .int .u32 h5, .int .u32 h6, .int .u32 h7] 155)
      clear q0 q1 q2 q3 q4 q5 q6 q7 hr hrh hro hb hsz'
      go_loopw [109] (fun i wr => ∃ k : Nat, k ≤ 64 ∧ i = .int .i64 k ∧ Row wr (w.heap.size + 3) 155 (Ints .u32 (comp KL (sched B 64) ⟨h0, h1, h2, h3, h4, h5, h6, h7⟩ k).list) ∧ Row wr (w.heap.size + 1 + 1) 185 (Ints .u32 (sched B 64)) ∧ Row wr w.heap.size 155 (Ints .u32 [h0, h1, h2, h3, h4, h5, h6, h7]) ∧ Row wr (w.heap.size + 1) 155 (Ints .u32 [0, 0, 0, 0, 0, 0, 0, 0]) ∧ Below w.heap.size w wr) (fun i _ => 64 - (intOf i).toNat)
      case atStart => exact ⟨0, by omega, rfl, hnew, hr1, hrh1, hro1, hb1⟩
      case round =>
        clear hnew hr1 hrh1 hro1 hb1
        obtain ⟨k, hk, rfl, hv, hr, hrh, hro, hb⟩ := hrel
        by_cases h64 : k < 64
        · have hok := comp_ok KL (sched B 64) _ HH.out k
          have HS : Hid (comp KL (sched B 64) ⟨h0, h1, h2, h3, h4, h5, h6, h7⟩ (k + 1) = rnd (KL[k]?.getD 0) ((sched B 64)[k]?.getD 0) (comp KL (sched B 64) ⟨h0, h1, h2, h3, h4, h5, h6, h7⟩ k)) := rfl
          generalize comp KL (sched B 64) ⟨h0, h1, h2, h3, h4, h5, h6, h7⟩ k = s at hok HS hv
          obtain ⟨v0, v1, v2, v3, v4, v5, v6, v7⟩ := s
          obtain ⟨⟨l0, r0⟩, ⟨l1, r1⟩, ⟨l2, r2⟩, ⟨l3, r3⟩, ⟨l4, r4⟩, ⟨l5, r5⟩, ⟨l6, r6⟩, ⟨l7, r7⟩⟩ := hok
          simp only [S8.list] at hv l0 r0 l1 r1 l2 r2 l3 r3 l4 r4 l5 r5 l6 r6 l7 r7
          have c0 := hv.cell (i := 0) rfl
          have c1 := hv.cell (i := 1) rfl
          have c2 := hv.cell (i := 2) rfl
          have c3 := hv.cell (i := 3) rfl
          have c4 := hv.cell (i := 4) rfl
          have c5 := hv.cell (i := 5) rfl
          have c6 := hv.cell (i := 6) rfl
          have c7 := hv.cell (i := 7) rfl
          have hw := hr.int (i := k) (by rw [sched_len]; omega)
          have hkk := ((hkr.below hb hkr.lt).int (i := k) (by rw [HKL.out]; omega))
          have yw := sched_bd B 64 k
          have yk := HKB.out k
          have f4 := hv.frozen 4
          have f0 := hv.frozen 0
          have hcp := fun m : Nat => copy8 (wr.drewN m) (w.heap.size + 3) v0 v1 v2 v3 v4 v5 v6 v7 (hv.drewN m)
          have HV := hid hv
          clear hv
          go_wp2
          go_quiet ((go_at_call 147; exact Calls.quiet_of_same (rot_any _ _ _ (by omega) (by omega) (by decide))))
          go_wp2
          go_quiet (fail)
          go_wp2
          go_quiet ((go_at_call 147; exact quiet_add_same (rot_any _ _ _ (by omega) (by omega) (by decide))))
          go_wp2
          go_region
          go_wp2
          go_roundw
          case rel =>
            refine ⟨k + 1, by omega, by go_num, ?_, ?_, ?_, ?_, ?_⟩
            · rw [HS.out]
              exact ((((((((((HV.out.drewN _).setInt 1 _).setInt 2 _).setInt 3 _).setInt 4 _).setInt 5 _).setInt 6 _).setInt 7 _).setInt 4 _).setInt 0 _)
            · iterate 9 refine Row.other ?_ (by simp) _
              exact hr.drewN _
            · iterate 9 refine Row.other ?_ (by simp) _
              exact hrh.drewN _
            · iterate 9 refine Row.other ?_ (by simp) _
              exact hro.drewN _
            · iterate 9 refine Below.setCell ?_ (by simp) _
              exact (below_drewN hb _)
          case measure => simp [intOf]; omega
        · have hk64 : k = 64 := by omega
          subst hk64
          go_wp2
          have hsz : w.heap.size + 3 < wr.heap.size := hv.lt
          have HM : Hid (mixS KL B ⟨h0, h1, h2, h3, h4, h5, h6, h7⟩ = addS ⟨h0, h1, h2, h3, h4, h5, h6, h7⟩ (comp KL (sched B 64) ⟨h0, h1, h2, h3, h4, h5, h6, h7⟩ 64)) := rfl
          generalize comp KL (sched B 64) ⟨h0, h1, h2, h3, h4, h5, h6, h7⟩ 64 = s at hv HM
          obtain ⟨v0, v1, v2, v3, v4, v5, v6, v7⟩ := s
          simp only [S8.list] at hv
          have c0 := hv.cell (i := 0) rfl
          have c1 := hv.cell (i := 1) rfl
          have c2 := hv.cell (i := 2) rfl
          have c3 := hv.cell (i := 3) rfl
          have c4 := hv.cell (i := 4) rfl
          have c5 := hv.cell (i := 5) rfl
          have c6 := hv.cell (i := 6) rfl
          have c7 := hv.cell (i := 7) rfl
          have q0 := hrh.cell (i := 0) rfl
          have q1 := hrh.cell (i := 1) rfl
          have q2 := hrh.cell (i := 2) rfl
          have q3 := hrh.cell (i := 3) rfl
          have q4 := hrh.cell (i := 4) rfl
          have q5 := hrh.cell (i := 5) rfl
          have q6 := hrh.cell (i := 6) rfl
          have q7 := hrh.cell (i := 7) rfl
          have qf := hrh.frozen
          refine wp_loop_rounds 9 ?_
          iterate 8 (rw [rounds_succ]; go_wp2; go_region; go_wp2)
          rw [rounds_succ]
          have o0 := hro.cell (i := 0) rfl
          have o1 := hro.cell (i := 1) rfl
          have o2 := hro.cell (i := 2) rfl
          have o3 := hro.cell (i := 3) rfl
          have o4 := hro.cell (i := 4) rfl
          have o5 := hro.cell (i := 5) rfl
          have o6 := hro.cell (i := 6) rfl
          have o7 := hro.cell (i := 7) rfl
          have of := hro.frozen
          go_wp2
          refine bodyPost_ret (v := (addS ⟨h0, h1, h2, h3, h4, h5, h6, h7⟩ ⟨v0, v1, v2, v3, v4, v5, v6, v7⟩).val) (by simp [results, Tryz.results119, go_sem, S8.val, addS, o0, o1, o2, o3, o4, o5, o6, o7, of]) rfl ⟨by rw [HM.out], ?_⟩
          iterate 8 with_reducible refine Below.drew ?_
          iterate 16 refine Below.setCell ?_ (by simp) _
          exact hb
end Go.Proofs.YtbemljgcclaopaaGreatDoor
