/- The walk of hash.Sum. -/
import Derived.Test.YtbemljgcclaopaaGreatDoorH3
namespace Go.Proofs.YtbemljgcclaopaaGreatDoor
open Go.RowKit
attribute [local go_sem high] sliced_one
def lenV : Value → Nat | .slice _ n _ => n | _ => 0
/-- The bytes behind k words. -/
def outK (s : S8) (k : Nat) : List Int := (outB s).take (4 * k) ++ List.replicate (32 - 4 * k) 0
theorem s0_ok : s0.ok := by unfold s0 S8.ok I32; decide
theorem div_le_of (n j : Nat) (h : 64 * j ≤ n) (h2 : n - 64 * j < 64) : n / 64 = j := by omega
set_option maxRecDepth 100000 in
set_option maxHeartbeats 2000000 in
theorem sum_any (a : Option Addr) (n c : Nat) (l : List Int) (hl : ∀ x ∈ l, Byte x) (w : World) (hs : Src w a (Ints .u8 l)) (hn : l.length = n) (hc : n ≤ c) (hn2 : n ≤ 1099511627776) :
    Calls Tryz.prog 96 #[.slice a n c] w fun e w' => e = .returned (.agg (Ints .u8 (sumB l)).toArray) ∧ Below w.heap.size w w' := by
  have HL := hid hl
  have HN := hid hn
  clear hl hn
  go_enter Tryz.func96, Tryz.ntmps96
  go_wp2_with (go_at_call 118; refine (rounds_any _).mono ?_; rintro e w' ⟨rfl, rfl⟩)
  go_loopw [0] (fun b wr => ∃ j m : Nat, ∃ a' c', b = .slice a' m c' ∧ m + 64 * j = n ∧ m ≤ c' ∧ Src w a' (Ints .u8 (l.drop (64 * j))) ∧ Row wr w.heap.size 23 (Ints .u8 (List.replicate 32 0)) ∧ Row wr (w.heap.size + 1) 155 (Ints .u32 (fold64 KS l s0 j).list) ∧ Row wr (w.heap.size + 1 + 1) 185 (Ints .u32 KS) ∧ Below w.heap.size w wr) (fun b _ => lenV b)
  case atStart =>
    refine ⟨0, n, a, c, rfl, by omega, hc, ?_, ?_, ?_, ?_, ?_⟩
    · exact hs
    · exact (((Row.newAt rfl rfl).alloc _).alloc _)
    · exact (Row.newAt (by simp) rfl).alloc _
    · exact Row.newAt (by simp) rfl
    · exact (((Below.refl _ _).alloc (Nat.le_refl _) _).alloc (by simp) _).alloc (by simp; omega) _
  case round =>
    clear hs hc
    obtain ⟨j, m, a', c', rfl, hm, hc, hs, ho, hh, hk, hb⟩ := hrel
    have hmn : m ≤ n := by omega
    have HM := hid hm
    clear hm
    by_cases h64 : 64 ≤ m
    · have hok := hid (fold64_ok KS l s0 s0_ok j)
      have HS : Hid (fold64 KS l s0 (j + 1) = mixS KS (fun i => (l.drop (64 * j))[i]?.getD 0) (fold64 KS l s0 j)) := by
        unfold Hid; simp only [fold64, List.getElem?_drop]
      generalize fold64 KS l s0 j = s at hh hok HS
      have c0 := hh.cell (i := 0) rfl
      have c1 := hh.cell (i := 1) rfl
      have c2 := hh.cell (i := 2) rfl
      have c3 := hh.cell (i := 3) rfl
      have c4 := hh.cell (i := 4) rfl
      have c5 := hh.cell (i := 5) rfl
      have c6 := hh.cell (i := 6) rfl
      have c7 := hh.cell (i := 7) rfl
      have hsz := ho.lt
      have hsz1 := hh.lt
      have hln : (l.drop (64 * j)).length = m := by have := HM.out; have := HN.out; rw [List.length_drop]; omega
      have hlb : ∀ x ∈ l.drop (64 * j), Byte x := fun x hx => HL.out x (List.mem_of_mem_drop hx)
      have HLN := hid hln
      have HLB := hid hlb
      clear hln hlb
      go_wp2_with fail
      refine (mix_src s hok.out (w.heap.size + 1 + 1) _ a' m c' (l.drop (64 * j)) HLB.out wr hk (hs.below hb (Nat.le_refl _)) HLN.out h64 (by omega)).mono ?_
      rintro e w1 ⟨s', hs', rfl, hb1⟩
      have HS' := hid hs'
      clear hs' c0 c1 c2 c3 c4 c5 c6 c7
      have hh1 := hh.below hb1 hh.lt
      have c0 := hh1.cell (i := 0) rfl
      have c1 := hh1.cell (i := 1) rfl
      have c2 := hh1.cell (i := 2) rfl
      have c3 := hh1.cell (i := 3) rfl
      have c4 := hh1.cell (i := 4) rfl
      have c5 := hh1.cell (i := 5) rfl
      have c6 := hh1.cell (i := 6) rfl
      have c7 := hh1.cell (i := 7) rfl
      have fr := hh1.frozen
      go_wp2
      go_roundw
      case rel =>
        have hm := HM.out
        refine ⟨j + 1, m - 64, cutA a' 64 c', c' - 64, by simp [cutA, Addr.add], by omega, by omega, ?_, ?_, ?_, ?_, ?_⟩
        · have := hs.cut (k := 64) (c := c') (by rw [ints_len]; have := HLN.out; omega)
          rw [ints_drop, List.drop_drop] at this
          exact this
        · iterate 8 refine Row.other ?_ (by simp) _
          exact ho.below hb1 ho.lt
        · rw [HS.out, ← HS'.out]
          exact (((((((hh1.setInt 0 _).setInt 1 _).setInt 2 _).setInt 3 _).setInt 4 _).setInt 5 _).setInt 6 _).setInt 7 _
        · iterate 8 refine Row.other ?_ (by simp) _
          exact hk.below hb1 hk.lt
        · iterate 8 refine Below.setCell ?_ (by simp) _
          exact hb.trans (hb1.mono (by omega))
      case measure => simp [lenV]; omega
    · obtain ⟨W0, rfl⟩ : ∃ W : World, W = wr := ⟨_, rfl⟩
      have hj : n / 64 = j := by have := HM.out; omega
      have hm64 : m = n % 64 := by have := HM.out; omega
      have HJ := hid hj
      have HM6 := hid hm64
      clear hj hm64
      have hsz := ho.lt
      have hsz1 := hh.lt
      have hsz2 := hk.lt
      go_wp2_with fail
      refine (clone_any a' m c' (l.drop (64 * j)) W0 (by rw [List.length_drop]; have := HM.out; have := HN.out; omega) (by omega) (hs.below hb (Nat.le_refl _))).mono ?_
      rintro e w1 ⟨v1, rfl, hv1, hb1⟩
      have ho1 := ho.below hb1 ho.lt
      have hh1 := hh.below hb1 hh.lt
      have hk1 := hk.below hb1 hk.lt
      have hbb := hb.trans (hb1.mono (Nat.le_of_lt ho.lt))
      have hlen : (l.drop (64 * j)).length = m := by rw [List.length_drop]; have := HM.out; have := HN.out; omega
      generalize hT : l.drop (64 * j) = T at *
      have HT := hid hT
      clear hT
      have HLEN := hid hlen
      clear hlen hs
      have hz1 := hb1.size
      go_wp2_with (first
        | (at_builtin; refine wpList_appB _ rfl (.tmp 26) (.tmp 27) rfl W0.heap.size v1 T rfl (hv1.alloc _) (some ⟨w1.heap.size, 0, none⟩) 1 1 [128] rfl rfl (Src.rowAll (Row.newAt rfl rfl)) (by have := HLEN.out; omega) (by simp; omega) (fun h => by cases h) ?_; intro v2 w2 hv2 hg2 _)
        | (at_builtin; refine wpList_zeroB _ rfl (.tmp 29) (.tmp 33) rfl W0.heap.size v2 (T ++ [128]) rfl hv2 (by simp) ((119 - m) % 64) (by show Value.int .i64 ((119 - (m : Int)) % 64) = _; congr 1; omega) (by have := HLEN.out; simp; omega) (by have := hg2.size; simp at this; omega) ?_; intro v3 w3 hv3 hg3))
      have hb3 : Below W0.heap.size W0 w3 := ((hb1.alloc hz1 _).grown hg2 (by simp; omega) (fun k e => (hv1.lt k e).1)).grown hg3 (by have := hg2.size; simp at this; omega) (fun k e => (hv2.lt k e).1)
      have ho' := ho
      clear hg2 hg3 hv1 hv2 hb1 hh1 ho1 hk1 hbb hz1 hc
      go_loopw [6, 35] (fun v i wx => ∃ k : Nat, k ≤ 8 ∧ i = .int .i64 k ∧ OwnB wx W0.heap.size v (T ++ [128] ++ List.replicate ((119 - m) % 64) 0 ++ (beB ((n : Int) * 8)).take k) ∧ Below W0.heap.size W0 wx) (fun _ i _ => 8 - (intOf i).toNat)
      case atStart => exact ⟨0, by omega, rfl, by simpa using hv3, hb3⟩
      case round =>
        clear hv3 hb3
        obtain ⟨k, hk8, rfl, hv, hbx⟩ := hrel
        by_cases h8 : k < 8
        · have g1 : (0 : Int) ≤ 56 - 8 * (k : Int) := by omega
          have g2 : 56 - 8 * (k : Int) ≤ 64 := by omega
          have g3 : (56 - 8 * (k : Int)).toNat = 56 - 8 * k := by omega
          have hzx := hbx.size
          go_wp2_with (at_builtin; refine wpList_appB _ rfl (.tmp 38) (.tmp 45) rfl W0.heap.size u6 _ rfl (hv.alloc _) (some ⟨wr.heap.size, 0, none⟩) 1 1 [(n : Int) * 8 / 2 ^ (56 - 8 * k) % 256] rfl rfl (Src.rowAll (Row.newAt rfl rfl)) (by have := HLEN.out; simp [beB]; omega) (by simp; omega) (fun h => by cases h) ?_; intro v4 w4 hv4 hg4 _)
          go_roundw
          case rel => exact ⟨k + 1, by omega, by go_num, by rw [beB_take _ k h8]; simpa [List.append_assoc] using hv4, (hbx.alloc hzx _).grown hg4 (by simp; omega) (fun k e => (hv.lt k e).1)⟩
          case measure => simp [intOf]; omega
        · have hk : k = 8 := by omega
          subst hk
          have hpad := padOf_of l T j m (by rw [HN.out]; exact HM.out) (by omega) HT.out
          rw [HN.out] at hpad
          have hpl := padOf_len l
          have hpb := padOf_byte l HL.out
          have hv' : OwnB wr W0.heap.size u6 (padOf l) := by
            rw [hpad]; rw [show (8 : Nat) = (beB ((n : Int) * 8)).length from (beB_len _).symm, List.take_length] at hv; exact hv
          clear hv hpad
          have HPB := hid hpb
          clear hpb
          generalize hE : padOf l = E at *
          have HE := hid hE
          clear hE
          obtain ⟨a6, c6, rfl, hE1, hE2, hE3, hE4, hE5, hE6⟩ := own_src' hv'
          clear hv' hE1
          obtain ⟨e, he⟩ : ∃ e, e = E.length := ⟨_, rfl⟩
          rw [← he] at hpl hE2 ⊢
          have HEL := hid he
          clear he
          go_wp2
          go_loopw [6] (fun v wx => ∃ q r a6 c6, v = .slice a6 r c6 ∧ r + 64 * q = e ∧ r ≤ c6 ∧ (∀ b off s, a6 = some ⟨b, off, s⟩ → W0.heap.size ≤ b) ∧ Src wx a6 (Ints .u8 (E.drop (64 * q))) ∧ Row wx w.heap.size 23 (Ints .u8 (List.replicate 32 0)) ∧ Row wx (w.heap.size + 1) 155 (Ints .u32 (fold64 KS E (fold64 KS l s0 j) q).list) ∧ Row wx (w.heap.size + 1 + 1) 185 (Ints .u32 KS) ∧ Below w.heap.size w wx) (fun v _ => lenV v)
          case atStart => exact ⟨0, e, a6, c6, rfl, by omega, hE2, hE6, by simpa using hE4, ho.below hbx ho.lt, hh.below hbx hh.lt, hk.below hbx hk.lt, hb.trans (hbx.mono (by omega))⟩
          case round =>
            clear ho hh hk hb ho' hE2 hE3 hE4 hE5 hE6 hbx
            obtain ⟨q, r, a6, c6, rfl, hr, hrc, hab, hs, ho, hh, hk, hb⟩ := hrel
            have hre : r ≤ e := by omega
            have hr64 : r % 64 = 0 := by omega
            have HR := hid hr
            clear hr
            by_cases h0 : 0 < r
            · have h64' : 64 ≤ r := by omega
              have HR64 := hid hr64
              clear hr64
              have hok := hid (fold64_ok KS E _ (fold64_ok KS l s0 s0_ok j) q)
              have HS : Hid (fold64 KS E (fold64 KS l s0 j) (q + 1) = mixS KS (fun i => (E.drop (64 * q))[i]?.getD 0) (fold64 KS E (fold64 KS l s0 j) q)) := by
                unfold Hid; simp only [fold64, List.getElem?_drop]
              generalize fold64 KS E (fold64 KS l s0 j) q = s at hh hok HS
              have c0 := hh.cell (i := 0) rfl
              have c1 := hh.cell (i := 1) rfl
              have c2 := hh.cell (i := 2) rfl
              have c3 := hh.cell (i := 3) rfl
              have c4 := hh.cell (i := 4) rfl
              have c5 := hh.cell (i := 5) rfl
              have cc6 := hh.cell (i := 6) rfl
              have c7 := hh.cell (i := 7) rfl
              have hln : (E.drop (64 * q)).length = r := by have := HR.out; have := HEL.out; rw [List.length_drop]; omega
              have hlb : ∀ x ∈ E.drop (64 * q), Byte x := fun x hx => HPB.out x (List.mem_of_mem_drop hx)
              have HLN := hid hln
              have HLB := hid hlb
              clear hln hlb
              have hwz := hb.size
              go_wp2_with fail
              refine (mix_src s hok.out (w.heap.size + 1 + 1) _ a6 r c6 (E.drop (64 * q)) HLB.out wr hk hs HLN.out h64' (by omega)).mono ?_
              rintro e1 w5 ⟨s', hs', rfl, hb1⟩
              have HS' := hid hs'
              clear hs' c0 c1 c2 c3 c4 c5 cc6 c7
              have hh1 := hh.below hb1 hh.lt
              have d0 := hh1.cell (i := 0) rfl
              have d1 := hh1.cell (i := 1) rfl
              have d2 := hh1.cell (i := 2) rfl
              have d3 := hh1.cell (i := 3) rfl
              have d4 := hh1.cell (i := 4) rfl
              have d5 := hh1.cell (i := 5) rfl
              have d6 := hh1.cell (i := 6) rfl
              have d7 := hh1.cell (i := 7) rfl
              have fr := hh1.frozen
              go_wp2
              all_goals
                go_roundw
                case rel =>
                  have hr := HR.out
                  refine ⟨q + 1, r - 64, cutA a6 64 c6, c6 - 64, by first | (simp [cutA, Addr.add]; done) | (simp [cutA, Addr.add, *]; done), by omega, by omega, ?_, ?_, ?_, ?_, ?_, ?_⟩
                  · intro b off s he
                    obtain ⟨off', s', hx⟩ := cutA_blk he
                    exact hab _ _ _ hx
                  · have h1 := (hs.below hb1 (Nat.le_refl _)).cut (k := 64) (c := c6) (by rw [ints_len]; have := HLN.out; omega)
                    rw [ints_drop, List.drop_drop] at h1
                    have hab' : ∀ b off s, cutA a6 64 c6 = some ⟨b, off, s⟩ → b ≠ w.heap.size + 1 := by
                      intro b off s he
                      obtain ⟨off', s', hx⟩ := cutA_blk he
                      have := hab _ _ _ hx
                      omega
                    iterate 8 refine Src.other ?_ hab' _
                    exact h1
                  · iterate 8 refine Row.other ?_ (by simp) _
                    exact ho.below hb1 ho.lt
                  · rw [HS.out, ← HS'.out]
                    exact (((((((hh1.setInt 0 _).setInt 1 _).setInt 2 _).setInt 3 _).setInt 4 _).setInt 5 _).setInt 6 _).setInt 7 _
                  · iterate 8 refine Row.other ?_ (by simp) _
                    exact hk.below hb1 hk.lt
                  · iterate 8 refine Below.setCell ?_ (by simp) _
                    exact hb.trans (hb1.mono (by omega))
                case measure => simp [lenV]; omega
            · have hr0 : r = 0 := by omega
              subst hr0
              have hq : (padOf l).length / 64 = q := by rw [HE.out, ← HEL.out, ← HR.out]; omega
              have hS : sumS l = fold64 KS E (fold64 KS l s0 j) q := by unfold sumS; rw [hq, HE.out, HN.out, HJ.out]
              have HSS := hid hS
              clear hS
              generalize fold64 KS E (fold64 KS l s0 j) q = s at hh HSS
              have c0 := hh.cell (i := 0) rfl
              have c1 := hh.cell (i := 1) rfl
              have c2 := hh.cell (i := 2) rfl
              have c3 := hh.cell (i := 3) rfl
              have c4 := hh.cell (i := 4) rfl
              have c5 := hh.cell (i := 5) rfl
              have cc6 := hh.cell (i := 6) rfl
              have c7 := hh.cell (i := 7) rfl
              go_wp2
              clear c0 c1 c2 c3 c4 c5 cc6 c7 hs hk hab
              go_loopw [58] (fun i wx => ∃ k : Nat, k ≤ 8 ∧ i = .int .i64 k ∧ Row wx w.heap.size 23 (Ints .u8 (outK s k)) ∧ Below w.heap.size w wx) (fun i _ => 8 - (intOf i).toNat)
              case atStart => exact ⟨0, by omega, rfl, ho, hb⟩
              case round =>
                clear ho hb hh
                obtain ⟨k, hk, rfl, hv, hb⟩ := hrel
                have fr := hv.frozen
                match k, hk, hv with
                | 0, _, hv =>
                  have i0 : ∀ w, (Instr.index 155 (.agg #[.int .u32 s.a, .int .u32 s.b, .int .u32 s.c, .int .u32 s.d, .int .u32 s.e, .int .u32 s.f, .int .u32 s.g, .int .u32 s.h]) (.int .i64 0)).run Tryz.prog w = .ok (.int .u32 s.a) w := fun _ => by kernel_rfl
                  have c0 := hv.cell (i := 0) rfl
                  have c1 := hv.cell (i := 1) rfl
                  have c2 := hv.cell (i := 2) rfl
                  have c3 := hv.cell (i := 3) rfl
                  go_wp2
                  go_roundw
                  case rel => exact ⟨1, by omega, rfl, ((((hv.setInt 0 _).setInt 1 _).setInt 2 _).setInt 3 _), (((hb.setCell (Nat.le_refl _) _).setCell (Nat.le_refl _) _).setCell (Nat.le_refl _) _).setCell (Nat.le_refl _) _⟩
                  case measure => simp [intOf]
                | 1, _, hv =>
                  have i1 : ∀ w, (Instr.index 155 (.agg #[.int .u32 s.a, .int .u32 s.b, .int .u32 s.c, .int .u32 s.d, .int .u32 s.e, .int .u32 s.f, .int .u32 s.g, .int .u32 s.h]) (.int .i64 1)).run Tryz.prog w = .ok (.int .u32 s.b) w := fun _ => by kernel_rfl
                  have c0 := hv.cell (i := 4) rfl
                  have c1 := hv.cell (i := 5) rfl
                  have c2 := hv.cell (i := 6) rfl
                  have c3 := hv.cell (i := 7) rfl
                  go_wp2
                  go_roundw
                  case rel => exact ⟨2, by omega, rfl, ((((hv.setInt 4 _).setInt 5 _).setInt 6 _).setInt 7 _), (((hb.setCell (Nat.le_refl _) _).setCell (Nat.le_refl _) _).setCell (Nat.le_refl _) _).setCell (Nat.le_refl _) _⟩
                  case measure => simp [intOf]
                | 2, _, hv =>
                  have i2 : ∀ w, (Instr.index 155 (.agg #[.int .u32 s.a, .int .u32 s.b, .int .u32 s.c, .int .u32 s.d, .int .u32 s.e, .int .u32 s.f, .int .u32 s.g, .int .u32 s.h]) (.int .i64 2)).run Tryz.prog w = .ok (.int .u32 s.c) w := fun _ => by kernel_rfl
                  have c0 := hv.cell (i := 8) rfl
                  have c1 := hv.cell (i := 9) rfl
                  have c2 := hv.cell (i := 10) rfl
                  have c3 := hv.cell (i := 11) rfl
                  go_wp2
                  go_roundw
                  case rel => exact ⟨3, by omega, rfl, ((((hv.setInt 8 _).setInt 9 _).setInt 10 _).setInt 11 _), (((hb.setCell (Nat.le_refl _) _).setCell (Nat.le_refl _) _).setCell (Nat.le_refl _) _).setCell (Nat.le_refl _) _⟩
                  case measure => simp [intOf]
                | 3, _, hv =>
                  have i3 : ∀ w, (Instr.index 155 (.agg #[.int .u32 s.a, .int .u32 s.b, .int .u32 s.c, .int .u32 s.d, .int .u32 s.e, .int .u32 s.f, .int .u32 s.g, .int .u32 s.h]) (.int .i64 3)).run Tryz.prog w = .ok (.int .u32 s.d) w := fun _ => by kernel_rfl
                  have c0 := hv.cell (i := 12) rfl
                  have c1 := hv.cell (i := 13) rfl
                  have c2 := hv.cell (i := 14) rfl
                  have c3 := hv.cell (i := 15) rfl
                  go_wp2
                  go_roundw
                  case rel => exact ⟨4, by omega, rfl, ((((hv.setInt 12 _).setInt 13 _).setInt 14 _).setInt 15 _), (((hb.setCell (Nat.le_refl _) _).setCell (Nat.le_refl _) _).setCell (Nat.le_refl _) _).setCell (Nat.le_refl _) _⟩
                  case measure => simp [intOf]
                | 4, _, hv =>
                  have i4 : ∀ w, (Instr.index 155 (.agg #[.int .u32 s.a, .int .u32 s.b, .int .u32 s.c, .int .u32 s.d, .int .u32 s.e, .int .u32 s.f, .int .u32 s.g, .int .u32 s.h]) (.int .i64 4)).run Tryz.prog w = .ok (.int .u32 s.e) w := fun _ => by kernel_rfl
                  have c0 := hv.cell (i := 16) rfl
                  have c1 := hv.cell (i := 17) rfl
                  have c2 := hv.cell (i := 18) rfl
                  have c3 := hv.cell (i := 19) rfl
                  go_wp2
                  go_roundw
                  case rel => exact ⟨5, by omega, rfl, ((((hv.setInt 16 _).setInt 17 _).setInt 18 _).setInt 19 _), (((hb.setCell (Nat.le_refl _) _).setCell (Nat.le_refl _) _).setCell (Nat.le_refl _) _).setCell (Nat.le_refl _) _⟩
                  case measure => simp [intOf]
                | 5, _, hv =>
                  have i5 : ∀ w, (Instr.index 155 (.agg #[.int .u32 s.a, .int .u32 s.b, .int .u32 s.c, .int .u32 s.d, .int .u32 s.e, .int .u32 s.f, .int .u32 s.g, .int .u32 s.h]) (.int .i64 5)).run Tryz.prog w = .ok (.int .u32 s.f) w := fun _ => by kernel_rfl
                  have c0 := hv.cell (i := 20) rfl
                  have c1 := hv.cell (i := 21) rfl
                  have c2 := hv.cell (i := 22) rfl
                  have c3 := hv.cell (i := 23) rfl
                  go_wp2
                  go_roundw
                  case rel => exact ⟨6, by omega, rfl, ((((hv.setInt 20 _).setInt 21 _).setInt 22 _).setInt 23 _), (((hb.setCell (Nat.le_refl _) _).setCell (Nat.le_refl _) _).setCell (Nat.le_refl _) _).setCell (Nat.le_refl _) _⟩
                  case measure => simp [intOf]
                | 6, _, hv =>
                  have i6 : ∀ w, (Instr.index 155 (.agg #[.int .u32 s.a, .int .u32 s.b, .int .u32 s.c, .int .u32 s.d, .int .u32 s.e, .int .u32 s.f, .int .u32 s.g, .int .u32 s.h]) (.int .i64 6)).run Tryz.prog w = .ok (.int .u32 s.g) w := fun _ => by kernel_rfl
                  have c0 := hv.cell (i := 24) rfl
                  have c1 := hv.cell (i := 25) rfl
                  have c2 := hv.cell (i := 26) rfl
                  have c3 := hv.cell (i := 27) rfl
                  go_wp2
                  go_roundw
                  case rel => exact ⟨7, by omega, rfl, ((((hv.setInt 24 _).setInt 25 _).setInt 26 _).setInt 27 _), (((hb.setCell (Nat.le_refl _) _).setCell (Nat.le_refl _) _).setCell (Nat.le_refl _) _).setCell (Nat.le_refl _) _⟩
                  case measure => simp [intOf]
                | 7, _, hv =>
                  have i7 : ∀ w, (Instr.index 155 (.agg #[.int .u32 s.a, .int .u32 s.b, .int .u32 s.c, .int .u32 s.d, .int .u32 s.e, .int .u32 s.f, .int .u32 s.g, .int .u32 s.h]) (.int .i64 7)).run Tryz.prog w = .ok (.int .u32 s.h) w := fun _ => by kernel_rfl
                  have c0 := hv.cell (i := 28) rfl
                  have c1 := hv.cell (i := 29) rfl
                  have c2 := hv.cell (i := 30) rfl
                  have c3 := hv.cell (i := 31) rfl
                  go_wp2
                  go_roundw
                  case rel => exact ⟨8, by omega, rfl, ((((hv.setInt 28 _).setInt 29 _).setInt 30 _).setInt 31 _), (((hb.setCell (Nat.le_refl _) _).setCell (Nat.le_refl _) _).setCell (Nat.le_refl _) _).setCell (Nat.le_refl _) _⟩
                  case measure => simp [intOf]
                | 8, _, hv =>
                  have hv' : Row wr w.heap.size 23 (Ints .u8 (outB s)) := hv
                  go_wp2_with (first
                    | (refine wpList_load_row rfl 23 (.tmp 2) rfl w.heap.size rfl 23 (Ints .u8 (outB s)).toArray (0, 0) _ hv' Tryz.underlying23 rfl (by kernel_rfl) ?_)
                    | (refine wpList_store_row rfl 23 (.tmp 2) (.tmp 89) rfl w.heap.size (Ints .u8 (outB s)).toArray rfl rfl 23 (Ints .u8 (outB s)).toArray hv' (by kernel_rfl) rfl (by kernel_rfl) ?_))
                  refine bodyPost_ret (v := .agg (Ints .u8 (sumB l)).toArray) ?_ rfl ⟨rfl, below_setRow hb (Nat.le_refl _) _⟩
                  unfold sumB
                  rw [HSS.out]
                  exact results_cell_row rfl _ _ w.heap.size 23 _ (0, 0) _ rfl (setRow_heap _ _ _ _ _ _ hv') Tryz.underlying23 rfl (by kernel_rfl)
                | n + 9, hk, _ => omega
