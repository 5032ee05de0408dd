/- seal.tagOf. -/
import Derived.Deep.MidRow
import Derived.Test.YtbemljgcclaopaaGreatDoorS1
namespace Go.Proofs.YtbemljgcclaopaaGreatDoor
open Go.RowKit
theorem run_fullB (w : World) (p : Addr) (n : Nat) (olds : List Int) (hlo : olds.length = n) (holds : Src w (some p) (Ints .u8 olds)) (ad : Option Addr) (m c : Nat) (news : List Int) (hl : news.length = m) (hsrc : Src w ad (Ints .u8 news))
    (hb : n + m ≤ 140737488355328) (hnc : ad = none → c = 0) (ty : TypeId) :
    ∃ a' c' w', (Builtin.append_ #[24, 24] ty #[.slice (some p) n n, .slice ad m c]).run Tryz.prog w = .ok (.slice a' (n + m) c') w' ∧ n + m ≤ c' ∧ (a' = none → c' = 0) ∧ Src w' a' (Ints .u8 (olds ++ news)) ∧ w.grownBy w' none := by
  obtain ⟨i, hi, hz, hsize, hby⟩ := info_parts infoB
  have ht := Tryz.underlying24
  have hadd : ∀ (b off j : Nat), (⟨b, off, none⟩ : Addr).add j = ⟨b, off + j, none⟩ := by intro b off j; unfold Addr.add; split <;> simp_all
  rcases Nat.eq_zero_or_pos m with hm | hm
  · subst hm
    have hn0 : news = [] := List.length_eq_zero_iff.1 hl
    subst hn0
    have hrun : (Builtin.append_ #[24, 24] ty #[.slice (some p) n n, .slice ad 0 c]).run Tryz.prog w = .ok (.slice (some p) n n) w := by
      cases ad with
      | none => simp [Builtin.append_, run_underlying ht, sizeOf, typeInfo, hi, hsize, Builtin.lenOf, Builtin.firstCells, storeCells]
      | some q => simp [Builtin.append_, run_underlying ht, sizeOf, typeInfo, hi, hsize, Builtin.lenOf, Builtin.firstCells, storeCells, loadCells, loadCellsFrom]
    exact ⟨some p, n, w, hrun, by omega, (fun h => by cases h), by simpa using holds, ⟨rfl, rfl, rfl, Nat.le_refl _, fun _ _ _ => rfl⟩⟩
  · obtain ⟨b, off, rfl, _⟩ := hsrc.addr (by rw [ints_len]; omega)
    obtain ⟨v', w', hrun, r1, r2⟩ := run_append_arg_grows (P := Tryz.prog) w 24 ty 5 i (.int .u8 0) 1 1 ht hi hz hsize hby rfl (by decide) p n n (Ints .u8 olds) (by rw [ints_len]; omega)
      (fun j u hj => by
        obtain ⟨b', off', hp, hc⟩ := holds j u hj
        cases hp
        rw [hadd]; exact hc) ⟨b, off, none⟩ m c (Ints .u8 news) (by rw [ints_len]; omega) (fun j u hj => by rw [hadd]; exact hsrc.at hj) (by omega) (by unfold maxLen; omega) (by omega)
    obtain ⟨a', c', rfl, _, hc', _, hs', hz', _⟩ := own_src' r1
    exact ⟨a', c', w', hrun, hc', hz', by rw [← ints_append]; exact hs', r2⟩
theorem run_storeCells_row {P : Program} {w : World} {b : Nat} {e : TypeId} {old : List Value} (h : Row w b e old) (l : List Value) (hl : l.length = old.length) (h1 : ∀ u ∈ l, u.oneCell' = true) :
    (storeCells ⟨b, 0, none⟩ l).run P w = .ok () (w.setRow b l.toArray) := by
  have := run_storeCells_from (P := P) b e l 0 old.toArray w h (by simp; omega) h1
  simpa [hl] using this
attribute [-go_sem] Builtin.append_
/-- The short tag of a body. -/
def tag16 (key b : List Int) : List Int := (tagB key (116 :: b)).take 16
theorem tag16_len (key b : List Int) : (tag16 key b).length = 16 := by unfold tag16; rw [List.length_take, tagB_len]; rfl
set_option maxRecDepth 100000 in
set_option maxHeartbeats 2000000 in
theorem tagOf_any (key : List Int) (hkb : ∀ x ∈ key, Byte x) (hkl : key.length = 32) (a2 : Option Addr) (n c2 : Nat) (d : List Int) (hd : ∀ x ∈ d, Byte x) (w : World)
    (hs : Src w a2 (Ints .u8 d)) (hdl : d.length = n) (hc : n ≤ c2) (hz : a2 = none → c2 = 0) (hn : n ≤ 2048) :
    Calls Tryz.prog 50 #[.agg (Ints .u8 key).toArray, .slice a2 n c2] w fun e w' => e = .returned (.agg (Ints .u8 (tag16 key d)).toArray) ∧ Below w.heap.size w w' := by
  have HKB := hid hkb
  have HKL := hid hkl
  have HD := hid hd
  have HDL := hid hdl
  clear hkb hkl hd hdl
  go_enter Tryz.func50, Tryz.ntmps50
  go_wp2
  have hR0 : Row ((w.alloc (.cells (Ints .u8 key).toArray 23)).alloc (.cells (Ints .u8 (List.replicate 16 0)).toArray 92)) w.heap.size 23 (Ints .u8 key) := (Row.newAt rfl rfl).alloc _
  have hR1 : Row ((w.alloc (.cells (Ints .u8 key).toArray 23)).alloc (.cells (Ints .u8 (List.replicate 16 0)).toArray 92)) (w.heap.size + 1) 92 (Ints .u8 (List.replicate 16 0)) := Row.newAt (by simp) rfl
  have hB0 : Below w.heap.size w ((w.alloc (.cells (Ints .u8 key).toArray 23)).alloc (.cells (Ints .u8 (List.replicate 16 0)).toArray 92)) := ((Below.refl _ w).alloc (Nat.le_refl _) _).alloc (by simp) _
  have hsz : ((w.alloc (.cells (Ints .u8 key).toArray 23)).alloc (.cells (Ints .u8 (List.replicate 16 0)).toArray 92)).heap.size = w.heap.size + 2 := by simp
  change Code.wp _ _ _ _ ((w.alloc (.cells (Ints .u8 key).toArray 23)).alloc (.cells (Ints .u8 (List.replicate 16 0)).toArray 92))
  generalize ((w.alloc (.cells (Ints .u8 key).toArray 23)).alloc (.cells (Ints .u8 (List.replicate 16 0)).toArray 92)) = W0 at hR0 hR1 hB0 hsz ⊢
  have hlt0 := hR0.lt
  have hdb : ∀ x ∈ 116 :: d, Byte x := by
    intro x hx
    rcases List.mem_cons.1 hx with rfl | hx
    · unfold Byte; omega
    · exact HD.out x hx
  have HDB := hid hdb
  have hs0 := hs.below hB0 (Nat.le_refl _)
  clear hdb
  have hnew : ∀ (W : World) (b : Nat), W.heap.size = b → Row (W.alloc (.cells #[.int .u8 116] 5)) b 5 (Ints .u8 [116]) := fun W b hb => Row.newAt hb.symm rfl
  have hfull : ∀ (W W1 : World) (b0 : Nat), Src W1 (some ⟨b0, 0, none⟩) (Ints .u8 [116]) → Src W1 a2 (Ints .u8 d) → ∃ a' c' w', (Builtin.append_ #[24, 24] 24 #[.slice (some ⟨b0, 0, none⟩) 1 1, .slice a2 n c2]).run Tryz.prog W1 = .ok (.slice a' (1 + n) c') w' ∧ 1 + n ≤ c' ∧ (a' = none → c' = 0) ∧ Src w' a' (Ints .u8 (116 :: d)) ∧ W1.grownBy w' none :=
    fun W W1 b0 h1 h2 => run_fullB W1 ⟨b0, 0, none⟩ 1 [116] rfl h1 a2 n c2 d HDL.out h2 (by omega) hz _
  have HF := hid hfull
  have HN := hid hnew
  clear hfull hnew
  obtain ⟨a4, c4, w4, hrun4, hc4, hz4, hs4, hg4⟩ := HF.out W0 (W0.alloc (.cells #[.int .u8 116] 5)).drew (w.heap.size + 2) (Src.rowAll (HN.out W0 _ hsz).drew) (hs0.below ((Below.refl _ _).alloc (Nat.le_refl _) _).drew (Nat.le_refl _))
  obtain ⟨a5, c5, w5, hrun5, hc5, hz5, hs5, hg5⟩ := HF.out W0 ((W0.alloc (.cells #[.int .u8 116] 5)).alloc (.cells #[.int .u8 0, .int .u8 0, .int .u8 0, .int .u8 0, .int .u8 0, .int .u8 0, .int .u8 0, .int .u8 0, .int .u8 0, .int .u8 0, .int .u8 0, .int .u8 0, .int .u8 0, .int .u8 0, .int .u8 0, .int .u8 0, .int .u8 0, .int .u8 0, .int .u8 0, .int .u8 0, .int .u8 0, .int .u8 0, .int .u8 0, .int .u8 0, .int .u8 0, .int .u8 0, .int .u8 0, .int .u8 0, .int .u8 0, .int .u8 0, .int .u8 0, .int .u8 0] 23)).drew (w.heap.size + 2) (Src.rowAll ((HN.out W0 _ hsz).alloc _).drew) (((hs0.below ((Below.refl _ _).alloc (Nat.le_refl _) _) (Nat.le_refl _))).below ((Below.refl _ _).alloc (Nat.le_refl _) _).drew (Nat.le_refl _))
  obtain ⟨a6, c6, w6, hrun6, hc6, hz6, hs6, hg6⟩ := HF.out W0 ((W0.alloc (.cells #[.int .u8 0, .int .u8 0, .int .u8 0, .int .u8 0, .int .u8 0, .int .u8 0, .int .u8 0, .int .u8 0, .int .u8 0, .int .u8 0, .int .u8 0, .int .u8 0, .int .u8 0, .int .u8 0, .int .u8 0, .int .u8 0, .int .u8 0, .int .u8 0, .int .u8 0, .int .u8 0, .int .u8 0, .int .u8 0, .int .u8 0, .int .u8 0, .int .u8 0, .int .u8 0, .int .u8 0, .int .u8 0, .int .u8 0, .int .u8 0, .int .u8 0, .int .u8 0] 23)).alloc (.cells #[.int .u8 116] 5)).drew (w.heap.size + 2 + 1) (Src.rowAll (HN.out _ _ (by simp; omega)).drew) (((hs0.below ((Below.refl _ _).alloc (Nat.le_refl _) _) (Nat.le_refl _))).below ((Below.refl _ _).alloc (Nat.le_refl _) _).drew (Nat.le_refl _))
  have hk4 : Row w4 w.heap.size 23 (Ints .u8 key) := ((hR0.alloc _).drew).grown hg4 (by simp)
  have hk5 : Row w5 w.heap.size 23 (Ints .u8 key) := (((hR0.alloc _).alloc _).drew).grown hg5 (by simp)
  have hk6 : Row w6 w.heap.size 23 (Ints .u8 key) := (((hR0.alloc _).alloc _).drew).grown hg6 (by simp)
  have r4 : Row w4 (w.heap.size + 1) 92 (Ints .u8 (List.replicate 16 0)) := ((hR1.alloc _).drew).grown hg4 (by simp)
  have r5 : Row w5 (w.heap.size + 1) 92 (Ints .u8 (List.replicate 16 0)) := (((hR1.alloc _).alloc _).drew).grown hg5 (by simp)
  have r6 : Row w6 (w.heap.size + 1) 92 (Ints .u8 (List.replicate 16 0)) := (((hR1.alloc _).alloc _).drew).grown hg6 (by simp)
  clear hs
  have hh5 : Row w5 (w.heap.size + 2 + 1) 23 (Ints .u8 (List.replicate 32 0)) := (Row.newAt (by simp; omega) rfl).drew.grown hg5 (by simp)
  have hh6 : Row w6 (w.heap.size + 2) 23 (Ints .u8 (List.replicate 32 0)) := ((Row.newAt hsz.symm rfl).alloc _).drew.grown hg6 (by simp)
  have hz4' := hg4.size
  have t1 := tag_any (some ⟨w.heap.size, 0, none⟩) a4 32 32 (1 + n) c4 key (116 :: d) HKB.out HDB.out w4 (Src.rowAll hk4) hs4 HKL.out (by omega) (fun h => by cases h) (by rw [List.length_cons, HDL.out]; omega) hc4 hz4 (by omega) (by omega)
  have g1 : Below w.heap.size w w4 := ((hB0.alloc (by omega) _).drew.grown hg4 (by simp; omega) (fun j e => by cases e))
  have t2 := tag_any (some ⟨w.heap.size, 0, none⟩) a4 32 32 (1 + n) c4 key (116 :: d) HKB.out HDB.out (w4.alloc (.cells #[.int .u8 0, .int .u8 0, .int .u8 0, .int .u8 0, .int .u8 0, .int .u8 0, .int .u8 0, .int .u8 0, .int .u8 0, .int .u8 0, .int .u8 0, .int .u8 0, .int .u8 0, .int .u8 0, .int .u8 0, .int .u8 0, .int .u8 0, .int .u8 0, .int .u8 0, .int .u8 0, .int .u8 0, .int .u8 0, .int .u8 0, .int .u8 0, .int .u8 0, .int .u8 0, .int .u8 0, .int .u8 0, .int .u8 0, .int .u8 0, .int .u8 0, .int .u8 0] 23)) (Src.rowAll (hk4.alloc _)) (hs4.below ((Below.refl _ _).alloc (Nat.le_refl _) _) (Nat.le_refl _)) HKL.out (by omega) (fun h => by cases h) (by rw [List.length_cons, HDL.out]; omega) hc4 hz4 (by omega) (by omega)
  have g2 : Below w.heap.size w (w4.alloc (.cells #[.int .u8 0, .int .u8 0, .int .u8 0, .int .u8 0, .int .u8 0, .int .u8 0, .int .u8 0, .int .u8 0, .int .u8 0, .int .u8 0, .int .u8 0, .int .u8 0, .int .u8 0, .int .u8 0, .int .u8 0, .int .u8 0, .int .u8 0, .int .u8 0, .int .u8 0, .int .u8 0, .int .u8 0, .int .u8 0, .int .u8 0, .int .u8 0, .int .u8 0, .int .u8 0, .int .u8 0, .int .u8 0, .int .u8 0, .int .u8 0, .int .u8 0, .int .u8 0] 23)) := (((hB0.alloc (by omega) _).drew.grown hg4 (by simp; omega) (fun j e => by cases e)).alloc (by simp at hz4'; omega) _)
  have t3 := tag_any (some ⟨w.heap.size, 0, none⟩) a5 32 32 (1 + n) c5 key (116 :: d) HKB.out HDB.out w5 (Src.rowAll hk5) hs5 HKL.out (by omega) (fun h => by cases h) (by rw [List.length_cons, HDL.out]; omega) hc5 hz5 (by omega) (by omega)
  have g3 : Below w.heap.size w w5 := (((hB0.alloc (by omega) _).alloc (by simp; omega) _).drew.grown hg5 (by simp; omega) (fun j e => by cases e))
  have t4 := tag_any (some ⟨w.heap.size, 0, none⟩) a6 32 32 (1 + n) c6 key (116 :: d) HKB.out HDB.out w6 (Src.rowAll hk6) hs6 HKL.out (by omega) (fun h => by cases h) (by rw [List.length_cons, HDL.out]; omega) hc6 hz6 (by omega) (by omega)
  have g4 : Below w.heap.size w w6 := (((hB0.alloc (by omega) _).alloc (by simp; omega) _).drew.grown hg6 (by simp; omega) (fun j e => by cases e))
  go_cut [5] (fun b wx => ∃ hb, b = .pointer (some ⟨hb, 0, none⟩) ∧ Row wx hb 23 (Ints .u8 (tagB key (116 :: d))) ∧ Row wx (w.heap.size + 1) 92 (Ints .u8 (List.replicate 16 0)) ∧ Below w.heap.size w wx)
  case first =>
    go_region_with (first
    | (go_at_call 65; (with_reducible refine Calls.mono t1 ?_); rintro e w7 ⟨rfl, hb7⟩; have hrw : Row (w7.alloc (.cells #[.int .u8 0, .int .u8 0, .int .u8 0, .int .u8 0, .int .u8 0, .int .u8 0, .int .u8 0, .int .u8 0, .int .u8 0, .int .u8 0, .int .u8 0, .int .u8 0, .int .u8 0, .int .u8 0, .int .u8 0, .int .u8 0, .int .u8 0, .int .u8 0, .int .u8 0, .int .u8 0, .int .u8 0, .int .u8 0, .int .u8 0, .int .u8 0, .int .u8 0, .int .u8 0, .int .u8 0, .int .u8 0, .int .u8 0, .int .u8 0, .int .u8 0, .int .u8 0] 23)) w7.heap.size 23 (Ints .u8 (List.replicate 32 0)) := (Row.newAt rfl rfl); have hst : (storeCells ⟨w7.heap.size, 0, none⟩ (Ints .u8 (tagB key (116 :: d)))).run Tryz.prog (w7.alloc (.cells #[.int .u8 0, .int .u8 0, .int .u8 0, .int .u8 0, .int .u8 0, .int .u8 0, .int .u8 0, .int .u8 0, .int .u8 0, .int .u8 0, .int .u8 0, .int .u8 0, .int .u8 0, .int .u8 0, .int .u8 0, .int .u8 0, .int .u8 0, .int .u8 0, .int .u8 0, .int .u8 0, .int .u8 0, .int .u8 0, .int .u8 0, .int .u8 0, .int .u8 0, .int .u8 0, .int .u8 0, .int .u8 0, .int .u8 0, .int .u8 0, .int .u8 0, .int .u8 0] 23)) = .ok () (((w7.alloc (.cells #[.int .u8 0, .int .u8 0, .int .u8 0, .int .u8 0, .int .u8 0, .int .u8 0, .int .u8 0, .int .u8 0, .int .u8 0, .int .u8 0, .int .u8 0, .int .u8 0, .int .u8 0, .int .u8 0, .int .u8 0, .int .u8 0, .int .u8 0, .int .u8 0, .int .u8 0, .int .u8 0, .int .u8 0, .int .u8 0, .int .u8 0, .int .u8 0, .int .u8 0, .int .u8 0, .int .u8 0, .int .u8 0, .int .u8 0, .int .u8 0, .int .u8 0, .int .u8 0] 23))).setRow w7.heap.size (Ints .u8 (tagB key (116 :: d))).toArray) := run_storeCells_row hrw _ (by rw [ints_len, tagB_len]; rfl) (ints_one _ _); have hw7 := hb7.size; have hg7 := g1.size; have hR7 : Row (w7.alloc (.cells #[.int .u8 0, .int .u8 0, .int .u8 0, .int .u8 0, .int .u8 0, .int .u8 0, .int .u8 0, .int .u8 0, .int .u8 0, .int .u8 0, .int .u8 0, .int .u8 0, .int .u8 0, .int .u8 0, .int .u8 0, .int .u8 0, .int .u8 0, .int .u8 0, .int .u8 0, .int .u8 0, .int .u8 0, .int .u8 0, .int .u8 0, .int .u8 0, .int .u8 0, .int .u8 0, .int .u8 0, .int .u8 0, .int .u8 0, .int .u8 0, .int .u8 0, .int .u8 0] 23)) (w.heap.size + 1) 92 (Ints .u8 (List.replicate 16 0)) := Row.alloc ((r4).below hb7 r4.lt) _; have hbw : Below w.heap.size w (w7.alloc (.cells #[.int .u8 0, .int .u8 0, .int .u8 0, .int .u8 0, .int .u8 0, .int .u8 0, .int .u8 0, .int .u8 0, .int .u8 0, .int .u8 0, .int .u8 0, .int .u8 0, .int .u8 0, .int .u8 0, .int .u8 0, .int .u8 0, .int .u8 0, .int .u8 0, .int .u8 0, .int .u8 0, .int .u8 0, .int .u8 0, .int .u8 0, .int .u8 0, .int .u8 0, .int .u8 0, .int .u8 0, .int .u8 0, .int .u8 0, .int .u8 0, .int .u8 0, .int .u8 0] 23)) := Below.alloc (g1.trans (hb7.mono hg7)) (by omega) _; have hne : w7.heap.size ≠ w.heap.size + 1 ∧ w.heap.size ≤ w7.heap.size := by (try simp at hw7); (try have := hg4.size; simp at this); omega)
    | (go_at_call 65; (with_reducible refine Calls.mono t2 ?_); rintro e w7 ⟨rfl, hb7⟩; have hrw : Row w7 w4.heap.size 23 (Ints .u8 (List.replicate 32 0)) := ((Row.newAt rfl rfl).below hb7 (by simp)); have hst : (storeCells ⟨w4.heap.size, 0, none⟩ (Ints .u8 (tagB key (116 :: d)))).run Tryz.prog w7 = .ok () ((w7).setRow w4.heap.size (Ints .u8 (tagB key (116 :: d))).toArray) := run_storeCells_row hrw _ (by rw [ints_len, tagB_len]; rfl) (ints_one _ _); have hw7 := hb7.size; have hg7 := g2.size; have hR7 : Row w7 (w.heap.size + 1) 92 (Ints .u8 (List.replicate 16 0)) := (r4.alloc _).below hb7 (r4.alloc _).lt; have hbw : Below w.heap.size w w7 := g2.trans (hb7.mono hg7); have hne : w4.heap.size ≠ w.heap.size + 1 ∧ w.heap.size ≤ w4.heap.size := by (try simp at hw7); (try have := hg4.size; simp at this); omega)
    | (go_at_call 65; (with_reducible refine Calls.mono t3 ?_); rintro e w7 ⟨rfl, hb7⟩; have hrw : Row w7 (w.heap.size + 2 + 1) 23 (Ints .u8 (List.replicate 32 0)) := (hh5.below hb7 hh5.lt); have hst : (storeCells ⟨(w.heap.size + 2 + 1), 0, none⟩ (Ints .u8 (tagB key (116 :: d)))).run Tryz.prog w7 = .ok () ((w7).setRow (w.heap.size + 2 + 1) (Ints .u8 (tagB key (116 :: d))).toArray) := run_storeCells_row hrw _ (by rw [ints_len, tagB_len]; rfl) (ints_one _ _); have hw7 := hb7.size; have hg7 := g3.size; have hR7 : Row w7 (w.heap.size + 1) 92 (Ints .u8 (List.replicate 16 0)) := (r5).below hb7 r5.lt; have hbw : Below w.heap.size w w7 := g3.trans (hb7.mono hg7); have hne : (w.heap.size + 2 + 1) ≠ w.heap.size + 1 ∧ w.heap.size ≤ (w.heap.size + 2 + 1) := by (try simp at hw7); (try have := hg4.size; simp at this); omega)
    | (go_at_call 65; (with_reducible refine Calls.mono t4 ?_); rintro e w7 ⟨rfl, hb7⟩; have hrw : Row w7 (w.heap.size + 2) 23 (Ints .u8 (List.replicate 32 0)) := (hh6.below hb7 hh6.lt); have hst : (storeCells ⟨(w.heap.size + 2), 0, none⟩ (Ints .u8 (tagB key (116 :: d)))).run Tryz.prog w7 = .ok () ((w7).setRow (w.heap.size + 2) (Ints .u8 (tagB key (116 :: d))).toArray) := run_storeCells_row hrw _ (by rw [ints_len, tagB_len]; rfl) (ints_one _ _); have hw7 := hb7.size; have hg7 := g4.size; have hR7 : Row w7 (w.heap.size + 1) 92 (Ints .u8 (List.replicate 16 0)) := (r6).below hb7 r6.lt; have hbw : Below w.heap.size w w7 := g4.trans (hb7.mono hg7); have hne : (w.heap.size + 2) ≠ w.heap.size + 1 ∧ w.heap.size ≤ (w.heap.size + 2) := by (try simp at hw7); (try have := hg4.size; simp at this); omega))
    all_goals (go_wp2_with fail; go_meet; exact ⟨_, rfl, hrw.put _, hR7.putOther (Ne.symm hne.1) _, below_setRow hbw hne.2 _⟩)
  case rest =>
    clear hrun4 hrun5 hrun6 hk4 hk5 hk6 hs4 hs5 hs6 hg4 hg5 hg6 t1 t2 t3 t4 g1 g2 g3 g4 hh5 hh6 r4 r5 r6 hR0 hR1 hB0 hs0
    obtain ⟨hb, rfl, hr1, hr2, hB⟩ := hcut
    have hlt := hr1.lt
    have harr : ∀ W : World, (Instr.arrayAt 92 (.slice (some ⟨hb, 0, none⟩) 16 32)).run Tryz.prog W = .ok (.pointer (some ⟨hb, 0, none⟩)) W := fun W => by kernel_rfl
    have hrg : wc.rangeAt hb 0 (Ints .u8 (tag16 key d)) := fun j v hj => by
      unfold tag16 at hj
      rw [← ints_take, List.getElem?_take] at hj
      split at hj
      · simpa using hr1.cell hj
      · cases hj
    go_wp2_with (first
      | (refine wpList_load_mid rfl 92 (.tmp 12) rfl hb 0 rfl _ _ hrg Tryz.underlying92 rfl (by rw [ints_len, tag16_len]; kernel_rfl) ?_)
      | (refine wpList_store_row rfl 92 (.tmp 4) (.tmp 13) rfl (w.heap.size + 1) (Ints .u8 (tag16 key d)).toArray rfl rfl 92 (Ints .u8 (List.replicate 16 0)).toArray hr2 (by rw [List.size_toArray, ints_len, tag16_len]; kernel_rfl) (by rw [List.size_toArray, List.size_toArray, ints_len, ints_len, tag16_len]; rfl) (by rw [Array.all_eq_true_iff_forall_mem]; intro u hu; exact ints_one _ _ u (by simpa using hu)) ?_))
    refine bodyPost_ret (v := .agg (Ints .u8 (tag16 key d)).toArray) ?_ rfl ⟨rfl, below_setRow hB (by omega) _⟩
    exact results_cell_row rfl _ _ (w.heap.size + 1) 92 _ (0, 0) _ rfl (setRow_heap _ _ _ _ _ _ hr2) Tryz.underlying92 rfl (by rw [List.size_toArray, ints_len, tag16_len]; kernel_rfl)
end Go.Proofs.YtbemljgcclaopaaGreatDoor
