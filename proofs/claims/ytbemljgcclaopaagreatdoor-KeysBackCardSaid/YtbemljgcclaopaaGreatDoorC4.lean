/- seal.blocks, seal.Stream. -/
import Derived.Test.YtbemljgcclaopaaGreatDoorC3
namespace Go.Proofs.YtbemljgcclaopaaGreatDoor
open Go.RowKit
attribute [local go_sem] Oper.semAt_some
theorem blocks_any (kc : Array Value) (once : Int) (w : World) :
    Calls Tryz.prog 97 #[.agg kc, .int .u64 once] w fun e w' => e = .returned (.func (.func 120) #[] #[.pointer (some ⟨w.heap.size, 0, none⟩), .pointer (some ⟨w.heap.size + 1, 0, none⟩)]) ∧ w' = (w.alloc (.cells kc 23)).alloc (.cells #[.int .u64 once] 57) := by
  go_enter Tryz.func97, Tryz.ntmps97
  go_wp2
  go_ret
  exact ⟨rfl, rfl⟩
def flatH (pre : List H32) : List Int := (pre.map (·.1)).flatten
theorem flatH_len (pre : List H32) : (flatH pre).length = 32 * pre.length := by
  induction pre with
  | nil => rfl
  | cons x xs ih => simp only [flatH, List.map_cons, List.flatten_cons, List.length_append] at ih ⊢; rw [ih, x.2.1]; simp; omega
theorem flatH_snoc (pre : List H32) (x : H32) : flatH (pre ++ [x]) = flatH pre ++ x.1 := by simp [flatH]
theorem boxed_turn {B b : Nat} {t : TypeId} {v : Value} {X Y : World} {row : Option Nat} (hv : Boxed X b t v) (hg : X.grownBy Y row) (hr : ∀ r, row = some r → B ≤ r ∧ ∃ o : Obj, X.heap[r]? = some o ∧ o.isCells = false) : Boxed Y b t v := by
  refine hv.kept hg (fun e' => ?_)
  obtain ⟨_, o, ho, hc⟩ := hr b e'.symm
  rw [show X.heap[b]? = _ from hv] at ho; cases ho; cases hc
theorem row_turn {B b : Nat} {t : TypeId} {l : List Value} {X Y : World} {row : Option Nat} (hv : Row X b t l) (hg : X.grownBy Y row) (hr : ∀ r, row = some r → B ≤ r ∧ ∃ o : Obj, X.heap[r]? = some o ∧ o.isCells = false) : Row Y b t l := by
  refine (hg.block b hv.lt (fun e' => ?_)).trans hv
  obtain ⟨_, o, ho, hc⟩ := hr b e'.symm
  rw [show X.heap[b]? = _ from hv] at ho; cases ho; cases hc
theorem owned_cells {w : World} {base : Nat} {e : TypeId} {size : Nat} {v : Value} {n : Nat} {xs : List Value} (h : w.ownsRow base e size v n xs) : ∀ (j : Nat) (o : Obj), v.ownBlock = some j → w.heap[j]? = some o → o.isCells = true := by
  intro j o ej hj
  rcases h.2 with ⟨rfl, _⟩ | ⟨g, cap, cur, rfl, _, hgb, _⟩
  · simp [Value.ownBlock] at ej
  · obtain rfl : g = j := by simpa [Value.ownBlock] using ej
    rw [hgb] at hj; cases hj; rfl
theorem owned_turn {B base : Nat} {e : TypeId} {size : Nat} {v : Value} {n : Nat} {xs : List Value} {X Y : World} {row : Option Nat} (h : X.ownsRow base e size v n xs) (hg : X.grownBy Y row) (hr : ∀ r, row = some r → B ≤ r ∧ ∃ o : Obj, X.heap[r]? = some o ∧ o.isCells = false) : Y.ownsRow base e size v n xs := by
  refine h.kept hg ?_
  cases hb : v.ownBlock with
  | none => exact .inl rfl
  | some g =>
    refine .inr fun e' => ?_
    obtain ⟨_, o, ho, hc⟩ := hr g e'.symm
    rw [owned_cells h g o hb ho] at hc; cases hc
theorem below_turn {B n₀ : Nat} {w X Y : World} {row : Option Nat} (h : Below n₀ w X) (hB : n₀ ≤ B) (hX : n₀ ≤ X.heap.size) (hg : X.grownBy Y row) (hr : ∀ r, row = some r → B ≤ r ∧ ∃ o : Obj, X.heap[r]? = some o ∧ o.isCells = false) : Below n₀ w Y :=
  h.grown hg hX fun j ej => by have := (hr j ej).1; omega
/-- A slice of one-cell elements cut at its head still owns. -/
theorem owned_take {w : World} {base : Nat} {e : TypeId} {v : Value} {n k : Nat} {xs : List Value} (h : w.ownsRow base e 1 v n xs) (hk : k ≤ n) : ∃ v', (∀ a c, v = .slice a n c → v' = .slice a k c) ∧ w.ownsRow base e 1 v' k (xs.take k) := by
  obtain ⟨hl, h⟩ := h
  rcases h with ⟨rfl, rfl⟩ | ⟨g, cap, cur, rfl, hg, hh, hc, hm, hz, ht⟩
  · refine ⟨.slice none 0 0, fun a c h => by cases h; rw [Nat.le_zero.1 hk], by simp at hl ⊢; omega, .inl ⟨rfl, Nat.le_zero.1 hk⟩⟩
  · refine ⟨.slice (some ⟨g, 0, none⟩) k cap, fun a c h => by cases h; rfl, by rw [List.length_take]; omega, .inr ⟨g, cap, cur, rfl, hg, hh, by omega, hm, hz, ?_⟩⟩
    rw [← ht, List.take_take]; congr 1; omega
set_option maxRecDepth 100000 in
set_option maxHeartbeats 2000000 in
theorem stream_any (key : List Int) (hkb : ∀ x ∈ key, Byte x) (hkl : key.length = 32) (once : Int) (ho : U64 once) (n : Nat) (hn : n ≤ 1024) (w : World) :
    Calls Tryz.prog 66 #[.agg (Ints .u8 key).toArray, .int .u64 once, .int .i64 n] w fun e w' => ∃ v, e = .returned (.tuple #[v, .int .i64 0]) ∧ (∃ m, n ≤ 32 * m ∧ OwnB w' w.heap.size v ((flatH (upH key once m)).take n)) ∧ Below w.heap.size w w' := by
  have HKB := hid hkb
  have HKL := hid hkl
  have HO := hid ho
  clear hkb hkl ho
  refine (callsIn_wide (n := 9)).1 ?_
  refine callsIn_of_wp_marks Tryz.func66 rfl trivial ?_ rfl
  simp only [Tryz.ntmps66, List.size_toArray, List.length_cons, List.length_nil, Nat.reduceAdd, Nat.reduceSub, Array.replicate_succ, Array.replicate_zero, List.push_toArray, List.append_toArray, List.nil_append, List.cons_append]
  refine wpIn_wide.2 ?_
  have hR0 : Row (((w.alloc (.cells (Ints .u8 key).toArray 23)).alloc (.cells #[.int .i64 n] 3)).alloc (.cells #[.slice none 0 0] 24)) w.heap.size 23 (Ints .u8 key) := ((Row.newAt rfl rfl).alloc _).alloc _
  go_wp2_with (first
    | (refine wpList_load_row rfl 23 (.tmp 3) rfl w.heap.size rfl 23 (Ints .u8 key).toArray (0, 0) _ hR0 Tryz.underlying23 rfl (by rw [List.size_toArray, ints_len, HKL.out]; kernel_rfl) ?_)
    | (go_at_call 97; refine (blocks_any _ _ _).mono ?_; rintro e w' ⟨rfl, rfl⟩))
  have b1 : Boxed (((((w.alloc (.cells (Ints .u8 key).toArray 23)).alloc (.cells #[.int .i64 n] 3)).alloc (.cells #[.slice none 0 0] 24)).alloc (.cells (Ints .u8 key).toArray 23)).alloc (.cells #[.int .u64 once] 57)) (w.heap.size + 1) 3 (.int .i64 n) := Row.newAt (vs := [.int .i64 n]) (by simp) rfl |>.alloc _ |>.alloc _ |>.alloc _
  have b2 : Boxed (((((w.alloc (.cells (Ints .u8 key).toArray 23)).alloc (.cells #[.int .i64 n] 3)).alloc (.cells #[.slice none 0 0] 24)).alloc (.cells (Ints .u8 key).toArray 23)).alloc (.cells #[.int .u64 once] 57)) (w.heap.size + 1 + 1) 24 (.slice none 0 0) := Row.newAt (vs := [.slice none 0 0]) (by simp) rfl |>.alloc _ |>.alloc _
  have r3 : Row (((((w.alloc (.cells (Ints .u8 key).toArray 23)).alloc (.cells #[.int .i64 n] 3)).alloc (.cells #[.slice none 0 0] 24)).alloc (.cells (Ints .u8 key).toArray 23)).alloc (.cells #[.int .u64 once] 57)) (w.heap.size + 1 + 1 + 1) 23 (Ints .u8 key) := (Row.newAt (by simp) rfl).alloc _
  have r4 : Row (((((w.alloc (.cells (Ints .u8 key).toArray 23)).alloc (.cells #[.int .i64 n] 3)).alloc (.cells #[.slice none 0 0] 24)).alloc (.cells (Ints .u8 key).toArray 23)).alloc (.cells #[.int .u64 once] 57)) (w.heap.size + 1 + 1 + 1 + 1) 57 [.int .u64 once] := Row.newAt (by simp) rfl
  have hB0 : Below w.heap.size w (((((w.alloc (.cells (Ints .u8 key).toArray 23)).alloc (.cells #[.int .i64 n] 3)).alloc (.cells #[.slice none 0 0] 24)).alloc (.cells (Ints .u8 key).toArray 23)).alloc (.cells #[.int .u64 once] 57)) := (((((Below.refl _ w).alloc (Nat.le_refl _) _).alloc (by simp) _).alloc (by simp; omega) _).alloc (by simp; omega) _).alloc (by simp; omega) _
  have hsz : (((((w.alloc (.cells (Ints .u8 key).toArray 23)).alloc (.cells #[.int .i64 n] 3)).alloc (.cells #[.slice none 0 0] 24)).alloc (.cells (Ints .u8 key).toArray 23)).alloc (.cells #[.int .u64 once] 57)).heap.size = w.heap.size + 5 := by simp
  generalize (((((w.alloc (.cells (Ints .u8 key).toArray 23)).alloc (.cells #[.int .i64 n] 3)).alloc (.cells #[.slice none 0 0] 24)).alloc (.cells (Ints .u8 key).toArray 23)).alloc (.cells #[.int .u64 once] 57)) = W0 at *
  have lt2 : w.heap.size + 1 + 1 < W0.heap.size := by omega
  refine wp_rangeFunc_endless 9 (by decide) (gf := 120) (lb := #[.pointer (some ⟨w.heap.size + 1 + 1 + 1, 0, none⟩), .pointer (some ⟨w.heap.size + 1 + 1 + 1 + 1, 0, none⟩)]) rfl (enters_of Tryz.func120 (by kernel_rfl) rfl)
    (blocks_endless 8 (w.heap.size + 1 + 1 + 1) (w.heap.size + 1 + 1 + 1 + 1) (w.heap.size + 3) (w.heap.size + 5) 40 _ (by omega) key HKB.out HKL.out once HO.out W0 r3 r4 ⟨by omega, by omega⟩ ⟨by omega, by omega⟩ (by omega)) (by omega) (Below.refl _ _) (fun _ => rfl)
    (fun pre W => (∃ v, Boxed W (w.heap.size + 1 + 1) 24 v ∧ OwnB W W0.heap.size v (flatH pre)) ∧ Boxed W (w.heap.size + 1) 3 (.int .i64 n) ∧ Below w.heap.size w W ∧ 32 * pre.length < n + 32 ∧ W0.heap.size ≤ W.heap.size)
    (fun c pre W => ∃ pre0 x, pre = pre0 ++ [x] ∧ c = .exit 0 ∧ (∃ v, Boxed W (w.heap.size + 1 + 1) 24 v ∧ OwnB W W0.heap.size v (flatH pre0)) ∧ Boxed W (w.heap.size + 1) 3 (.int .i64 n) ∧ Below w.heap.size w W ∧ n ≤ 32 * pre0.length ∧ W0.heap.size ≤ W.heap.size)
    ?own ?ownx (fun pre W h => by have := h.2.2.2.1; omega) ⟨⟨_, b2, World.ownsRow_nil _ _ _ _⟩, b1, hB0, by simp, Nat.le_refl _⟩
    (fun s W => ∃ Bx, W0.heap.size ≤ Bx ∧ Row W Bx 23 (Ints .u8 s.1.1) ∧ s.2 = { tmps := #[.agg (Ints .u8 key).toArray, .int .u64 once, .int .i64 n, .pointer (some ⟨w.heap.size, 0, none⟩), undef, .pointer (some ⟨w.heap.size + 1, 0, none⟩), .slice none 0 0, .int .i64 0, .pointer (some ⟨w.heap.size + 1 + 1, 0, none⟩), .pointer (some ⟨Bx, 0, none⟩), .int .i64 n, .bool (decide ((n : Int) < 0)), .bool (decide ((n : Int) < 0)), .int .i64 n, .bool (decide (1024 < (n : Int))), .bool (decide ((n : Int) < 0) || decide (1024 < (n : Int))), .agg (Ints .u8 key).toArray, .int .u64 once, .func (.func 120) #[] #[.pointer (some ⟨w.heap.size + 1 + 1 + 1, 0, none⟩), .pointer (some ⟨w.heap.size + 1 + 1 + 1 + 1, 0, none⟩)], .agg (Ints .u8 s.1.1).toArray, undef, undef, undef, undef, undef, undef, undef, undef, undef, undef], defers := [] })
    ?ownax ?assign ?body ?stop
  case own =>
    rintro s X Y row ⟨⟨v, hv, hown⟩, hn1, hB, hpl, hWz⟩ hg hr
    exact ⟨⟨v, boxed_turn hv hg hr, owned_turn hown hg hr⟩, boxed_turn hn1 hg hr, below_turn hB (by omega) (by omega) hg hr, hpl, Nat.le_trans hWz hg.size⟩
  case ownx =>
    rintro c s X Y row ⟨pre0, x, hp, hc, ⟨v, hv, hown⟩, hn1, hB, hpl, hWz⟩ hg hr
    exact ⟨pre0, x, hp, hc, ⟨v, boxed_turn hv hg hr, owned_turn hown hg hr⟩, boxed_turn hn1 hg hr, below_turn hB (by omega) (by omega) hg hr, hpl, Nat.le_trans hWz hg.size⟩
  case ownax =>
    rintro s X Y row ⟨Bx, hBx, hrx, ha⟩ hg hr
    exact ⟨Bx, hBx, row_turn hrx hg hr, ha⟩
  case assign =>
    intro l x pre W K hi hK
    gi_wp2_with (refine wpListIn_store_row rfl 23 (.tmp 9) (.tmp 19) rfl W.heap.size (Ints .u8 x.1).toArray rfl rfl 23 (Ints .u8 (List.replicate 32 0)).toArray (Row.newAt rfl rfl) (by rw [List.size_toArray, ints_len, x.2.1]; kernel_rfl) (by rw [List.size_toArray, List.size_toArray, ints_len, ints_len, x.2.1]; rfl) (by rw [Array.all_eq_true_iff_forall_mem]; intro u hu; exact ints_one _ _ u (by simpa using hu)) ?_)
    obtain ⟨⟨v, hv, hown⟩, hn1, hB, hpl, hWz⟩ := hi
    have hbe : Below W.heap.size W ((W.alloc (.cells #[.int .u8 0, .int .u8 0, .int .u8 0, .int .u8 0, .int .u8 0, .int .u8 0, .int .u8 0, .int .u8 0, .int .u8 0, .int .u8 0, .int .u8 0, .int .u8 0, .int .u8 0, .int .u8 0, .int .u8 0, .int .u8 0, .int .u8 0, .int .u8 0, .int .u8 0, .int .u8 0, .int .u8 0, .int .u8 0, .int .u8 0, .int .u8 0, .int .u8 0, .int .u8 0, .int .u8 0, .int .u8 0, .int .u8 0, .int .u8 0, .int .u8 0, .int .u8 0] 23)).setRow W.heap.size (Ints .u8 x.1).toArray) := below_setRow ((Below.refl _ W).alloc (Nat.le_refl _) _) (Nat.le_refl _) _
    exact hK _ _ (keeps_below hbe) (Mid.below hbe (by omega)) ⟨⟨v, boxed_below hv hbe, own_kept hown hbe⟩, boxed_below hn1 hbe, hB.trans (hbe.mono hB.size), hpl, Nat.le_trans hWz hbe.size⟩ ⟨W.heap.size, hWz, Row.put (old := Ints .u8 (List.replicate 32 0)) (Row.newAt rfl rfl) _, rfl⟩
  case body =>
    rintro l pre x a1 W ⟨⟨v, hv, hown⟩, hn1, hB, hpl, hWz⟩ ⟨Bx, hBx, hrx, ha1⟩
    dsimp only at ha1 hrx
    subst ha1
    have cv := hv.cell
    have cn := hn1.cell
    have fv := hv.frozen
    obtain ⟨a4, c4, rfl, hvl, hc4, hm4, hs4, hz4, hb4⟩ := own_src' hown
    have hltx := hrx.lt
    have hfl := flatH_len pre
    rw [hfl] at cv
    have HFL := hid hfl
    clear hfl
    by_cases hge : n ≤ 32 * pre.length
    · gi_wp2
      exact ⟨KeepsFrom.refl _ _, pre, x, rfl, rfl, ⟨_, hv, hown⟩, hn1, hB, hge, hWz⟩
    · obtain ⟨i0, hi, hz0, hz1, hz2⟩ := info_parts infoB
      have hl33 : 32 * pre.length ≤ 1024 := by omega
      obtain ⟨v', w1, hrun, hown', hgr, _⟩ := run_append_own (P := Tryz.prog) W.drew W0.heap.size 24 24 5 i0 (.int .u8 0) 1 1 Tryz.underlying24 hi hz0 hz1 hz2 rfl (by decide) (.slice a4 (flatH pre).length c4) _ _ hown ⟨Bx, 0, none⟩ 32 32 (Ints .u8 x.1) (by rw [ints_len, x.2.1]) (by
        intro j u hj
        have : (⟨Bx, 0, none⟩ : Addr).add j = ⟨Bx, j, none⟩ := by unfold Addr.add; split <;> simp_all
        rw [this]; exact hrx.drew.cell hj) (ints_one _ _) (by rw [HFL.out]; unfold maxLen; omega) (by rw [HFL.out]; omega) hWz
      clear hi hz0 hz1 hz2
      have hv1 : Boxed w1 (w.heap.size + 1 + 1) 24 (.slice a4 (flatH pre).length c4) := hv.kept (W := W.drew) hgr (Boxed.not_row (W := W) hv (by decide) hown)
      have hown2 : OwnB w1 W0.heap.size v' (flatH (pre ++ [x])) := by
        rw [flatH_snoc]; unfold OwnB; rw [List.length_append, x.2.1, ← ints_append]; exact hown'
      clear hown'
      have hbk : ∀ j, (Value.slice a4 (flatH pre).length c4).ownBlock = some j → W0.heap.size ≤ j := fun j e => (hown.lt j e).1
      have hgr' : W.grownBy w1 (Value.slice a4 (flatH pre).length c4).ownBlock := ⟨hgr.os, hgr.tape, hgr.output, hgr.size, hgr.block⟩
      have hko : KeepsOthers W w1 := KeepsOthers.of_grownBy hgr' (owned_cells hown)
      obtain ⟨a5, c5, rfl, hvl5, hc5, hm5, hs5, hz5, hb5⟩ := own_src' hown2
      have hn1' : Boxed w1 (w.heap.size + 1) 3 (.int .i64 n) := hn1.kept hgr' (fun e => by have := hbk _ e.symm; omega)
      have cv1 := hv1.cell
      have fv1 := hv1.frozen
      rw [HFL.out] at hrun cv1
      have hw1 := hgr'.size
      gi_wp2
      refine wpIn_region_any (by kernel_rfl) ?_
      change wpAnyIn _ _ _ _ _ _ _ _ _ (World.drew _)
      refine wpAnyIn_ready (rs := [0, 1]) (by kernel_rfl) (by simp) ?_
      refine AllReadyIn.cons rfl (fun K hK => ?_) ?_
      · go_simp
        refine hK _ _ ?_
        clear hK K
        refine wpAnyIn_ready (rs := [1]) (by kernel_rfl) (by simp) ?_
        refine AllReadyIn.cons rfl (fun K hK => ?_) AllReadyIn.nil
        go_simp
        refine hK _ _ ?_
        clear hK K
        refine wpAnyIn_ready (rs := [2]) (by kernel_rfl) (by simp) ?_
        refine AllReadyIn.cons rfl (fun K hK => ?_) AllReadyIn.nil
        refine wpIn_append_known (.tmp 24) (.tmp 25) 24 rfl _ _ rfl rfl _ _ hrun ?_
        refine hK _ _ ?_
        clear hK K
        refine wpAnyIn_ready (rs := [3]) (by kernel_rfl) (by simp) ?_
        refine AllReadyIn.cons rfl (fun K hK => ?_) AllReadyIn.nil
        go_simp
        refine hK _ _ ?_
        clear hK K
        refine wpAnyIn_done (by kernel_rfl) ?_ _
        gi_wp2
        exact ⟨(hko.trans (KeepsOthers.setCell _ _ _)).from _, (Mid.grown hgr' (by omega) (fun j e => by have := hbk j e; omega)).trans (Mid.grown (grownBy_setCell' _ _ _) (by omega) (fun j e => by cases e; omega)), ⟨⟨_, Boxed.set _ hv1, hown2.kept (grownBy_setCell' _ _ _) (.inr (Boxed.not_row hv1 (by decide) hown2).symm)⟩, Boxed.other hn1' (by omega) _, (hB.grown hgr' (by omega) (fun j e => by have := hbk j e; omega)).setCell (p := ⟨w.heap.size + 1 + 1, 0, none⟩) (by simp; omega) _, by simp; omega, by have := (KeepsOthers.setCell w1 ⟨w.heap.size + 1 + 1, 0, none⟩ (.slice a5 (flatH (pre ++ [x])).length c5)).size; omega⟩⟩
      refine AllReadyIn.cons rfl (fun K hK => ?_) AllReadyIn.nil
      · go_simp
        refine hK _ _ ?_
        clear hK K
        refine wpAnyIn_ready (rs := [0]) (by kernel_rfl) (by simp) ?_
        refine AllReadyIn.cons rfl (fun K hK => ?_) AllReadyIn.nil
        go_simp
        refine hK _ _ ?_
        clear hK K
        refine wpAnyIn_ready (rs := [2]) (by kernel_rfl) (by simp) ?_
        refine AllReadyIn.cons rfl (fun K hK => ?_) AllReadyIn.nil
        refine wpIn_append_known (.tmp 24) (.tmp 25) 24 rfl _ _ rfl rfl _ _ hrun ?_
        refine hK _ _ ?_
        clear hK K
        refine wpAnyIn_ready (rs := [3]) (by kernel_rfl) (by simp) ?_
        refine AllReadyIn.cons rfl (fun K hK => ?_) AllReadyIn.nil
        go_simp
        refine hK _ _ ?_
        clear hK K
        refine wpAnyIn_done (by kernel_rfl) ?_ _
        gi_wp2
        exact ⟨(hko.trans (KeepsOthers.setCell _ _ _)).from _, (Mid.grown hgr' (by omega) (fun j e => by have := hbk j e; omega)).trans (Mid.grown (grownBy_setCell' _ _ _) (by omega) (fun j e => by cases e; omega)), ⟨⟨_, Boxed.set _ hv1, hown2.kept (grownBy_setCell' _ _ _) (.inr (Boxed.not_row hv1 (by decide) hown2).symm)⟩, Boxed.other hn1' (by omega) _, (hB.grown hgr' (by omega) (fun j e => by have := hbk j e; omega)).setCell (p := ⟨w.heap.size + 1 + 1, 0, none⟩) (by simp; omega) _, by simp; omega, by have := (KeepsOthers.setCell w1 ⟨w.heap.size + 1 + 1, 0, none⟩ (.slice a5 (flatH (pre ++ [x])).length c5)).size; omega⟩⟩
  case stop =>
    rintro D c pre W hD hSp ⟨pre0, x, rfl, rfl, ⟨v, hv, hown⟩, hn1, hB, hge, hWz⟩ hK
    have hpre : pre0 = upH key once pre0.length := by
      rw [List.length_append, List.length_singleton, upH_succ] at hSp
      exact (List.append_inj' hSp rfl).1
    obtain ⟨a4, c4, rfl, hvl, hc4, hm4, hs4, hz4, hb4⟩ := own_src' hown
    have cv := hv.cell
    have cn := hn1.cell
    have hfl := flatH_len pre0
    obtain ⟨v5, hv5, hown5⟩ := owned_take (k := n) hown (by omega)
    obtain rfl := hv5 _ _ rfl
    rw [hfl] at cv hc4
    have HFL := hid hfl
    have HO5 := hid hown5
    have HP := hid hpre
    have hnc : (n : Int) ≤ (c4 : Int) := by omega
    have hnt : ((n : Int)).toNat = n := by omega
    have hn0 : ¬ ((n : Int) < 0) := by omega
    clear hfl hv5 hown5 hpre hSp hvl hs4 hz4 hb4 hown hv hn1
    go_wp2
    refine ⟨by simp, .inl ⟨_, _, rfl, run_takeDeferred hK, ?_⟩⟩
    refine ⟨_, results_tmp2 rfl _ _ _, _, rfl, ⟨pre0.length, hge, ?_⟩, hB.grown (grownBy_putObj' W D _) (by omega) (fun j e => by cases e; omega)⟩
    have h5 := ownsRow_putObj HO5.out (.deferred none) hK rfl
    rw [← HP.out]
    have hl : (List.take n (flatH pre0)).length = n := by rw [List.length_take, HFL.out]; omega
    unfold OwnB
    rw [hl]
    have he : Ints .u8 (List.take n (flatH pre0)) = List.take n (Ints .u8 (flatH pre0)) := by simp [Ints, List.map_take]
    rw [he]
    exact own_mono h5 (by omega)
end Go.Proofs.YtbemljgcclaopaaGreatDoor
