/- slices.Grow of nil and slices.Concat of three, at []byte. -/
import Derived.Test.YtbemljgcclaopaaGreatDoorH2
namespace Go.Proofs.YtbemljgcclaopaaGreatDoor
open Go.RowKit
set_option maxRecDepth 10000 in
theorem grow_nil (n : Nat) (h0 : 0 < n) (h1 : n ≤ 1099511627776) (w : World) :
    Calls Tryz.prog 148 #[.slice none 0 0, .int .i64 n] w fun e w' => ∃ v, e = .returned v ∧ OwnB w' w.heap.size v [] ∧ Below w.heap.size w w' := by
  obtain ⟨i0, hi, hz0, hz1, hz2⟩ := info_parts infoB
  have hz := Lib.run_append_nil_zeros (P := Tryz.prog) w 24 3 24 5 i0 (.int .u8 0) .i64 .i64 Tryz.underlying24 Tryz.underlying3 hi hz0 n h0 (by omega) (by omega) (by rw [hz2]; omega)
  have hge := grownCap_ge w n 0 5
  have hcm := grownCap_le_maxLen w n 0 5 (by unfold maxLen; omega)
  have HI := hid hi
  have HZ0 := hid hz0
  have HZ1 := hid hz1
  have HZ2 := hid hz2
  clear hi hz0 hz1 hz2
  generalize hcap : grownCap w n 0 5 = cap at *
  have HC := hid hcap
  clear hcap
  have hown : OwnB (w.drew.alloc (.cells (Builtin.zeroCells (Value.int .u8 0).cells n ++ Builtin.zeroCells (Value.int .u8 0).cells (cap - n)) 5)) w.heap.size (.slice (some ⟨w.heap.size, 0, none⟩) 0 cap) [] :=
    World.ownsRow_made w.drew _ cap (Nat.le_refl _) hcm (by rw [Array.size_append, size_zeroCells, size_zeroCells]; simp [Value.cells]; omega)
  have hbel : Below w.heap.size w (w.drew.alloc (.cells (Builtin.zeroCells (Value.int .u8 0).cells n ++ Builtin.zeroCells (Value.int .u8 0).cells (cap - n)) 5)) := (Below.refl _ _).drew.alloc (Nat.le_refl _) _
  generalize (w.drew.alloc (.cells (Builtin.zeroCells (Value.int .u8 0).cells n ++ Builtin.zeroCells (Value.int .u8 0).cells (cap - n)) 5)) = w1 at *
  have h0' : (0 : Int) < n := by omega
  have h0'' : ¬ ((n : Int) < 0) := by omega
  go_enter Tryz.func148, Tryz.ntmps148
  have HZ := hid hz
  clear hz
  go_wp2_with (at_builtin; refine Lib.wpList_append_run _ rfl (.tmp 20) (.tmp 21) 24 3 rfl _ _ rfl rfl _ _ HZ.out ?_)
  go_ret
  exact ⟨_, rfl, hown, hbel⟩
set_option maxRecDepth 10000 in
set_option maxHeartbeats 1000000 in
/-- Concat of three slices that lie in one row. -/
theorem concat3 (b : Nat) (bt : TypeId) (a1 a2 a3 : Option Addr) (c1 c2 c3 : Nat) (x y z : List Int) (w : World) (hr : Row w b bt [.slice a1 x.length c1, .slice a2 y.length c2, .slice a3 z.length c3])
    (h1 : Src w a1 (Ints .u8 x)) (h2 : Src w a2 (Ints .u8 y)) (h3 : Src w a3 (Ints .u8 z)) (hn1 : a1 = none → c1 = 0) (hn2 : a2 = none → c2 = 0) (hn3 : a3 = none → c3 = 0)
    (hx : 0 < x.length) (hl : x.length + y.length + z.length ≤ 1099511627776) :
    Calls Tryz.prog 121 #[.slice (some ⟨b, 0, none⟩) 3 3] w fun e w' => ∃ v, e = .returned v ∧ OwnB w' w.heap.size v (x ++ y ++ z) ∧ Below w.heap.size w w' := by
  obtain ⟨n1, e1⟩ : ∃ n, n = x.length := ⟨_, rfl⟩
  obtain ⟨n2, e2⟩ : ∃ n, n = y.length := ⟨_, rfl⟩
  obtain ⟨n3, e3⟩ : ∃ n, n = z.length := ⟨_, rfl⟩
  rw [← e1, ← e2, ← e3] at hr
  rw [← e1] at hx
  rw [← e1, ← e2, ← e3] at hl
  have E1 := hid e1
  have E2 := hid e2
  have E3 := hid e3
  clear e1 e2 e3
  have q0 := hr.cell (i := 0) rfl
  have q1 := hr.cell (i := 1) rfl
  have q2 := hr.cell (i := 2) rfl
  have hb := hr.lt
  go_enter Tryz.func121, Tryz.ntmps121
  go_wp2
  refine wp_loop_rounds 4 ?_
  iterate 3 (rw [rounds_succ]; go_wp2)
  rw [rounds_succ]
  go_wp2_with fail
  rw [show ((n1 : Int) + n2 + n3) = ((n1 + n2 + n3 : Nat) : Int) from by omega]
  refine (grow_nil (n1 + n2 + n3) (by omega) hl w).mono ?_
  rintro e w1 ⟨v1, rfl, hv1, hb1⟩
  have r0 := (hr.below hb1 hb).cell (i := 0) rfl
  have r1 := (hr.below hb1 hb).cell (i := 1) rfl
  have r2 := (hr.below hb1 hb).cell (i := 2) rfl
  have s1 := h1.below hb1 (Nat.le_refl _)
  have z1 := hb1.size
  go_wp2
  refine wp_loop_rounds 4 ?_
  rw [rounds_succ]
  go_wp2_with (at_builtin; refine wpList_appB _ rfl (.tmp 31) (.tmp 32) rfl w.heap.size v1 [] rfl hv1 a1 n1 c1 x rfl E1.out.symm s1 (by simp; omega) z1 hn1 ?_; intro v2 w2 hv2 hg2 _)
  have hb2 : Below w.heap.size w w2 := hb1.grown hg2 z1 (fun k e => (hv1.lt k e).1)
  have r1' := (hr.below hb2 hb).cell (i := 1) rfl
  have z2 := hb2.size
  have s2' : Src w2 a2 (Ints .u8 y) := h2.below hb2 (Nat.le_refl _)
  rw [rounds_succ]
  go_wp2_with (at_builtin; refine wpList_appB _ rfl (.tmp 31) (.tmp 32) rfl w.heap.size v2 _ rfl hv2 a2 n2 c2 y rfl E2.out.symm s2' (by simp; have := E1.out; omega) z2 hn2 ?_; intro v3 w3 hv3 hg3 _)
  have hb3 : Below w.heap.size w w3 := hb2.grown hg3 z2 (fun k e => (hv2.lt k e).1)
  have r2' := (hr.below hb3 hb).cell (i := 2) rfl
  have z3 := hb3.size
  have s3' : Src w3 a3 (Ints .u8 z) := h3.below hb3 (Nat.le_refl _)
  rw [rounds_succ]
  go_wp2_with (at_builtin; refine wpList_appB _ rfl (.tmp 31) (.tmp 32) rfl w.heap.size v3 _ rfl hv3 a3 n3 c3 z rfl E3.out.symm s3' (by simp; have := E1.out; have := E2.out; omega) z3 hn3 ?_; intro v4 w4 hv4 hg4 _)
  have hb4 : Below w.heap.size w w4 := hb3.grown hg4 z3 (fun k e => (hv3.lt k e).1)
  rw [rounds_succ]
  go_wp2
  go_ret
  exact ⟨v4, rfl, by simpa using hv4, hb4⟩
/-- The same, the value written out. -/
theorem concat3s (b : Nat) (bt : TypeId) (a1 a2 a3 : Option Addr) (c1 c2 c3 : Nat) (x y z : List Int) (w : World) (hr : Row w b bt [.slice a1 x.length c1, .slice a2 y.length c2, .slice a3 z.length c3])
    (h1 : Src w a1 (Ints .u8 x)) (h2 : Src w a2 (Ints .u8 y)) (h3 : Src w a3 (Ints .u8 z)) (hn1 : a1 = none → c1 = 0) (hn2 : a2 = none → c2 = 0) (hn3 : a3 = none → c3 = 0)
    (hx : 0 < x.length) (n : Nat) (hn : x.length + y.length + z.length = n) (hl : n ≤ 1099511627776) :
    Calls Tryz.prog 121 #[.slice (some ⟨b, 0, none⟩) 3 3] w fun e w' => ∃ a c, e = .returned (.slice a n c) ∧ Src w' a (Ints .u8 (x ++ y ++ z)) ∧ n ≤ c ∧ (a = none → c = 0) ∧ Below w.heap.size w w' := by
  subst hn
  refine (concat3 b bt a1 a2 a3 c1 c2 c3 x y z w hr h1 h2 h3 hn1 hn2 hn3 hx hl).mono ?_
  rintro e w' ⟨v, rfl, hv, hb⟩
  obtain ⟨a, c, rfl, _, hc, _, hs, hz, _⟩ := own_src' hv
  simp only [List.length_append] at hc ⊢
  exact ⟨a, c, rfl, hs, hc, hz, hb⟩
end Go.Proofs.YtbemljgcclaopaaGreatDoor
