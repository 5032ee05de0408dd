/- keys.New. -/
import Derived.Test.YtbemljgcclaopaaGreatDoorT0
namespace Go.Proofs.YtbemljgcclaopaaGreatDoor
open Go.RowKit
theorem built_tree (root : List Int) (hl : root.length = 32) (m1 m2 : Nat) : Tryz.prog.built 53 [(0, .agg (Ints .u8 root).toArray), (2, .map (some m1)), (3, .map (some m2))] = some (Ints .u8 root ++ [Value.int .i64 0, Value.map (some m1), Value.map (some m2)]).toArray := by
  match root, hl with
  | [a0, a1, a2, a3, a4, a5, a6, a7, a8, a9, a10, a11, a12, a13, a14, a15, a16, a17, a18, a19, a20, a21, a22, a23, a24, a25, a26, a27, a28, a29, a30, a31], _ => (show Tryz.prog.built _ _ = _; kernel_rfl)
attribute [-go_sem] Instr.loadAt Instr.build
set_option maxRecDepth 100000 in
set_option maxHeartbeats 2000000 in
theorem new_any (root : List Int) (hb : ∀ x ∈ root, Byte x) (hl : root.length = 32) (w : World) :
    Calls Tryz.prog 5 #[.agg (Ints .u8 root).toArray] w fun e w' => ∃ b mg ma, e = .returned (.pointer (some ⟨b, 0, none⟩)) ∧ IsTree w' b mg ma root 0 [] [] ∧ Below w.heap.size w w' ∧ w.heap.size ≤ b ∧ w.heap.size ≤ mg ∧ w.heap.size ≤ ma ∧ b < w'.heap.size ∧ mg < w'.heap.size ∧ ma < w'.heap.size := by
  have HB := hid hb
  have HL := hid hl
  clear hb hl
  go_enter Tryz.func5, Tryz.ntmps5
  have hR0 : Row (w.alloc (.cells (Ints .u8 root).toArray 23)) w.heap.size 23 (Ints .u8 root) := Row.newAt rfl rfl
  have hl0 := run_load_row (P := Tryz.prog) hR0 Tryz.underlying23 rfl (by rw [ints_len, HL.out]; kernel_rfl)
  obtain ⟨o1, hm1, hg1⟩ := run_makeMap_is (P := Tryz.prog) 50 (w.alloc (.cells (Ints .u8 root).toArray 23)) Value.string Value.bool
  obtain ⟨o2, hm2, hg2⟩ := run_makeMap_is (P := Tryz.prog) 51 ((w.alloc (.cells (Ints .u8 root).toArray 23)).alloc o1) encP (Value.int .i64)
  have hbd : ∀ (m1 m2 : Nat) (W : World), (Instr.build 53 #[(0, .agg (Ints .u8 root).toArray), (2, .map (some m1)), (3, .map (some m2))]).run Tryz.prog W = .ok (.agg (Ints .u8 root ++ [Value.int .i64 0, Value.map (some m1), Value.map (some m2)]).toArray) W := fun m1 m2 W => run_build W 53 _ _ (built_tree root HL.out m1 m2)
  go_wp2
  go_ret
  have hx : Below w.heap.size w ((((w.alloc (.cells (Ints .u8 root).toArray 23)).alloc o1).alloc o2).alloc (.cells (Ints .u8 root ++ [Value.int .i64 0, Value.map (some (w.heap.size + 1)), Value.map (some (w.heap.size + 1 + 1))]).toArray 53)) := ((((Below.refl _ w).alloc (Nat.le_refl _) _).alloc (by simp) _).alloc (by simp; omega) _).alloc (by simp; omega) _
  rw [World.size_alloc] at hg1
  rw [World.size_alloc, World.size_alloc] at hg2
  have e1 := Below.exc ((Below.refl _ ((w.alloc (.cells (Ints .u8 root).toArray 23)).alloc o1)).alloc (Nat.le_refl _) o2) []
  have e2 := Below.exc ((Below.refl _ (((w.alloc (.cells (Ints .u8 root).toArray 23)).alloc o1).alloc o2)).alloc (Nat.le_refl _) (.cells (Ints .u8 root ++ [Value.int .i64 0, Value.map (some (w.heap.size + 1)), Value.map (some (w.heap.size + 1 + 1))]).toArray 53)) []
  refine ⟨w.heap.size + 1 + 1 + 1, w.heap.size + 1, w.heap.size + 1 + 1, rfl, ⟨Row.newAt (by simp) rfl, e2.map (e1.map hg1 (by simp)) (by simp), e2.map hg2 (by simp), by omega, HL.out, HB.out⟩, hx, by omega, by omega, by omega, by simp, by simp, by simp⟩
end Go.Proofs.YtbemljgcclaopaaGreatDoor
