/- The contracts of math/bits.RotateLeft32 at the ten turns that SHA-256 makes. -/
import Derived.WalkLawsBesides
import Derived.WalkSpells
import Derived.Outline
import Derived.RegionTactic
import Derived.BigRegion
import Derived.BigQuiet
import Derived.Deep.QuietTactic
import Derived.KernelRfl
import Derived.LoopN
import Derived.Test.YtbemljgcclaopaaGreatDoorB0
import Derived.Test.YtbemljgcclaopaaGreatDoorProg
namespace Go.Proofs.YtbemljgcclaopaaGreatDoor
open Go.RowKit
/-- A word turned right by n bits, as the program reckons it. -/
def rr (x : Int) (n : Nat) : Int := bits BinOp.or .u32 (x * 2 ^ (32 - n) % 4294967296) (x / 2 ^ n)
theorem bits_or_bd (a b : Int) : 0 ≤ bits BinOp.or .u32 a b ∧ bits BinOp.or .u32 a b < 4294967296 := by
  unfold bits; simp [IntKind.wrap, IntKind.bits, IntKind.signed]; omega
theorem rr_bd (x : Int) (n : Nat) : 0 ≤ rr x n ∧ rr x n < 4294967296 := bits_or_bd _ _
theorem rot7 (x : Int) (w : World) (h0 : 0 ≤ x) (h1 : x < 4294967296) :
    Calls Tryz.prog 147 #[.int .u32 x, .int .i64 (-7)] w fun e w' => e = .returned (.int .u32 (rr x 7)) ∧ w' = w := by
  have hb : bits BinOp.and IntKind.u64 (IntKind.u64.wrap (-7)) 31 = 25 := by decide
  go_enter Tryz.func147, Tryz.ntmps147
  go_wp2
  go_ret
  exact ⟨rfl, rfl⟩
theorem rot18 (x : Int) (w : World) (h0 : 0 ≤ x) (h1 : x < 4294967296) :
    Calls Tryz.prog 147 #[.int .u32 x, .int .i64 (-18)] w fun e w' => e = .returned (.int .u32 (rr x 18)) ∧ w' = w := by
  have hb : bits BinOp.and IntKind.u64 (IntKind.u64.wrap (-18)) 31 = 14 := by decide
  go_enter Tryz.func147, Tryz.ntmps147
  go_wp2
  go_ret
  exact ⟨rfl, rfl⟩
theorem rot17 (x : Int) (w : World) (h0 : 0 ≤ x) (h1 : x < 4294967296) :
    Calls Tryz.prog 147 #[.int .u32 x, .int .i64 (-17)] w fun e w' => e = .returned (.int .u32 (rr x 17)) ∧ w' = w := by
  have hb : bits BinOp.and IntKind.u64 (IntKind.u64.wrap (-17)) 31 = 15 := by decide
  go_enter Tryz.func147, Tryz.ntmps147
  go_wp2
  go_ret
  exact ⟨rfl, rfl⟩
theorem rot19 (x : Int) (w : World) (h0 : 0 ≤ x) (h1 : x < 4294967296) :
    Calls Tryz.prog 147 #[.int .u32 x, .int .i64 (-19)] w fun e w' => e = .returned (.int .u32 (rr x 19)) ∧ w' = w := by
  have hb : bits BinOp.and IntKind.u64 (IntKind.u64.wrap (-19)) 31 = 13 := by decide
  go_enter Tryz.func147, Tryz.ntmps147
  go_wp2
  go_ret
  exact ⟨rfl, rfl⟩
theorem rot6 (x : Int) (w : World) (h0 : 0 ≤ x) (h1 : x < 4294967296) :
    Calls Tryz.prog 147 #[.int .u32 x, .int .i64 (-6)] w fun e w' => e = .returned (.int .u32 (rr x 6)) ∧ w' = w := by
  have hb : bits BinOp.and IntKind.u64 (IntKind.u64.wrap (-6)) 31 = 26 := by decide
  go_enter Tryz.func147, Tryz.ntmps147
  go_wp2
  go_ret
  exact ⟨rfl, rfl⟩
theorem rot11 (x : Int) (w : World) (h0 : 0 ≤ x) (h1 : x < 4294967296) :
    Calls Tryz.prog 147 #[.int .u32 x, .int .i64 (-11)] w fun e w' => e = .returned (.int .u32 (rr x 11)) ∧ w' = w := by
  have hb : bits BinOp.and IntKind.u64 (IntKind.u64.wrap (-11)) 31 = 21 := by decide
  go_enter Tryz.func147, Tryz.ntmps147
  go_wp2
  go_ret
  exact ⟨rfl, rfl⟩
theorem rot25 (x : Int) (w : World) (h0 : 0 ≤ x) (h1 : x < 4294967296) :
    Calls Tryz.prog 147 #[.int .u32 x, .int .i64 (-25)] w fun e w' => e = .returned (.int .u32 (rr x 25)) ∧ w' = w := by
  have hb : bits BinOp.and IntKind.u64 (IntKind.u64.wrap (-25)) 31 = 7 := by decide
  go_enter Tryz.func147, Tryz.ntmps147
  go_wp2
  go_ret
  exact ⟨rfl, rfl⟩
theorem rot2 (x : Int) (w : World) (h0 : 0 ≤ x) (h1 : x < 4294967296) :
    Calls Tryz.prog 147 #[.int .u32 x, .int .i64 (-2)] w fun e w' => e = .returned (.int .u32 (rr x 2)) ∧ w' = w := by
  have hb : bits BinOp.and IntKind.u64 (IntKind.u64.wrap (-2)) 31 = 30 := by decide
  go_enter Tryz.func147, Tryz.ntmps147
  go_wp2
  go_ret
  exact ⟨rfl, rfl⟩
theorem rot13 (x : Int) (w : World) (h0 : 0 ≤ x) (h1 : x < 4294967296) :
    Calls Tryz.prog 147 #[.int .u32 x, .int .i64 (-13)] w fun e w' => e = .returned (.int .u32 (rr x 13)) ∧ w' = w := by
  have hb : bits BinOp.and IntKind.u64 (IntKind.u64.wrap (-13)) 31 = 19 := by decide
  go_enter Tryz.func147, Tryz.ntmps147
  go_wp2
  go_ret
  exact ⟨rfl, rfl⟩
theorem rot22 (x : Int) (w : World) (h0 : 0 ≤ x) (h1 : x < 4294967296) :
    Calls Tryz.prog 147 #[.int .u32 x, .int .i64 (-22)] w fun e w' => e = .returned (.int .u32 (rr x 22)) ∧ w' = w := by
  have hb : bits BinOp.and IntKind.u64 (IntKind.u64.wrap (-22)) 31 = 10 := by decide
  go_enter Tryz.func147, Tryz.ntmps147
  go_wp2
  go_ret
  exact ⟨rfl, rfl⟩
/-- The ten in one, so that one arm serves every call. -/
def isTurn (k : Int) : Bool := k == -7 || k == -18 || k == -17 || k == -19 || k == -6 || k == -11 || k == -25 || k == -2 || k == -13 || k == -22
theorem rot_any (x k : Int) (w : World) (h0 : 0 ≤ x) (h1 : x < 4294967296) (hk : isTurn k = true) :
    Calls Tryz.prog 147 #[.int .u32 x, .int .i64 k] w fun e w' => e = .returned (.int .u32 (rr x (-k).toNat)) ∧ w' = w := by
  simp only [isTurn, Bool.or_eq_true, beq_iff_eq] at hk
  rcases hk with (((((((((rfl | rfl) | rfl) | rfl) | rfl) | rfl) | rfl) | rfl) | rfl) | rfl)
  · exact rot7 x w h0 h1
  · exact rot18 x w h0 h1
  · exact rot17 x w h0 h1
  · exact rot19 x w h0 h1
  · exact rot6 x w h0 h1
  · exact rot11 x w h0 h1
  · exact rot25 x w h0 h1
  · exact rot2 x w h0 h1
  · exact rot13 x w h0 h1
  · exact rot22 x w h0 h1
end Go.Proofs.YtbemljgcclaopaaGreatDoor
