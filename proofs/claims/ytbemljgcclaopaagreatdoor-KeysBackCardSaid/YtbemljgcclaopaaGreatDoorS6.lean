/- seal.Seal of a text that is too long. -/
import Derived.Test.YtbemljgcclaopaaGreatDoorS3
namespace Go.Proofs.YtbemljgcclaopaaGreatDoor
open Go.RowKit
set_option maxRecDepth 100000 in
theorem seal_long (key : List Int) (once : Int) (a2 : Option Addr) (n c2 : Nat) (w : World) (hn : 1024 < n) :
    Calls Tryz.prog 20 #[.agg (Ints .u8 key).toArray, .int .u64 once, .slice a2 n c2] w fun e w' => e = .returned (.tuple #[.slice none 0 0, .int .i64 6]) ∧ Below w.heap.size w w' := by
  go_enter Tryz.func20, Tryz.ntmps20
  have hnn : (1024 : Int) < (n : Int) := by omega
  go_wp2
  go_ret2
  exact ⟨rfl, (Below.refl _ w).alloc (Nat.le_refl _) _⟩
end Go.Proofs.YtbemljgcclaopaaGreatDoor
