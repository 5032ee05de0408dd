/- seal.eight; the iterator of seal.blocks. -/
import Derived.RangeFuncBox
import Derived.RangeFuncLeaves
import Derived.RangeFuncNested
import Derived.RangeFuncBound
import Derived.RangeFuncCalls
import Derived.Shelf.Abstract
import Derived.OwnWalkIn
import Derived.TacticsInMore
import Derived.LoopNIn
import Derived.LoopIn
import Derived.Maps.AppendAt
import Derived.Test.YtbemljgcclaopaaGreatDoorC0
import Derived.Test.YtbemljgcclaopaaGreatDoorC1
import Derived.Test.YtbemljgcclaopaaGreatDoorH5
namespace Go.Proofs.YtbemljgcclaopaaGreatDoor
open Go.RowKit
def U64 (n : Int) : Prop := 0 ≤ n ∧ n < 18446744073709551616
set_option maxRecDepth 100000 in
theorem eight_any (n : Int) (w : World) (h : U64 n) :
    Calls Tryz.prog 48 #[.int .u64 n] w fun e w' => e = .returned (.slice (some ⟨w.heap.size, 0, none⟩) 8 8) ∧ w' = w.alloc (.cells (Ints .u8 (beB n)).toArray 5) := by
  have hmk : ∀ w : World, (Instr.makeSlice 24 (.int .i64 8) (.int .i64 8)).run Tryz.prog w = .ok (.slice (some ⟨w.heap.size, 0, none⟩) 8 8) (w.alloc (.cells #[.int .u8 0, .int .u8 0, .int .u8 0, .int .u8 0, .int .u8 0, .int .u8 0, .int .u8 0, .int .u8 0] 5)) := fun _ => by kernel_rfl
  have h0 := h.1
  go_enter Tryz.func48, Tryz.ntmps48
  go_wp2
  refine wp_loop_rounds 9 ?_
  iterate 9 (rw [rounds_succ]; go_wp2)
  go_wp2
  go_ret
  refine ⟨rfl, ?_⟩
  have : (Ints .u8 (beB n)).toArray = #[.int .u8 (n / 72057594037927936 % 256), .int .u8 (n / 281474976710656 % 256), .int .u8 (n / 1099511627776 % 256), .int .u8 (n / 4294967296 % 256), .int .u8 (n / 16777216 % 256), .int .u8 (n / 65536 % 256), .int .u8 (n / 256 % 256), .int .u8 (n % 256)] := by
    simp [Ints, beB, List.range, List.range.loop]
  rw [this]
end Go.Proofs.YtbemljgcclaopaaGreatDoor
