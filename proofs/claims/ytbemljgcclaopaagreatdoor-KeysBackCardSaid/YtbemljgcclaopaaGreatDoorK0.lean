/- codec.IsName. -/
import Derived.Test.YtbemljgcclaopaaGreatDoorB2
import Derived.Test.YtbemljgcclaopaaGreatDoorZ0
namespace Go.Proofs.YtbemljgcclaopaaGreatDoor
open Go.RowKit
def nameChars : List UInt8 := [97, 98, 99, 100, 101, 102, 103, 104, 105, 106, 107, 108, 109, 110, 111, 112, 113, 114, 115, 116, 117, 118, 119, 120, 121, 122, 48, 49, 50, 51, 52, 53, 54, 55, 56, 57, 45]
def isNameB (s : ByteArray) : Bool := !s.toList.isEmpty && decide (s.size ≤ 9) && (Lib.trimS s.data.toList nameChars).isEmpty
set_option maxRecDepth 100000 in
set_option maxHeartbeats 1000000 in
theorem isName_any (s : ByteArray) (w : World) (hs : s.size ≤ 9223372036854775807) :
    Calls Tryz.prog 45 #[.string s] w fun e w' => e = .returned (.bool (isNameB s)) ∧ Below w.heap.size w w' := by
  go_enter Tryz.func45, Tryz.ntmps45
  go_wp2_with (go_at_call 61; refine (Tryz.strings_Trim s ⟨nameChars.toArray⟩ w hs (by decide) (by exact ascii_of_all (by decide))).mono ?_; rintro e w' ⟨rfl, hb⟩)
  · go_ret
    refine ⟨?_, Below.refl _ _⟩
    have : s.toList.isEmpty = true := by simp_all
    unfold isNameB; rw [this]; rfl
  · go_ret
    refine ⟨?_, hb⟩
    have : s.size ≤ 9 := by omega
    unfold isNameB; rw [decide_eq_true this, Bool.and_true]; rfl
  · go_ret
    refine ⟨?_, Below.refl _ _⟩
    have : ¬ s.size ≤ 9 := by omega
    unfold isNameB; rw [decide_eq_false this, Bool.and_false]; rfl
end Go.Proofs.YtbemljgcclaopaaGreatDoor
