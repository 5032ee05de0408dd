/- strings.Cut at a stroke. -/
import Derived.Lib.IndexLaws
import Derived.Test.YtbemljgcclaopaaGreatDoorK6
namespace Go.Proofs.YtbemljgcclaopaaGreatDoor
open Go.RowKit
/-- A text cut at its first stroke. -/
def cutS (s : ByteArray) : ByteArray × ByteArray × Bool :=
  if Lib.indexByte s.data.toList 47 = -1 then (s, ByteArray.empty, false) else (s.extract 0 (Lib.indexByte s.data.toList 47).toNat, s.extract ((Lib.indexByte s.data.toList 47).toNat + 1) s.size, true)
set_option maxRecDepth 100000 in
set_option maxHeartbeats 2000000 in
theorem cut_in (s : ByteArray) (hs : s.size ≤ 9223372036854775806) (w : World) :
    Calls Tryz.prog 69 #[.string s, .string ⟨#[47]⟩] w fun e w' => e = .returned (.tuple #[.string (cutS s).1, .string (cutS s).2.1, .bool (cutS s).2.2]) ∧ Below w.heap.size w w' := by
  have t1 := Tryz.stringslite_Index_one s 47 w
  by_cases hi : Lib.indexByte s.data.toList 47 = -1
  · have hc : cutS s = (s, ByteArray.empty, false) := by unfold cutS; rw [if_pos hi]
    rw [hc]
    rw [hi] at t1
    clear hc hi
    go_enter Tryz.func69, Tryz.ntmps69
    go_wp2_with (go_at_call 101; refine t1.mono ?_; rintro e w' ⟨rfl, rfl⟩)
    go_ret3
    exact ⟨rfl, Below.refl _ _⟩
  · have hge := Lib.indexByte_ge s.data.toList 47
    obtain ⟨k, hk⟩ : ∃ k : Nat, Lib.indexByte s.data.toList 47 = k := ⟨(Lib.indexByte s.data.toList 47).toNat, by omega⟩
    have hc : cutS s = (s.extract 0 k, s.extract (k + 1) s.size, true) := by unfold cutS; rw [if_neg hi, hk]; rfl
    rw [hc]
    rw [hk] at t1
    have hlt : k < s.size := by
      have := (Lib.indexByte_some hk).1
      rw [Lib.size_eq]
      exact (List.getElem?_eq_some_iff.1 this).1
    have hk1 : (0 : Int) ≤ (k : Int) := by omega
    have hk2 : (k : Int) ≤ (s.size : Int) := by omega
    have hk3 : (k : Int) + 1 ≤ (s.size : Int) := by omega
    have hk4 : (0 : Int) ≤ (k : Int) + 1 := by omega
    have hk5 : ((k : Int) + 1).toNat = k + 1 := by omega
    have hkw : wrap64 ((k : Int) + 1) = k + 1 := by unfold wrap64; omega
    clear hc hi hk hge
    go_enter Tryz.func69, Tryz.ntmps69
    go_wp2_with (go_at_call 101; refine t1.mono ?_; rintro e w' ⟨rfl, rfl⟩)
    go_quiet (fail)
    go_wp2
    go_ret3
    exact ⟨rfl, ⟨rfl, rfl, rfl, Nat.le_refl _, fun _ _ => rfl⟩⟩
set_option maxRecDepth 100000 in
theorem cut_any (s : ByteArray) (hs : s.size ≤ 9223372036854775806) (w : World) :
    Calls Tryz.prog 53 #[.string s, .string ⟨#[47]⟩] w fun e w' => e = .returned (.tuple #[.string (cutS s).1, .string (cutS s).2.1, .bool (cutS s).2.2]) ∧ Below w.heap.size w w' := by
  have t1 := cut_in s hs w
  go_enter Tryz.func53, Tryz.ntmps53
  go_wp2_with (go_at_call 69; refine t1.mono ?_; rintro e w' ⟨rfl, hb⟩)
  go_ret3
  exact ⟨rfl, hb⟩
theorem cutS_size (s : ByteArray) : (cutS s).1.size ≤ s.size ∧ (cutS s).2.1.size ≤ s.size := by
  unfold cutS
  split
  · exact ⟨Nat.le_refl _, Nat.zero_le _⟩
  · simp only [Lib.size_eq, Lib.extract_data, List.length_take, List.length_drop]
    omega
end Go.Proofs.YtbemljgcclaopaaGreatDoor
