/- codec.Number. -/
import Derived.Test.YtbemljgcclaopaaGreatDoorK1
namespace Go.Proofs.YtbemljgcclaopaaGreatDoor
open Go.RowKit
def hexT (n : Nat) : List UInt8 := Lib.trimPrefix (hexS n) [48]
/-- The bytes of codec.Number n. -/
def numS (n : Nat) : List UInt8 := (97 + UInt8.ofNat (hexT n).length) :: hexT n
theorem cat_bytes (a b : List UInt8) : (⟨a.toArray⟩ : ByteArray) ++ ⟨b.toArray⟩ = ⟨(a ++ b).toArray⟩ := by
  apply ByteArray.ext; simp [ByteArray.data_append]
theorem hexK_le {n : Nat} (h : n < 9223372036854775808) : hexK n ≤ 15 := by
  have : ∀ k m : Nat, m < 16 ^ (k + 1) → hexK m ≤ k := by
    intro k
    induction k with
    | zero => intro m hm; unfold hexK; rw [if_pos (by simpa using hm)]; exact Nat.le_refl _
    | succ k ih =>
      intro m hm
      unfold hexK
      split
      · omega
      · have := ih (m / 16) (by rw [Nat.div_lt_iff_lt_mul (by decide)]; rw [Nat.pow_succ] at hm; exact hm)
        omega
  exact this 15 n (by have : (16 : Nat) ^ (15 + 1) = 18446744073709551616 := by decide
                      omega)
theorem hexS_len {n : Nat} (h : n < 9223372036854775808) : (hexS n).length ≤ 16 := by
  have := hexK_le h
  simp [hexS, digs_len]; omega
theorem trimPrefix_len (l p : List UInt8) : (Lib.trimPrefix l p).length ≤ l.length := by
  unfold Lib.trimPrefix; split <;> simp
theorem hexT_len {n : Nat} (h : n < 9223372036854775808) : (hexT n).length ≤ 16 := Nat.le_trans (trimPrefix_len _ _) (hexS_len h)
theorem enc_at : ∀ k : Fin 17, Utf8.encode (97 + (k.val : Int)) = ⟨#[UInt8.ofNat (97 + k.val)]⟩ := by decide
set_option maxRecDepth 100000 in
set_option maxHeartbeats 1000000 in
theorem number_any (n : Nat) (hn : n ≤ 4611686018427387904) (w : World) (hT : Tz w) :
    Calls Tryz.prog 46 #[.int .i64 n] w fun e w' => e = .returned (.tuple #[.string ⟨(numS n).toArray⟩, .int .i64 0]) ∧ Below w.heap.size w w' := by
  have h0 : ¬ (n : Int) < 0 := by omega
  have h1 : ¬ (4611686018427387904 : Int) < (n : Int) := by omega
  have hl := hexT_len (n := n) (by omega)
  obtain ⟨L, hL⟩ : ∃ L, hexT n = L := ⟨_, rfl⟩
  rw [hL] at hl
  have henc := enc_at ⟨L.length, by omega⟩
  simp only at henc
  have hw1 : wrap64 (97 + (L.length : Int)) = 97 + (L.length : Int) := by unfold wrap64; omega
  have hw2 : wrap32 (97 + (L.length : Int)) = 97 + (L.length : Int) := by unfold wrap32; omega
  have hsz : (1 + L.length : Nat) ≤ 9223372036854775807 := by omega
  go_enter Tryz.func46, Tryz.ntmps46
  go_wp2_with (first
    | (go_at_call 63; refine (formatInt_16 n (by omega) _ hT).mono ?_; rintro e w' ⟨rfl, hb⟩)
    | (go_at_call 62; refine (Tryz.strings_TrimPrefix _ ⟨#[48]⟩ _).mono ?_; rintro e w' ⟨he, rfl⟩; have he' : e = .returned (.string ⟨L.toArray⟩) := (by rw [he, ← hL]; rfl); clear he; subst he'))
  go_ret2
  refine ⟨?_, hb⟩
  have hc := cat_bytes [97 + UInt8.ofNat L.length] L
  unfold numS
  rw [hL]
  exact congrArg (fun s => Ending.returned (.tuple #[.string s, .int .i64 0])) hc
end Go.Proofs.YtbemljgcclaopaaGreatDoor
