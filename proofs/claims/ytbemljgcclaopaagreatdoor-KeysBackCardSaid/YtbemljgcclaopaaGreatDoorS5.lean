/- What was sealed opens as it was: plain. -/
import Derived.Test.YtbemljgcclaopaaGreatDoorS4
namespace Go.Proofs.YtbemljgcclaopaaGreatDoor
open Go.RowKit
theorem stepU_eq {a x : Int} (ha : 0 ≤ a) (hx : Byte x) (hb : a * 256 + x < 18446744073709551616) : stepU a x = a * 256 + x := by
  unfold Byte at hx
  obtain ⟨n, rfl⟩ := Int.eq_ofNat_of_zero_le ha
  obtain ⟨m, rfl⟩ := Int.eq_ofNat_of_zero_le hx.1
  unfold stepU bits
  have h1 : IntKind.wrap .u64 ((n : Int) * 256) = n * 256 := by simp [IntKind.wrap, IntKind.bits, IntKind.signed]; omega
  have h2 : IntKind.wrap .u64 (m : Int) = m := by simp [IntKind.wrap, IntKind.bits, IntKind.signed]; omega
  rw [h1, h2]
  have h3 : (BitVec.ofInt IntKind.u64.bits ((n : Int) * 256)).toNat = n * 256 := by rw [BitVec.toNat_ofInt]; simp [IntKind.bits]; omega
  have h4 : (BitVec.ofInt IntKind.u64.bits (m : Int)).toNat = m := by rw [BitVec.toNat_ofInt]; simp [IntKind.bits]; omega
  show IntKind.wrap .u64 (((BitVec.ofInt IntKind.u64.bits ((n : Int) * 256)) ||| (BitVec.ofInt IntKind.u64.bits (m : Int))).toNat : Int) = _
  rw [BitVec.toNat_or, h3, h4]
  have h5 : n * 256 ||| m = n * 256 + m := by
    have := Nat.shiftLeft_add_eq_or_of_lt (b := m) (i := 8) (by omega) n
    rw [Nat.shiftLeft_eq] at this
    exact this.symm
  rw [h5]
  simp [IntKind.wrap, IntKind.bits, IntKind.signed]; omega
theorem foldU_beB (n : Int) (h : U64 n) : foldU (beB n) = n := by
  have hr : beB n = [n / 72057594037927936 % 256, n / 281474976710656 % 256, n / 1099511627776 % 256, n / 4294967296 % 256, n / 16777216 % 256, n / 65536 % 256, n / 256 % 256, n % 256] := by
    simp [beB, List.range, List.range.loop]
  unfold U64 at h
  rw [hr]
  unfold foldU
  simp only [List.foldl_cons, List.foldl_nil]
  have b : ∀ y : Int, Byte (y % 256) := fun y => by unfold Byte; omega
  rw [stepU_eq (a := 0) (by omega) (b _) (by omega)]
  rw [stepU_eq (x := n / 281474976710656 % 256) (by omega) (b _) (by omega)]
  rw [stepU_eq (x := n / 1099511627776 % 256) (by omega) (b _) (by omega)]
  rw [stepU_eq (x := n / 4294967296 % 256) (by omega) (b _) (by omega)]
  rw [stepU_eq (x := n / 16777216 % 256) (by omega) (b _) (by omega)]
  rw [stepU_eq (x := n / 65536 % 256) (by omega) (b _) (by omega)]
  rw [stepU_eq (x := n / 256 % 256) (by omega) (b _) (by omega)]
  rw [stepU_eq (x := n % 256) (by omega) (b _) (by omega)]
  omega
theorem xorB_nat (x y : Int) : xorB x y = (((BitVec.ofInt 8 x) ^^^ (BitVec.ofInt 8 y)).toNat : Int) := by
  have := ((BitVec.ofInt 8 x) ^^^ (BitVec.ofInt 8 y)).isLt
  show IntKind.wrap .u8 (((BitVec.ofInt 8 x) ^^^ (BitVec.ofInt 8 y)).toNat : Int) = _
  generalize ((BitVec.ofInt 8 x) ^^^ (BitVec.ofInt 8 y)).toNat = N at *
  simp [IntKind.wrap, IntKind.bits, IntKind.signed]
  omega
theorem xorB_back (x y : Int) (hy : Byte y) : xorB x (xorB x y) = y := by
  have h1 : BitVec.ofInt 8 (xorB x y) = (BitVec.ofInt 8 x) ^^^ (BitVec.ofInt 8 y) := by
    rw [xorB_nat]; apply BitVec.eq_of_toNat_eq; rw [BitVec.toNat_ofInt]
    have := ((BitVec.ofInt 8 x) ^^^ (BitVec.ofInt 8 y)).isLt
    simp only [BitVec.toNat_xor] at this ⊢
    omega
  rw [xorB_nat, h1, ← BitVec.xor_assoc, BitVec.xor_self, BitVec.zero_xor, BitVec.toNat_ofInt]
  unfold Byte at hy
  omega
theorem xorL_back : ∀ {l m : List Int}, l.length = m.length → (∀ x ∈ m, Byte x) → xorL l (xorL l m) = m
  | [], [], _, _ => rfl
  | x :: l, y :: m, h, hb => by
    have ih := xorL_back (l := l) (m := m) (by simpa using h) (fun z hz => hb z (by simp [hz]))
    simp only [xorL, List.zipWith_cons_cons] at ih ⊢
    rw [xorB_back x y (hb y (by simp)), ih]
  | [], _ :: _, h, _ => by cases h
  | _ :: _, [], h, _ => by cases h
theorem hidB_back (key : List Int) (once : Int) (d : List Int) (hd : ∀ x ∈ d, Byte x) : hidB key once (hidB key once d) = d := by
  have h : hidB key once (hidB key once d) = xorL (strB key once d.length) (xorL (strB key once d.length) d) := by
    have : (hidB key once d).length = d.length := hidB_len _ _ _
    unfold hidB at this ⊢; rw [this]
  rw [h, xorL_back (strB_len _ _ _) hd]
theorem seal_take (key : List Int) (once : Int) (d : List Int) : (sealB key once d).take ((sealB key once d).length - 16) = bodyB key once d := by
  have : (sealB key once d).length - 16 = (bodyB key once d).length := by rw [sealB_len, bodyB_len]; omega
  rw [this]; unfold sealB; rw [List.take_left']; rfl
theorem seal_drop (key : List Int) (once : Int) (d : List Int) : (sealB key once d).drop ((sealB key once d).length - 16) = tag16 key (bodyB key once d) := by
  have : (sealB key once d).length - 16 = (bodyB key once d).length := by rw [sealB_len, bodyB_len]; omega
  rw [this]; unfold sealB; rw [List.drop_left']; rfl
theorem openE_seal (key : List Int) (once : Int) (d : List Int) (hd : d.length ≤ 1024) : openE key (sealB key once d) = 0 := by
  unfold openE
  rw [seal_take, seal_drop, sealB_len, if_neg (by omega), if_neg (by omega), if_neg (by simp)]
theorem seal_take8 (key : List Int) (once : Int) (d : List Int) : (sealB key once d).take 8 = beB once := by
  unfold sealB bodyB
  rw [List.append_assoc, List.take_left' (beB_len _)]
theorem openN_seal (key : List Int) (once : Int) (ho : U64 once) (d : List Int) (hd : d.length ≤ 1024) : openN key (sealB key once d) = once := by
  unfold openN; rw [openE_seal _ _ _ hd, if_pos rfl, seal_take8, foldU_beB _ ho]
/-- WHAT WAS SEALED OPENS AS IT WAS. -/
theorem openB_seal (key : List Int) (once : Int) (ho : U64 once) (d : List Int) (hb : ∀ x ∈ d, Byte x) (hd : d.length ≤ 1024) : openB key (sealB key once d) = d := by
  unfold openB; rw [openE_seal _ _ _ hd, if_pos rfl, seal_take8, foldU_beB _ ho, seal_take]
  unfold bodyB
  rw [List.drop_left' (beB_len _), hidB_back _ _ _ hb]
end Go.Proofs.YtbemljgcclaopaaGreatDoor
