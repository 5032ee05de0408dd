/- strconv.FormatInt at base 16. -/
import Derived.Test.YtbemljgcclaopaaGreatDoorB2
import Derived.Test.YtbemljgcclaopaaGreatDoorZ0
import Derived.Deep.MidRow
import Derived.Test.YtbemljgcclaopaaGreatDoorS1
namespace Go.Proofs.YtbemljgcclaopaaGreatDoor
open Go.RowKit
def dig (d : Nat) : Int := if d < 10 then 48 + d else 87 + d
/-- The k low digits at base 16. -/
def digs (n : Nat) : Nat → List Int
  | 0 => []
  | k + 1 => dig (n / 16 ^ k % 16) :: digs n k
theorem digs_len (n k : Nat) : (digs n k).length = k := by induction k with
  | zero => rfl
  | succ k ih => simp [digs, ih]
def padD (n k : Nat) : List Int := List.replicate (65 - k) 0 ++ digs n k
theorem padD_len (n k : Nat) (h : k ≤ 65) : (padD n k).length = 65 := by simp [padD, digs_len]; omega
theorem padD_step (n k : Nat) (h : k < 65) : (padD n k).set (64 - k) (dig (n / 16 ^ k % 16)) = padD n (k + 1) := by
  unfold padD digs
  have e : List.replicate (65 - k) (0 : Int) = List.replicate (64 - k) 0 ++ [0] := by
    rw [← List.replicate_succ']; congr 1; omega
  rw [e, List.append_assoc]
  rw [List.set_append_right _ _ (by simp)]
  simp
  cases k <;> rfl
theorem and15 (m : Nat) (h : m < 18446744073709551616) : bits BinOp.and .u64 (m : Int) 15 = ((m % 16 : Nat) : Int) := by
  have h3 : (BitVec.ofInt IntKind.u64.bits (m : Int)).toNat = m := by rw [BitVec.toNat_ofInt]; simp [IntKind.bits]; omega
  show IntKind.wrap .u64 (((BitVec.ofInt IntKind.u64.bits (m : Int)) &&& (BitVec.ofInt IntKind.u64.bits (15 : Int))).toNat : Int) = _
  rw [BitVec.toNat_and, h3]
  have h4 : (BitVec.ofInt IntKind.u64.bits (15 : Int)).toNat = 15 := by decide
  rw [h4, show (15 : Nat) = 2 ^ 4 - 1 from rfl, Nat.and_two_pow_sub_one_eq_mod]
  have := Nat.mod_lt m (show 0 < 2 ^ 4 by decide)
  simp [IntKind.wrap, IntKind.bits, IntKind.signed]; omega
theorem div16_le {n k : Nat} (hn : n < 9223372036854775808) (h : 16 ≤ n / 16 ^ k) : k ≤ 14 := by
  rcases Nat.lt_or_ge k 15 with h' | h'
  · omega
  · have h1 : n / 16 ^ k ≤ n / 16 ^ 15 := Nat.div_le_div_left (Nat.pow_le_pow_right (by decide) h') (by decide)
    have : n / 16 ^ 15 ≤ 7 := by
      have : (16 : Nat) ^ 15 = 1152921504606846976 := by decide
      rw [this]; omega
    omega
theorem digLit : ∀ (d : Nat) (_ : d < 16) (h : d < ({ data := #[48, 49, 50, 51, 52, 53, 54, 55, 56, 57, 97, 98, 99, 100, 101, 102, 103, 104, 105, 106, 107, 108, 109, 110, 111, 112, 113, 114, 115, 116, 117, 118, 119, 120, 121, 122] } : ByteArray).size), ((({ data := #[48, 49, 50, 51, 52, 53, 54, 55, 56, 57, 97, 98, 99, 100, 101, 102, 103, 104, 105, 106, 107, 108, 109, 110, 111, 112, 113, 114, 115, 116, 117, 118, 119, 120, 121, 122] } : ByteArray)[d]'h).toNat : Int) = dig d
  | 0, _, _ => rfl
  | 1, _, _ => rfl
  | 2, _, _ => rfl
  | 3, _, _ => rfl
  | 4, _, _ => rfl
  | 5, _, _ => rfl
  | 6, _, _ => rfl
  | 7, _, _ => rfl
  | 8, _, _ => rfl
  | 9, _, _ => rfl
  | 10, _, _ => rfl
  | 11, _, _ => rfl
  | 12, _, _ => rfl
  | 13, _, _ => rfl
  | 14, _, _ => rfl
  | 15, _, _ => rfl
  | n + 16, hd, _ => absurd hd (by omega)
/-- One less than the number of digits. -/
def hexK (n : Nat) : Nat := if n < 16 then 0 else hexK (n / 16) + 1
theorem hexK_of : ∀ (k n : Nat), n < 16 ^ (k + 1) → (k = 0 ∨ 16 ^ k ≤ n) → hexK n = k
  | 0, n, h, _ => by unfold hexK; rw [if_pos (by simpa using h)]
  | k + 1, n, h, h2 => by
    have h3 : 16 ^ (k + 1) ≤ n := by simpa using h2
    have h16 : 16 ≤ n := Nat.le_trans (by rw [Nat.pow_succ]; have := Nat.pow_pos (n := k) (show 0 < 16 by decide); omega) h3
    unfold hexK
    rw [if_neg (by omega), hexK_of k (n / 16) (by rw [Nat.div_lt_iff_lt_mul (by decide)]; rw [Nat.pow_succ] at h; exact h) (.inr (by rw [Nat.le_div_iff_mul_le (by decide)]; rw [Nat.pow_succ] at h3; exact h3))]
def byteU (x : Int) : UInt8 := UInt8.ofNat x.toNat
/-- The bytes of n's numeral at base 16. -/
def hexS (n : Nat) : List UInt8 := (digs n (hexK n + 1)).map byteU
theorem byteU_nat {x : Int} (h0 : 0 ≤ x) (h1 : x < 256) : ((byteU x).toNat : Int) = x := by
  unfold byteU; simp; omega
/-- 'string(b)', b a slice that reads as l. -/
theorem run_str {w : World} {a : Option Addr} {n c : Nat} {l : List Int} (h : Src w a (Ints .u8 l)) (hl : l.length = n) (hn : 0 < n) (hb : ∀ x ∈ l, 0 ≤ x ∧ x < 256) : (convert 24 9 (.slice a n c)).run Tryz.prog w = .ok (.string ⟨(l.map byteU).toArray⟩) w := by
  obtain ⟨b, off, rfl, _⟩ := h.addr (by rw [ints_len]; omega)
  have hm : (l.map byteU).length = n := by simp [hl]
  rw [← hm]
  refine run_convert_bytes_back w 24 9 5 ⟨b, off, none⟩ c (l.map byteU) Tryz.underlying24 Tryz.underlying5 Tryz.underlying9 ?_
  intro j hj
  have hj' : j < l.length := by simpa using hj
  have : (⟨b, off, none⟩ : Addr).add j = ⟨b, off + j, none⟩ := by unfold Addr.add; split <;> simp_all
  rw [this]
  refine (h.at (j := j) (u := .int .u8 l[j]) (by simp [Ints, hj'])).trans ?_
  have hx := hb l[j] (List.getElem_mem hj')
  rw [List.getElem_map, byteU_nat hx.1 hx.2]
theorem dig_byte (d : Nat) (h : d < 16) : 0 ≤ dig d ∧ dig d < 256 := by unfold dig; split <;> omega
theorem digs_byte (n k : Nat) : ∀ x ∈ digs n k, 0 ≤ x ∧ x < 256 := by
  induction k with
  | zero => intro x hx; cases hx
  | succ k ih =>
    intro x hx
    rcases List.mem_cons.1 hx with rfl | hx
    · exact dig_byte _ (by omega)
    · exact ih x hx
/-- What the table of math/bits says of 16. -/
def Tz (w : World) : Prop := w.cell? ⟨7, 15, none⟩ = some (.int .u8 4)
theorem Tz.below {w w' : World} (h : Tz w) (hb : Below w.heap.size w w') : Tz w' := (hb.cell (p := ⟨7, 15, none⟩) (cell_lt h)).trans h
set_option maxRecDepth 100000 in
theorem tz64 (w : World) (h : Tz w) : Calls Tryz.prog 157 #[.int .u64 16] w fun e w' => e = .returned (.int .i64 4) ∧ w' = w := by
  have hc : w.cell? ⟨7, 15, none⟩ = some (.int .u8 4) := h
  have h1 : bits BinOp.and .u64 16 (IntKind.wrap .u64 (-16)) = 16 := by decide
  have h2 : IntKind.wrap .u64 (16 * 285870213051353865) / 288230376151711744 = 15 := by decide
  go_enter Tryz.func157, Tryz.ntmps157
  go_wp2
  go_ret
  exact ⟨rfl, rfl⟩
set_option maxRecDepth 100000 in
theorem tz16 (w : World) (h : Tz w) : Calls Tryz.prog 141 #[.int .u64 16] w fun e w' => e = .returned (.int .i64 4) ∧ w' = w := by
  go_enter Tryz.func141, Tryz.ntmps141
  go_wp2_with (go_at_call 157; refine (tz64 _ h).mono ?_; rintro e w' ⟨rfl, rfl⟩)
  go_ret
  exact ⟨rfl, rfl⟩
set_option maxRecDepth 100000 in
theorem pow2_16 (w : World) : Calls Tryz.prog 140 #[.int .i64 16] w fun e w' => e = .returned (.bool true) ∧ w' = w := by
  have h1 : bits BinOp.and .i64 16 15 = 0 := by decide
  go_enter Tryz.func140, Tryz.ntmps140
  go_wp2
  go_ret
  exact ⟨rfl, rfl⟩
set_option maxRecDepth 100000 in
set_option maxHeartbeats 2000000 in
theorem formatBits_16 (n : Nat) (hn : n < 9223372036854775808) (w : World) (hT : Tz w) :
    Calls Tryz.prog 116 #[.slice none 0 0, .int .u64 n, .int .i64 16, .bool false, .bool false] w fun e w' => e = .returned (.tuple #[.slice none 0 0, .string ⟨(hexS n).toArray⟩]) ∧ Below w.heap.size w w' := by
  go_enter Tryz.func116, Tryz.ntmps116
  have hT1 := hT.below ((Below.refl _ _).alloc (Nat.le_refl _) (.cells Tryz.zeroCells176 176))
  go_wp2_with (first
    | (go_at_call 140; refine (pow2_16 _).mono ?_; rintro e w' ⟨rfl, rfl⟩)
    | (go_at_call 141; refine (tz16 _ hT1).mono ?_; rintro e w' ⟨rfl, rfl⟩))
  have hz : Tryz.zeroCells176 = (Ints .u8 (List.replicate 65 0)).toArray := by kernel_rfl
  have hR0 : Row (w.alloc (.cells Tryz.zeroCells176 176)) w.heap.size 176 (Ints .u8 (padD n 0)) := by
    have : padD n 0 = List.replicate 65 0 := by simp [padD, digs]
    rw [this, hz]; exact Row.newAt rfl rfl
  have hB0 : Below w.heap.size w (w.alloc (.cells Tryz.zeroCells176 176)) := (Below.refl _ w).alloc (Nat.le_refl _) _
  clear hT1 hz
  go_loopw [1, 13] (fun u i wx => ∃ k : Nat, k ≤ 15 ∧ (k = 0 ∨ 16 ^ k ≤ n) ∧ u = .int .u64 ((n / 16 ^ k : Nat) : Int) ∧ i = .int .i64 (65 - (k : Int)) ∧ Row wx w.heap.size 176 (Ints .u8 (padD n k)) ∧ Below w.heap.size w wx) (fun u i _ => (intOf i).toNat)
  case atStart => exact ⟨0, by omega, .inl rfl, by simp, rfl, hR0, hB0⟩
  case round =>
    clear hR0 hB0
    obtain ⟨k, hk, hkn, rfl, rfl, hr, hB⟩ := hrel
    have HKN := hid hkn
    clear hkn
    generalize hm : n / 16 ^ k = m at *
    have HM := hid hm
    by_cases h16 : 16 ≤ m
    · have hk14 : k ≤ 14 := div16_le hn (by rw [hm]; exact h16)
      clear hm
      have h16' : (16 : Int) ≤ (m : Int) := by omega
      have hml : m < 18446744073709551616 := by have := HM.out; have := Nat.div_le_self n (16 ^ k); omega
      have ha := and15 m hml
      have hm16 : (m : Int) % 16 < 36 := by omega
      have hi1 : (0 : Int) ≤ 65 - (k : Int) - 1 := by omega
      have hi2 : 65 - (k : Int) - 1 < 65 := by omega
      have hit : (65 - (k : Int) - 1).toNat = 64 - k := by omega
      have pc : wr.cell? ⟨w.heap.size, 64 - k, none⟩ = some (.int .u8 ((padD n k)[64 - k]?.getD 0)) := hr.cell (by simp only [Ints, List.getElem?_map]; rw [List.getElem?_eq_getElem (by rw [padD_len _ _ (by omega)]; omega)]; simp)
      have pf := hr.frozen (64 - k)
      go_wp2
      go_roundw
      case rel =>
        refine ⟨k + 1, by omega, .inr ?_, ?_, by go_num, ?_, hB.setCell (p := ⟨w.heap.size, 64 - k, none⟩) (Nat.le_refl _) _⟩
        · have := HM.out; rw [← this, Nat.le_div_iff_mul_le (Nat.pow_pos (by decide))] at h16; rw [Nat.pow_succ, Nat.mul_comm]; exact h16
        · rw [Nat.pow_succ, ← Nat.div_div_eq_div_mul, HM.out]; rfl
        · rw [digLit _ (by omega), ← padD_step _ _ (by omega), HM.out]; exact hr.setInt _ _
      case measure => simp [intOf]; omega
    · clear hm
      have hkx : hexK n = k := by
        refine hexK_of k n ?_ HKN.out
        have := HM.out; rw [← this, Nat.not_le, Nat.div_lt_iff_lt_mul (Nat.pow_pos (by decide))] at h16; rw [Nat.pow_succ, Nat.mul_comm]; exact h16
      have HKX := hid hkx
      clear hkx
      have pc : wr.cell? ⟨w.heap.size, 64 - k, none⟩ = some (.int .u8 ((padD n k)[64 - k]?.getD 0)) := hr.cell (by simp only [Ints, List.getElem?_map]; rw [List.getElem?_eq_getElem (by rw [padD_len _ _ (by omega)]; omega)]; simp)
      have pf := hr.frozen (64 - k)
      have hi1 : (0 : Int) ≤ 65 - (k : Int) - 1 := by omega
      have hi2 : 65 - (k : Int) - 1 < 65 := by omega
      have hi2' : 65 - (k : Int) - 1 ≤ 65 := by omega
      have hit : (65 - (k : Int) - 1).toNat = 64 - k := by omega
      have hm36 : (m : Int) < 36 := by omega
      have h16' : ¬ (16 : Int) ≤ (m : Int) := by omega
      have hR1 : Row (wr.setCell ⟨w.heap.size, 64 - k, none⟩ (.int .u8 (dig m))) w.heap.size 176 (Ints .u8 (padD n (k + 1))) := by
        have : m = n / 16 ^ k % 16 := by have := HM.out; omega
        rw [← padD_step _ _ (by omega), ← this]; exact hr.setInt _ _
      have hS : Src (wr.setCell ⟨w.heap.size, 64 - k, none⟩ (.int .u8 (dig m))) (some ⟨w.heap.size, 64 - k, none⟩) (Ints .u8 (digs n (k + 1))) := by
        have := hR1.sub (64 - k)
        rwa [ints_drop, show (padD n (k + 1)).drop (64 - k) = digs n (k + 1) by unfold padD; rw [show 65 - (k + 1) = 64 - k by omega, List.drop_left' (by simp)]] at this
      have hcv := run_str (c := k + 1) hS (digs_len _ _) (by omega) (digs_byte _ _)
      have hlit := digLit m (by omega)
      have hsl : ∀ W : World, (Instr.sliceAt 176 (.pointer (some ⟨w.heap.size, 0, none⟩)) (some (.int .i64 (65 - (k : Int) - 1))) none none).run Tryz.prog W = .ok (.slice (some ⟨w.heap.size, 64 - k, none⟩) (k + 1) (k + 1)) W := fun W => by
        have hl := run_sliceAt_array_l (P := Tryz.prog) W 176 ⟨w.heap.size, 0, none⟩ Tryz.underlying176 .i64 (65 - (k : Int) - 1) hi1 hi2'
        have e1 : Tryz.prog.elem 176 = 5 := by kernel_rfl
        have e2 : Tryz.prog.arrayLen 176 = 65 := by kernel_rfl
        have e3 : 65 - (64 - k) = k + 1 := by omega
        have e4 : ¬ 65 = 64 - k := by omega
        rw [hl, hit, e1, e2, Tryz.sizeOf5, Result.andThen_ok]
        simp only [slicedAt, e3, if_neg e4, Addr.add_mid, Nat.mul_one, Nat.zero_add]
      go_wp2
      go_ret2
      refine ⟨?_, hB.setCell (p := ⟨w.heap.size, 64 - k, none⟩) (Nat.le_refl _) _⟩
      unfold hexS; rw [HKX.out]; rfl
theorem formatInt_in (n : Nat) (hn : n < 9223372036854775808) (w : World) (hT : Tz w) :
    Calls Tryz.prog 94 #[.int .i64 n, .int .i64 16] w fun e w' => e = .returned (.string ⟨(hexS n).toArray⟩) ∧ Below w.heap.size w w' := by
  have hw : IntKind.wrap .u64 (n : Int) = n := by simp [IntKind.wrap, IntKind.bits, IntKind.signed]; omega
  have hn0 : ¬ (n : Int) < 0 := by omega
  go_enter Tryz.func94, Tryz.ntmps94
  go_wp2_with (go_at_call 116; refine (formatBits_16 n hn _ hT).mono ?_; rintro e w' ⟨rfl, hb⟩)
  go_ret
  exact ⟨rfl, hb⟩
theorem formatInt_16 (n : Nat) (hn : n < 9223372036854775808) (w : World) (hT : Tz w) :
    Calls Tryz.prog 63 #[.int .i64 n, .int .i64 16] w fun e w' => e = .returned (.string ⟨(hexS n).toArray⟩) ∧ Below w.heap.size w w' := by
  go_enter Tryz.func63, Tryz.ntmps63
  go_wp2_with (go_at_call 94; refine (formatInt_in n hn _ hT).mono ?_; rintro e w' ⟨rfl, hb⟩)
  go_ret
  exact ⟨rfl, hb⟩
end Go.Proofs.YtbemljgcclaopaaGreatDoor
