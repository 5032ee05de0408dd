/- strconv.ParseUint at base 16: a nought and at most 16 digits. -/
import Derived.Lib.ConvBytes
import Derived.Lib.Strings
import Derived.Lib.Hide
import Derived.Lib.AtoiErrMem
import Derived.BigGuard
import Derived.Test.YtbemljgcclaopaaGreatDoorK2
namespace Go.Proofs.YtbemljgcclaopaaGreatDoor
open Go.RowKit
def HexB (c : UInt8) : Prop := (48 ≤ c.toNat ∧ c.toNat ≤ 57) ∨ (97 ≤ c.toNat ∧ c.toNat ≤ 102)
def hexV (c : UInt8) : Nat := if c.toNat ≤ 57 then c.toNat - 48 else c.toNat - 87
theorem hexV_lt {c : UInt8} (h : HexB c) : hexV c < 16 := by unfold HexB at h; unfold hexV; split <;> omega
def valH (l : List UInt8) : Nat := l.foldl (fun a c => a * 16 + hexV c) 0
theorem valH_snoc (l : List UInt8) (c : UInt8) : valH (l ++ [c]) = valH l * 16 + hexV c := by simp [valH]
theorem valH_lt : ∀ (l : List UInt8), (∀ c ∈ l, HexB c) → valH l < 16 ^ l.length := by
  intro l
  rcases List.eq_nil_or_concat l with rfl | ⟨m, c, rfl⟩
  · intro _; simp [valH]
  · intro h
    rw [List.concat_eq_append] at *
    have ih := valH_lt m (fun x hx => h x (by simp [hx]))
    have hc := hexV_lt (h c (by simp))
    rw [valH_snoc, List.length_append, List.length_singleton, Nat.pow_succ]
    omega
  termination_by l => l.length
theorem valH_zero (l : List UInt8) : valH (48 :: l) = valH l := by simp [valH, hexV]
theorem valH_take {ds : List UInt8} (h : ∀ c ∈ ds, HexB c) (hl : ds.length ≤ 16) (k : Nat) (hk : k ≤ ds.length) : valH ((48 :: ds).take k) < 1152921504606846976 := by
  cases k with
  | zero => simp [valH]
  | succ m =>
    rw [List.take_succ_cons, valH_zero]
    have := valH_lt (ds.take m) (fun c hc => h c (List.mem_of_mem_take hc))
    rw [List.length_take] at this
    have h2 : (16 : Nat) ^ (min m ds.length) ≤ 16 ^ 15 := Nat.pow_le_pow_right (by decide) (by omega)
    have : (16 : Nat) ^ 15 = 1152921504606846976 := by decide
    omega
set_option maxRecDepth 100000 in
theorem lower_any (c : Int) (h : 97 ≤ c ∧ c ≤ 102) (w : World) : Calls Tryz.prog 122 #[.int .u8 c] w fun e w' => e = .returned (.int .u8 c) ∧ w' = w := by
  have : c = 97 ∨ c = 98 ∨ c = 99 ∨ c = 100 ∨ c = 101 ∨ c = 102 := by omega
  rcases this with rfl | rfl | rfl | rfl | rfl | rfl
  all_goals
    go_enter Tryz.func122, Tryz.ntmps122
    go_wp2
    go_ret
    exact ⟨rfl, rfl⟩
set_option maxRecDepth 100000 in
set_option maxHeartbeats 8000000 in
theorem parseUint_16 (t : ByteArray) (ds : List UInt8) (ht : t.data.toList = 48 :: ds) (hd : ∀ c ∈ ds, HexB c) (hl : ds.length ≤ 16) (w : World) :
    Calls Tryz.prog 99 #[.string t, .int .i64 16, .int .i64 64] w fun e w' => e = .returned (.tuple #[.int .u64 (valH ds), .nilIface]) ∧ Below w.heap.size w w' := by
  have hsz : t.size = ds.length + 1 := by rw [Lib.size_eq, ht]; simp
  have hemp : t.toList.isEmpty = false := by
    rw [← decide_eq_emptyBytes]
    exact decide_eq_false (fun h => by rw [h] at hsz; simp at hsz)
  have hcv := Lib.run_convert_string_bytes (P := Tryz.prog) w 9 24 5 t (u := .string) Tryz.underlying9 Tryz.underlying24 Tryz.underlying5
  have hB : ∀ j, j < t.size → (Lib.bytesWorld w 5 t).cell? ⟨w.heap.size, j, none⟩ = some (.int .u8 (t.data.toList.getD j 0).toNat) := fun j hj => Lib.bytesWorld_cell w 5 t j hj
  have hbw : Below w.heap.size w (Lib.bytesWorld w 5 t) := by
    exact Lib.bytesWorld_below _ _ _
  have hall : ∀ c ∈ (48 :: ds), HexB c := fun c hc => by
    rcases List.mem_cons.1 hc with rfl | hc
    · exact .inl (by decide)
    · exact hd c hc
  have hv := fun k hk => valH_take hd hl k hk
  have hv0 := valH_zero ds
  obtain ⟨W1, hW1⟩ : ∃ W1, W1 = Lib.bytesWorld w 5 t := ⟨_, rfl⟩
  rw [← hW1] at hcv hB hbw
  clear hW1
  rw [ht] at hB
  obtain ⟨bs, hbs⟩ : ∃ bs, bs = 48 :: ds := ⟨_, rfl⟩
  rw [← hbs] at hall hB hv hv0
  have hbl : bs.length = ds.length + 1 := by rw [hbs]; simp
  obtain ⟨R, hR⟩ : ∃ R, valH ds = R := ⟨_, rfl⟩
  rw [hR] at hv0 ⊢
  have HALL := hid hall
  have HV := hid hv
  have HV0 := hid hv0
  have HBL := hid hbl
  have HSZ := hid hsz
  clear ht hd hall hv hv0 hbl hbs hsz hR
  have hmv : IntKind.u64.wrap (IntKind.u64.wrap 18446744073709551616 - 1) = 18446744073709551615 := by
    rw [IntKind.wrap_u64, IntKind.wrap_u64]
    decide
  have hle : t.size ≤ 17 := by have := HSZ.out; omega
  have hL : t.size = bs.length := by have := HSZ.out; have := HBL.out; omega
  have HL := hid hL
  clear hL
  go_enter Tryz.func99, Tryz.ntmps99
  go_wp2
  go_loop [12, 13, 101] (fun vu vn vi => ∃ (k : Nat) (a : Int), vu = .bool false ∧ vn = .int .u64 a ∧ vi = .int .i64 k ∧ k ≤ t.size ∧ Hid (a = (valH (bs.take k) : Int)))
    (fun _ _ vi => t.size - (intOf vi).toNat)
  case atStart => exact ⟨0, 0, rfl, rfl, rfl, by omega, hid (by simp [valH])⟩
  case round =>
    obtain ⟨k, a, rfl, rfl, rfl, hk, hh⟩ := hrel
    by_cases hkn : k < t.size
    · have hkb : k < bs.length := by have := HL.out; omega
      have hc := hB k hkn
      have hget : bs.getD k 0 = bs[k]'hkb := by simp [List.getD, List.getElem?_eq_getElem hkb]
      have htk : bs.take (k + 1) = bs.take k ++ [bs[k]'hkb] := List.take_succ_eq_append_getElem hkb
      have hcut := HV.out k (by have := HBL.out; omega)
      have hx := HALL.out _ (List.getElem_mem hkb)
      rw [hget] at hc
      generalize bs[k]'hkb = c at hc htk hx
      have ha := hh.out
      have a0 : 0 ≤ a := by omega
      have a1 : a < 1152921504606846976 := by omega
      have HN : Hid (((valH (bs.take (k + 1)) : Nat) : Int) = a * 16 + hexV c) := hid (by rw [htk, valH_snoc, ha]; simp)
      have hc256 : c.toNat < 256 := c.toNat_lt
      clear hB hget htk hcut hh ha hkb
      rcases hx with ⟨hd0, hd1⟩ | ⟨hd0, hd1⟩
      · have hv : hexV c = c.toNat - 48 := by unfold hexV; rw [if_pos hd1]
        have HVV := hid hv
        clear hv
        have iov : a * 16 + ((c.toNat : Int) - 48) < 18446744073709551616 := by omega
        go_wp2
        refine ⟨⟨k + 1, a * 16 + ((c.toNat : Int) - 48), rfl, (by first | rfl | (congr 1; omega)), (by first | rfl | (congr 1; omega)), by omega, hid ?_⟩, by simp [intOf]; omega⟩
        rw [HN.out, HVV.out]; omega
      · have hv : hexV c = c.toNat - 87 := by unfold hexV; rw [if_neg (by omega)]
        have HVV := hid hv
        clear hv
        have iov : a * 16 + ((c.toNat : Int) - 97 + 10) < 18446744073709551616 := by omega
        have hlow := fun w => lower_any (c.toNat : Int) (by omega) w
        go_wp2_with (go_at_call 122; refine (hlow _).mono ?_; rintro e w' ⟨rfl, rfl⟩)
        refine ⟨⟨k + 1, a * 16 + ((c.toNat : Int) - 97 + 10), rfl, (by first | rfl | (congr 1; omega)), (by first | rfl | (congr 1; omega)), by omega, hid ?_⟩, by simp [intOf]; omega⟩
        rw [HN.out, HVV.out]; omega
    · have hkk : k = t.size := by omega
      have haR : a = (R : Int) := by
        have h := hh.out
        rw [hkk, HL.out, List.take_length, HV0.out] at h
        exact h
      subst haR
      clear hh hB hkk
      go_wp2
      go_ret2
      exact ⟨rfl, hbw⟩
set_option maxRecDepth 100000 in
theorem parseUintP_16 (t : ByteArray) (ds : List UInt8) (ht : t.data.toList = 48 :: ds) (hd : ∀ c ∈ ds, HexB c) (hl : ds.length ≤ 16) (w : World) :
    Calls Tryz.prog 68 #[.string t, .int .i64 16, .int .i64 64] w fun e w' => e = .returned (.tuple #[.int .u64 (valH ds), .nilIface]) ∧ Below w.heap.size w w' := by
  have t1 := parseUint_16 t ds ht hd hl w
  clear ht hd
  go_enter Tryz.func68, Tryz.ntmps68
  go_wp2_with (go_at_call 99; refine t1.mono ?_; rintro e w' ⟨rfl, hb⟩)
  go_ret2
  exact ⟨rfl, hb⟩
end Go.Proofs.YtbemljgcclaopaaGreatDoor
