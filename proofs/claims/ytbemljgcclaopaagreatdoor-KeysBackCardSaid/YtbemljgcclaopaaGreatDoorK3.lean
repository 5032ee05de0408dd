/- codec.Key, hash.Derive: at parts without a zero byte. -/
import Derived.Lib.AppendStr
import Derived.Test.YtbemljgcclaopaaGreatDoorK2
import Derived.Test.YtbemljgcclaopaaGreatDoorS3
namespace Go.Proofs.YtbemljgcclaopaaGreatDoor
open Go.RowKit
def strI (s : ByteArray) : List Int := s.data.toList.map fun b => (b.toNat : Int)
theorem strI_len (s : ByteArray) : (strI s).length = s.size := by unfold strI; rw [List.length_map, Array.length_toList]; rfl
theorem strI_byte (s : ByteArray) : ∀ x ∈ strI s, Byte x := by
  intro x hx; simp only [strI, List.mem_map] at hx; obtain ⟨b, _, rfl⟩ := hx
  have := b.toNat_lt; unfold Byte; omega
theorem strI_cells (s : ByteArray) : Lib.strCells s = Ints .u8 (strI s) := by simp [Lib.strCells, Ints, strI]
def NoZero (s : ByteArray) : Prop := (0 : UInt8) ∉ s.data.toList
set_option maxRecDepth 100000 in
theorem replace_none (s : ByteArray) (h : NoZero s) (w : World) : Calls Tryz.prog 117 #[.string s, .string ⟨#[0]⟩, .string ⟨#[0, 255]⟩, .int .i64 (-1)] w fun e w' => e = .returned (.string s) ∧ w' = w := by
  have hc : Lib.countByte s.data.toList 0 = 0 := List.count_eq_zero.2 h
  go_enter Tryz.func117, Tryz.ntmps117
  go_wp2_with (go_at_call 142; refine (Tryz.strings_Count_one s 0 _).mono ?_; rw [hc]; rintro e w' ⟨rfl, rfl⟩)
  go_ret
  exact ⟨rfl, rfl⟩
set_option maxRecDepth 100000 in
theorem replaceAll_none (s : ByteArray) (h : NoZero s) (w : World) : Calls Tryz.prog 95 #[.string s, .string ⟨#[0]⟩, .string ⟨#[0, 255]⟩] w fun e w' => e = .returned (.string s) ∧ w' = w := by
  go_enter Tryz.func95, Tryz.ntmps95
  go_wp2_with (go_at_call 117; refine (replace_none s h _).mono ?_; rintro e w' ⟨rfl, rfl⟩)
  go_ret
  exact ⟨rfl, rfl⟩
def keyL (ps : List ByteArray) : List Int := (ps.map fun p => strI p ++ [0, 1]).flatten
theorem keyL_snoc (ps : List ByteArray) (p : ByteArray) : keyL (ps ++ [p]) = keyL ps ++ strI p ++ [0, 1] := by simp [keyL]
theorem keyL_take {ps : List ByteArray} {j : Nat} (h : j < ps.length) : keyL (ps.take (j + 1)) = keyL (ps.take j) ++ strI ps[j] ++ [0, 1] := by
  rw [List.take_succ_eq_append_getElem h, keyL_snoc]
theorem keyL_le (ps : List ByteArray) (j : Nat) : (keyL (ps.take j)).length ≤ (keyL ps).length := by
  have : keyL ps = keyL (ps.take j) ++ keyL (ps.drop j) := by rw [keyL, keyL, keyL, ← List.flatten_append, ← List.map_append, List.take_append_drop]
  rw [this]; simp
theorem keyL_byte (ps : List ByteArray) : ∀ x ∈ keyL ps, Byte x := by
  intro x hx
  simp only [keyL, List.mem_flatten, List.mem_map] at hx
  obtain ⟨l, ⟨p, _, rfl⟩, hx⟩ := hx
  rcases List.mem_append.1 hx with hx | hx
  · exact strI_byte _ x hx
  · simp at hx; unfold Byte; omega
set_option maxRecDepth 100000 in
set_option maxHeartbeats 2000000 in
theorem key_any (ps : List ByteArray) (hz : ∀ p ∈ ps, NoZero p) (hl : (keyL ps).length ≤ 64) (h1 : 1 ≤ ps.length) (h8 : ps.length ≤ 8) (a0 : Option Addr) (n c0 : Nat) (hn : ps.length = n) (hc : n ≤ c0) (w : World) (hs : Src w a0 (ps.map Value.string)) :
    Calls Tryz.prog 64 #[.slice a0 n c0] w fun e w' => ∃ v, e = .returned (.tuple #[v, .int .i64 0]) ∧ OwnB w' w.heap.size v (keyL ps) ∧ Below w.heap.size w w' := by
  subst hn
  have HZ := hid hz
  have HL := hid hl
  clear hz hl
  have h1' : ¬ (ps.length : Int) < 1 := by omega
  have h8' : ¬ (8 : Int) < (ps.length : Int) := by omega
  obtain ⟨b0, off0, rfl, hb0⟩ := hs.addr (by simp; omega)
  go_enter Tryz.func64, Tryz.ntmps64
  go_wp2
  go_loopw [4, 17] (fun v i wx => ∃ j : Nat, j ≤ ps.length ∧ i = .int .i64 j ∧ OwnB wx w.heap.size v (keyL (ps.take j)) ∧ Below w.heap.size w wx) (fun _ i _ => ps.length - (intOf i).toNat)
  case atStart => exact ⟨0, by omega, rfl, World.ownsRow_nil _ _ _ _, Below.refl _ _⟩
  case round =>
    obtain ⟨j, hj, rfl, hown, hB⟩ := hrel
    by_cases hjn : j < ps.length
    · have hkt := keyL_take hjn
      have hkl := keyL_le ps (j + 1)
      rw [hkt] at hkl
      have hlen : (keyL (ps.take j)).length + ps[j].size + 2 ≤ 64 := by
        have := HL.out
        simp only [List.length_append, strI_len, List.length_cons, List.length_nil] at hkl
        omega
      have HKT := hid hkt
      clear hkt hkl
      have hjc : wr.cell? ⟨b0, off0 + j, none⟩ = some (.string ps[j]) := (hs.below hB (Nat.le_refl _)).at (by simp [hjn])
      have hjz := HZ.out ps[j] (List.getElem_mem hjn)
      have HJZ := hid hjz
      clear hjz
      have hjn' : (j : Int) < (ps.length : Int) := by omega
      have hjt : ((j : Int)).toNat = j := by omega
      have hp64 : ¬ (64 : Int) < (ps[j].size : Int) := by omega
      generalize ps[j] = p at *
      have hsz := hB.size
      obtain ⟨i0, hi, hz0, hz1, hz2⟩ := info_parts infoB
      go_wp2_with (first
        | (go_at_call 95; refine (replaceAll_none p HJZ.out _).mono ?_; rintro e w' ⟨rfl, rfl⟩)
        | (at_builtin; refine Lib.wpList_append_own_string _ rfl (.tmp 24) (.tmp 26) 24 9 rfl w.heap.size 5 i0 Tryz.underlying24 Tryz.underlying9 hi hz0 hz1 hz2 _ _ _ rfl hown p rfl (by unfold maxLen; omega) (by omega) hB.size ?_; intro v1 w1 hown1 hg1 _; rw [strI_cells, ints_append] at hown1; have hs1 := hg1.size; have hown2 : OwnB (w1.alloc (.cells #[.int .u8 0, .int .u8 1] 5)) w.heap.size v1 (keyL (ps.take j) ++ strI p) := (by unfold OwnB; rw [List.length_append, strI_len]; exact own_kept hown1 ((Below.refl _ _).alloc (Nat.le_refl _) _)))
        | (at_builtin; refine wpList_appB _ rfl (.tmp 28) (.tmp 29) rfl w.heap.size v1 (keyL (ps.take j) ++ strI p) rfl hown2 (some ⟨w1.heap.size, 0, none⟩) 2 2 [0, 1] rfl rfl (Src.rowAll (Row.newAt rfl rfl)) (by rw [List.length_append, strI_len]; omega) (by simp; omega) (fun h => by cases h) ?_; intro v3 w3 hown3 hg3 _))
      go_roundw
      case rel =>
        refine ⟨j + 1, by omega, by go_num, by rw [HKT.out]; exact hown3, ?_⟩
        exact ((hB.grown hg1 hB.size (fun k e => (hown.lt k e).1)).alloc (by omega) _).grown hg3 (by simp; omega) (fun k e => (hown2.lt k e).1)
      case measure => simp [intOf]; omega
    · have hj0 : j = ps.length := by omega
      subst hj0
      rw [List.take_length] at hown
      obtain ⟨a1, c1, rfl, hvl, hc1, hm1, hs1, hz1, hb1⟩ := own_src' hown
      have hk64 : ¬ (64 : Int) < ((keyL ps).length : Int) := by have := HL.out; omega
      clear hvl hc1 hs1 hz1
      go_wp2
      go_ret2
      exact ⟨_, rfl, hown, hB⟩
end Go.Proofs.YtbemljgcclaopaaGreatDoor
