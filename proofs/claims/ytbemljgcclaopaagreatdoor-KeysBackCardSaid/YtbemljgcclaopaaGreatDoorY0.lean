/- What the rows of the keys give a walk: the table's cell, an array of 32 bytes, a byte slice. -/
import Derived.Test.YtbemljgcclaopaaGreatDoorRows
import Derived.Test.YtbemljgcclaopaaGreatDoorL0
import Derived.ProofKit
import Derived.OpenShut
import Derived.LaidMore
import Derived.Lay
import Derived.Lib.LaidTab
namespace Go.Proofs.YtbemljgcclaopaaGreatDoor
open Go.ChangeShapes Go.WideShapes Go.ChangeAt Go.RowKit
theorem own_knob : ownKnob Tryz.prog.godebug = none := by kernel_rfl
theorem laid_out : laidOutB Tryz.prog = true := by kernel_rfl
theorem tz_of_laid {W : World} {d0 : DataW Unit} {r : List (String × DataW Unit)} (h : laidMet Tryz.prog (("math/bits.deBruijn32tab", d0) :: ("math/bits.deBruijn64tab", Rows.laid_math_bits_deBruijn64tab) :: r) W) : Tz W := by
  obtain ⟨ps, ⟨_, _, _, _, _, _, _, _, _, _, ⟨g, t, cs, fuel, p, q, hg, ht, hv, hd, _, _⟩, _⟩, _⟩ := h
  obtain rfl := Option.some.inj ((show Tryz.prog.globalNamed "math/bits.deBruijn64tab" = some 7 by kernel_rfl).symm.trans hg)
  obtain rfl := Option.some.inj ((show (Tryz.prog.globals[7]?).map (·.type) = some 134 by kernel_rfl).symm.trans ht)
  have e := Lib.cells_of_tab (k := .u8) (zs := [0, 1, 56, 2, 57, 49, 28, 3, 61, 58, 42, 50, 38, 29, 17, 4, 62, 47, 59, 36, 45, 43, 51, 22, 53, 39, 33, 30, 24, 18, 12, 5, 63, 55, 48, 27, 60, 41, 37, 16, 46, 35, 44, 21, 52, 32, 23, 11, 54, 26, 40, 15, 34, 20, 31, 10, 25, 14, 19, 9, 13, 8, 7, 6])
    (show Tryz.prog.underlying 134 = some (.array 64 5) by kernel_rfl) (show Tryz.prog.underlying 5 = some (.int .u8) by kernel_rfl) (by kernel_rfl) (by kernel_rfl) hd
  have := World.var?_cell hg hv 15
  unfold Tz
  rw [this]
  have h0 : cs[15]? = some (.int .u8 4) := by rw [← Array.getElem?_toList, e]; rfl
  exact h0

theorem byte_of_wf {n : Int} (h : (Lit.int .u8 n).wf = true) : Byte n := by have := bounds_u8 h; exact ⟨this.1, by omega⟩
section
variable {H : Type} {enc : TypeId × Value → H} {W : World} {base b0 : Nat} {sp : Nat → Bool} {held : Bool} {r : Reach}
set_option maxRecDepth 100000 in
theorem open_arr32 {v : Value} {d : DataW H} {p : List MemPlace} (hval : Value.okWide Tryz.prog W r b0 23 v) (h : DataW.Trod enc Tryz.prog W base sp held 23 v d p) :
    ∃ l : List Int, v = .agg (Ints .u8 l).toArray ∧ l.length = 32 ∧ ∀ x ∈ l, Byte x := by
  have hu : Tryz.prog.underlying 23 = some (.array 32 5) := by kernel_rfl
  have he : Tryz.prog.underlying 5 = some (.int .u8) := by kernel_rfl
  have hc : Tryz.prog.cellsOf 5 = 1 := by kernel_rfl
  have hct : Tryz.prog.cellsOf 23 = 32 := by kernel_rfl
  obtain ⟨fuel, hf⟩ := h
  obtain ⟨xs, m, _, _, hl, hxl, hel⟩ := DataW.trod_array hu hf
  rw [hct] at hl
  have hv : ∃ vs, v = .agg vs := by
    simp only [Value.okWide, hu] at hval
    cases v <;> simp_all
  obtain ⟨vs, rfl⟩ := hv
  have hl' : vs.toList.length = 32 := hl
  have each : ∀ i, i < 32 → ∃ z, vs.toList[i]? = some (.int .u8 z) ∧ Byte z := by
    intro i hi
    have hE := hel i hi
    rw [hc, Nat.mul_one, List.getElem?_eq_getElem (by omega)] at hE
    obtain ⟨z, e1, _, e3⟩ := DataW.trod_int he hE
    refine ⟨z, ?_, byte_of_wf e3⟩
    have h0 : ((vs.toList.drop i).take 1)[0]? = some (.int .u8 z) := by
      have e1' : (vs.toList.drop i).take 1 = [.int .u8 z] := e1
      rw [e1']; rfl
    simpa using h0
  refine ⟨vs.toList.map fun x => match x with | .int _ z => z | _ => 0, ?_, by simpa using hl', ?_⟩
  · refine congrArg Value.agg (Array.ext' (List.ext_getElem? fun i => ?_))
    by_cases hi : i < 32
    · obtain ⟨z, hz, _⟩ := each i hi
      simp [Ints, List.getElem?_map] at hz ⊢
      simp [hz]
    · rw [List.getElem?_eq_none (by omega), List.getElem?_eq_none (by simp [Ints]; simpa using (by omega : vs.toList.length ≤ i))]
  · intro x hx
    obtain ⟨y, hy, rfl⟩ := List.mem_map.1 hx
    obtain ⟨i, hi⟩ := List.mem_iff_getElem?.1 hy
    have hi32 : i < 32 := by have := (List.getElem?_eq_some_iff.1 hi).1; omega
    obtain ⟨z, hz, hb⟩ := each i hi32
    rw [hi] at hz
    cases hz
    exact hb
set_option maxRecDepth 100000 in
theorem open_bytes {v : Value} {d : DataW H} {p : List MemPlace} (hval : Value.okWide Tryz.prog W r b0 24 v) (h : DataW.Trod enc Tryz.prog W base (fun _ => true) held 24 v d p) :
    ∃ (a : Option Addr) (n c : Nat) (l : List Int), v = .slice a n c ∧ l.length = n ∧ n ≤ c ∧ n ≤ 9223372036854775807 ∧ (∀ x ∈ l, Byte x) ∧ Src W a (Ints .u8 l) := by
  have hu : Tryz.prog.underlying 24 = some (.slice 5) := by kernel_rfl
  have he : Tryz.prog.underlying 5 = some (.int .u8) := by kernel_rfl
  have hc : Tryz.prog.cellsOf 5 = 1 := by kernel_rfl
  obtain ⟨a0, len, cap, rfl⟩ := okWide_slice hu hval
  obtain ⟨fuel, hf⟩ := h
  rcases open_ints hu he hc hf with ⟨hcs, _⟩ | ⟨a, len', cap', zs, hcs, _, hl, hm, hz, _, hcell, hwz⟩
  · simp [Value.cells] at hcs
    obtain ⟨rfl, rfl, rfl⟩ := hcs
    exact ⟨none, 0, 0, [], rfl, rfl, Nat.le_refl _, Nat.zero_le _, (fun x hx => absurd hx List.not_mem_nil), (fun j u hj => by simp [Ints] at hj)⟩
  · simp [Value.cells] at hcs
    obtain ⟨rfl, rfl, rfl⟩ := hcs
    simp only [if_true] at hz
    have hm' : len ≤ 9223372036854775807 := by
      have e : maxLen = 9223372036854775807 := by kernel_rfl
      rw [e] at hm; exact Nat.le_trans hl hm
    have hlen : (zs.take len).length = len := by rw [List.length_take, hz]; exact Nat.min_eq_left hl
    refine ⟨some a, len, cap, zs.take len, rfl, hlen, hl, hm', fun x hx => byte_of_wf (hwz x (List.mem_of_mem_take hx)), ?_⟩
    intro j u hu
    have hj : j < zs.length := by have := (List.getElem?_eq_some_iff.1 hu).1; simp [Ints] at this; omega
    have hjn : j < len := by have := (List.getElem?_eq_some_iff.1 hu).1; simp [Ints] at this; omega
    have hspot : a.spot = none := by
      have h0 := hcell 0 (by omega)
      unfold World.cell? at h0
      have ea : a.add 0 = a := by simp [Addr.add]
      rw [ea] at h0
      split at h0
      · cases hs : a.spot with
        | none => rfl
        | some k => simp [hs] at h0
      · cases h0
    have hu' : u = .int .u8 (zs.getD j 0) := by
      simp [Ints, List.getElem?_take, hjn, List.getElem?_eq_getElem hj] at hu
      rw [← hu]; simp [List.getD, List.getElem?_eq_getElem hj]
    have hat : (⟨a.block, a.off + j, none⟩ : Addr) = a.add j := by
      unfold Addr.add
      split
      · next h0 => subst h0; cases a; simp_all
      · rfl
    refine ⟨a.block, a.off, by cases a; simp_all, ?_⟩
    rw [hat, hu']
    exact hcell j hj
end
end Go.Proofs.YtbemljgcclaopaaGreatDoor
