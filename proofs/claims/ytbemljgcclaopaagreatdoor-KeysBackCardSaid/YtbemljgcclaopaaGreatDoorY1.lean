/- The row and the card of holdfastlaw09.KeysBack. -/
import Derived.Test.YtbemljgcclaopaaGreatDoorY0
import Derived.Test.YtbemljgcclaopaaGreatDoorL3
import Derived.Test.YtbemljgcclaopaaGreatDoorTie
import Derived.Test.YtbemljgcclaopaaGreatDoorCards
namespace Go.Proofs.YtbemljgcclaopaaGreatDoor
open Go.ChangeShapes Go.WideShapes Go.ChangeAt Go.RowKit
set_option maxRecDepth 100000 in
theorem keysBack_lifted (os : Os) (started : os.Started) (H : Type) (enc : TypeId × Value → H) :
    ReturnsInHanded {} Tryz.checked os 3 .any (fun w args => (Rows.keysBackSpec.pre enc Tryz.prog Tryz.f3 Rows.keysBackRow.domain false w args ∧ laidMetH Tryz.prog Rows.keysBackRow.laid w) ∧ sizedMet enc Tryz.prog Tryz.f3 (OpenSpec.ofChange Rows.keysBackSpec) false w args)
      (Rows.keysBackSpec.post enc Tryz.prog Tryz.f3 false true false false) := by
  refine returnsInHanded_of_change_and (C := Tryz.checked) (X := fun w _ => laidMetH Tryz.prog Rows.keysBackRow.laid w) (fun _ _ _ hh h => h.of_heap hh) own_knob started (by kernel_rfl) Tryz.func3
    (ChangeSpec.witness_shaped (enc := enc) (C := Tryz.checked) (os := os) (X := fun w _ => laidMetH Tryz.prog Rows.keysBackRow.laid w) false (World.laidAll Tryz.prog os Rows.keysBackRow.laid) #[.agg ((List.range 32).map fun _ => Value.int .u8 0).toArray, .slice none 0 0, .int .u8 0] 8 (World.laidAll_os _ _ _)
      (World.shaped_of_ZipB (by kernel_rfl) (by kernel_rfl)) (by kernel_rfl) (by kernel_rfl) (by kernel_rfl)
      (by rw [MakeChecks.laidMetH_plain _ _ _ (by kernel_rfl)]; exact laidMet_laidAll _ (by kernel_rfl) (by kernel_rfl))) ?_
  intro W base args ds gs before hval0 hW _ _ hL _
  have hval : ∀ (j : Nat) t v, Tryz.f3.params[j]? = some t → args[j]? = some v → Value.okWide Tryz.prog W .any base t v := hval0
  have hW' := hW
  obtain ⟨p, q, hA0, hV, rfl, _, _⟩ := hW
  have hA : DataW.TrodAll enc Tryz.prog W 0 (fun _ => true) true Tryz.f3.params.toList args.toList ds p := hA0
  rw [Tryz.params3] at hA hval
  obtain ⟨v0, v1, v2, d0, d1, d2, p0, p1, p2, rfl, rfl, rfl, h0, h1, h2⟩ := trodAll_three hA
  obtain ⟨rfl, rfl⟩ := trodVars_none hV
  have k0 := h0
  have k1 := h1
  obtain ⟨root, rfl, hl, hb⟩ := open_arr32 (hval 0 _ v0 rfl rfl) h0
  obtain ⟨pa, pn, pc, d, rfl, hdl, hpc, hpm, hd, hs⟩ := open_bytes (hval 1 _ v1 rfl rfl) h1
  obtain ⟨n, rfl, rfl, rfl, wn⟩ := open_int Tryz.underlying5 (hval 2 _ v2 rfl rfl) h2
  simp only [List.append_nil] at hW'
  rw [MakeChecks.laidMetH_plain _ _ _ (by kernel_rfl)] at hL
  have hT : Tz W := tz_of_laid hL
  have hn : 0 ≤ n ∧ n < 256 := byte_of_wf wn
  refine (keysBack_any root hb hl pa pn pc d hd hdl hpc hpm n hn W hT hs).mono fun e W' ⟨he, hbl⟩ => ?_
  subst he
  have a0 := Below.trod laid_out (by kernel_rfl) (of_decide_eq_true (by kernel_rfl)) k0 hbl (fun x hx => by simpa using hW'.lt x (by simp [hx]))
  have a1 := Below.trod laid_out (by kernel_rfl) (of_decide_eq_true (by kernel_rfl)) k1 hbl (fun x hx => by simpa using hW'.lt x (by simp [hx]))
  exact ⟨_, rfl, _, _, _, [], _, [], hW', trodAll_mk1 (shut_bool Tryz.underlying4 _), trodAll_mk3 a0 a1 (shut_int Tryz.underlying5 wn), rfl, hbl.frame _, fun h => by cases h⟩

theorem keysBack_holds : Rows.KeysBackSaid :=
  OpenClaim.holds_of_wide 3 Tryz.f3 rfl rfl rfl rfl rfl rfl rfl ⟨rfl, rfl, rfl, rfl, rfl⟩ rfl rfl rfl rfl rfl (by kernel_rfl) Tryz.func3 (by kernel_rfl)
    (of_decide_eq_true (by kernel_rfl)) (by unfold Func.isWrapper; first | (rw [if_pos (by decide +kernel)]; kernel_rfl) | (rw [if_neg (by decide +kernel)]; exact ⟨rfl, rfl⟩))
    (fun os started H enc _ => keysBack_lifted os started H enc)
theorem keysBackCard_holds : Rows.KeysBackCardSaid :=
  Claim7.holds_tied_plain_at .later [] [.data, .data, .data, .data, .sentinel, .sentinel, .pinned] true (true, "79da4f51b29a91e5f00c142a559141eba78e25d8f55f3f21eb493ffc0f146352") true keysBack_holds (fun _ h => by cases h) (by kernel_rfl) (fun _ h => by cases h) keysBack_row_tie rfl ⟨rfl, rfl⟩ (by kernel_rfl) rfl
    (fun f fn hf hfn => by
      obtain rfl : f = 3 := Option.some.inj ((show Tryz.prog.funcNamed "holdfast/holdfastlaw09.KeysBack" = some 3 by kernel_rfl).symm.trans hf) |>.symm
      obtain rfl : fn = Tryz.f3 := (Option.some.inj (Tryz.func3.symm.trans hfn)).symm
      exact ⟨by kernel_rfl, fun j t ht => by
        rw [Tryz.params3] at ht
        have hm : t ∈ [23, 24, 5] := by simpa using Array.mem_of_getElem? ht
        have hall : ([23, 24, 5].all fun u => !Tryz.prog.wantsStandIn u) = true := by kernel_rfl
        exact (show Tryz.prog.wantsStandIn t = false by simpa using List.all_eq_true.1 hall t hm)⟩)
    (by kernel_rfl)
#print axioms keysBack_holds
#print axioms keysBackCard_holds
end Go.Proofs.YtbemljgcclaopaaGreatDoor
