/- Regions that draw their order, walked operation by operation: my own laws. No program. -/
import Derived.RegionTactic
import Derived.Deep.RegionWith
import Derived.Deep.RegionHeld
import Derived.WalkKit
namespace Go.Proofs.YtbemljgcclaopaaGreatDoor
open Go.RowKit
section
variable {P : Program} {md : Region.Mode} {ops : Array Oper} {Q : Exit → Act → World → Prop} {fuel : Nat} {listed : Array Bool} {a : Act} {w : World}
/-- An operation that yields in whatever world, taken first. -/
theorem any_take (i : Nat) {oi : Oper} (d : Tmp) (v : Value) (hi : ops[i]? = some oi) (hd : oi.dst = some d)
    (hs : Region.noSelect ops = true) (hf : Region.free md ops listed i = true) (hr : (Region.ready md ops listed).contains i = true)
    (hQ : ∀ c a w, Q (.panic c) (a.put (some d) v) w → Q (.panic c) a w) (hw : Region.wanted oi (yielded ops a.tmps) = true) (hy : ∀ w, (execOp a.eval oi).run P w = .ok (.value v) w)
    (h : wpAny P md ops Q fuel (listed.setIfInBounds i true) (a.put (some d) v) w) : wpAny P md ops Q (fuel + 1) listed a w := by
  rw [← hd] at hQ h
  exact wpAny_take hi hs hf hr hQ (.inl ⟨hw, hy⟩) h
/-- An operation that its guard passes over, taken first. -/
theorem any_skip (i : Nat) {oi : Oper} (d : Tmp) (hi : ops[i]? = some oi) (hd : oi.dst = some d)
    (hs : Region.noSelect ops = true) (hf : Region.free md ops listed i = true) (hr : (Region.ready md ops listed).contains i = true)
    (hQ : ∀ c a w, Q (.panic c) (a.put (some d) undef) w → Q (.panic c) a w) (hw : Region.wanted oi (yielded ops a.tmps) = false)
    (h : wpAny P md ops Q fuel (listed.setIfInBounds i true) (a.put (some d) undef) w) : wpAny P md ops Q (fuel + 1) listed a w := by
  rw [← hd] at hQ h
  exact wpAny_take hi hs hf hr hQ (.inr ⟨hw, rfl⟩) h
/-- The one operation that may come up. -/
theorem any_one (i : Nat) {oi : Oper} (d : Tmp) (v : Value) (w' : World) (hr : Region.ready md ops listed = [i]) (hi : ops[i]? = some oi) (hd : oi.dst = some d) (hw : Region.wanted oi (yielded ops a.tmps) = true)
    (hrun : (execOp a.eval oi).run P w = .ok (.value v) w') (h : wpAny P md ops Q fuel (listed.setIfInBounds i true) (a.put (some d) v) w') : wpAny P md ops Q (fuel + 1) listed a w :=
  wpAny_ready hr (by simp) (AllReady.cons hi (fun K hK => by rw [if_pos hw]; unfold Oper.wp; rw [hrun, Oper.upon_value, hd]; exact hK _ _ h) AllReady.nil)
/-- The one operation that may come up: a store. -/
theorem any_do (i : Nat) {oi : Oper} (w' : World) (hr : Region.ready md ops listed = [i]) (hi : ops[i]? = some oi) (hd : oi.dst = none) (hw : Region.wanted oi (yielded ops a.tmps) = true)
    (hrun : (execOp a.eval oi).run P w = .ok .skip w') (h : wpAny P md ops Q fuel (listed.setIfInBounds i true) a w') : wpAny P md ops Q (fuel + 1) listed a w :=
  wpAny_ready hr (by simp) (AllReady.cons hi (fun K hK => by rw [if_pos hw]; unfold Oper.wp; rw [hrun, Oper.upon_skip, hd]; exact hK _ _ h) AllReady.nil)
/-- The one operation that may come up: a call of a Go function. -/
theorem any_call (i : Nat) {oi : Oper} (d : Tmp) (f : FuncId) (args : Array Value) (R : Value → World → Prop) (hr : Region.ready md ops listed = [i]) (hi : ops[i]? = some oi) (hd : oi.dst = some d) (hw : Region.wanted oi (yielded ops a.tmps) = true)
    (hrun : (execOp a.eval oi).run P w = .ok (.enter f args) w) (hc : Calls P f args w fun e w' => ∃ v, e = .returned v ∧ R v w')
    (h : ∀ v w', R v w' → wpAny P md ops Q fuel (listed.setIfInBounds i true) (a.put (some d) v) w') : wpAny P md ops Q (fuel + 1) listed a w :=
  wpAny_ready hr (by simp) (AllReady.cons hi (fun K hK => by
    rw [if_pos hw]; unfold Oper.wp; rw [hrun, Oper.upon_enter, hd]
    refine hc.mono ?_
    rintro e w' ⟨v, rfl, hR⟩
    exact hK _ _ (h v w' hR)) AllReady.nil)
/-- Two operations may come up; both only read. -/
theorem any_two (i j : Nat) {oi oj : Oper} (di dj : Tmp) (vi vj : Value) (hr : Region.ready md ops listed = [i, j]) (hi : ops[i]? = some oi) (hj : ops[j]? = some oj) (hdi : oi.dst = some di) (hdj : oj.dst = some dj)
    (hri : Region.ready md ops (listed.setIfInBounds i true) = [j]) (hrj : Region.ready md ops (listed.setIfInBounds j true) = [i])
    (hwi : Region.wanted oi (yielded ops a.tmps) = true) (hwj : Region.wanted oj (yielded ops a.tmps) = true)
    (hwi' : Region.wanted oi (yielded ops (a.put (some dj) vj).tmps) = true) (hwj' : Region.wanted oj (yielded ops (a.put (some di) vi).tmps) = true)
    (hruni : (execOp a.eval oi).run P w = .ok (.value vi) w) (hrunj : (execOp a.eval oj).run P w = .ok (.value vj) w)
    (hruni' : (execOp (a.put (some dj) vj).eval oi).run P w = .ok (.value vi) w) (hrunj' : (execOp (a.put (some di) vi).eval oj).run P w = .ok (.value vj) w)
    (hl : (listed.setIfInBounds j true).setIfInBounds i true = (listed.setIfInBounds i true).setIfInBounds j true) (ha : (a.put (some dj) vj).put (some di) vi = (a.put (some di) vi).put (some dj) vj)
    (h : wpAny P md ops Q fuel ((listed.setIfInBounds i true).setIfInBounds j true) ((a.put (some di) vi).put (some dj) vj) w) : wpAny P md ops Q (fuel + 2) listed a w :=
  wpAny_ready hr (by simp) (AllReady.cons hi (fun K hK => by
    rw [if_pos hwi]; unfold Oper.wp; rw [hruni, Oper.upon_value, hdi]
    exact hK _ _ (any_one j dj vj w hri hj hdj hwj' hrunj' h)) (AllReady.cons hj (fun K hK => by
    rw [if_pos hwj]; unfold Oper.wp; rw [hrunj, Oper.upon_value, hdj]
    exact hK _ _ (any_one i di vi w hrj hi hdi hwi' hruni' (by rw [hl, ha]; exact h))) AllReady.nil))
/-- A read and a call may come up, in either order. -/
theorem any_read_call (i j : Nat) {oi oj : Oper} (di dj : Tmp) (vi : Value) (f : FuncId) (args : Array Value) (R : Value → World → Prop) (hr : Region.ready md ops listed = [i, j]) (hi : ops[i]? = some oi) (hj : ops[j]? = some oj) (hdi : oi.dst = some di) (hdj : oj.dst = some dj)
    (hri : Region.ready md ops (listed.setIfInBounds i true) = [j]) (hrj : Region.ready md ops (listed.setIfInBounds j true) = [i])
    (hwi : Region.wanted oi (yielded ops a.tmps) = true) (hwj : Region.wanted oj (yielded ops a.tmps) = true)
    (hwi' : ∀ v, Region.wanted oi (yielded ops (a.put (some dj) v).tmps) = true) (hwj' : Region.wanted oj (yielded ops (a.put (some di) vi).tmps) = true)
    (hruni : (execOp a.eval oi).run P w = .ok (.value vi) w) (hruni' : ∀ v w', R v w' → (execOp (a.put (some dj) v).eval oi).run P w' = .ok (.value vi) w')
    (hrunj : (execOp a.eval oj).run P w = .ok (.enter f args) w) (hrunj' : (execOp (a.put (some di) vi).eval oj).run P w = .ok (.enter f args) w)
    (hc : Calls P f args w fun e w' => ∃ v, e = .returned v ∧ R v w')
    (hl : (listed.setIfInBounds j true).setIfInBounds i true = (listed.setIfInBounds i true).setIfInBounds j true) (ha : ∀ v, (a.put (some dj) v).put (some di) vi = (a.put (some di) vi).put (some dj) v)
    (h : ∀ v w', R v w' → wpAny P md ops Q fuel ((listed.setIfInBounds i true).setIfInBounds j true) ((a.put (some di) vi).put (some dj) v) w') : wpAny P md ops Q (fuel + 2) listed a w :=
  wpAny_ready hr (by simp) (AllReady.cons hi (fun K hK => by
    rw [if_pos hwi]; unfold Oper.wp; rw [hruni, Oper.upon_value, hdi]
    exact hK _ _ (any_call j dj f args R hri hj hdj hwj' hrunj' hc h)) (AllReady.cons hj (fun K hK => by
    rw [if_pos hwj]; unfold Oper.wp; rw [hrunj, Oper.upon_enter, hdj]
    refine hc.mono ?_
    rintro e w' ⟨v, rfl, hR⟩
    exact hK _ _ (any_one i di vi w' hrj hi hdi (hwi' v) (hruni' v w' hR) (by rw [hl, ha]; exact h v w' hR))) AllReady.nil))
theorem any_end (hr : Region.ready md ops listed = []) (h : Q .normal a w) : wpAny P md ops Q fuel listed a w := wpAny_done hr h fuel
theorem any_start {id : Nat} (hm : P.follows .mixedOrders = true) (h : wpAny P .any ops Q ops.size (Array.replicate ops.size false) a w.drew) : (Code.region id ops true).wp P Q a w := wp_region_any hm h
end
/- The same while a fact on memory holds: loads are taken first too. -/
section
variable {P : Program} {ops : Array Oper} {Q : Exit → Act → World → Prop} {fuel : Nat} {listed : Array Bool} {a : Act} {w : World} {S : World → Prop}
/-- An operation that yields in every world that meets S, taken first. -/
theorem held_take (i : Nat) {oi : Oper} (d : Tmp) (v : Value) (hi : ops[i]? = some oi) (hd : oi.dst = some d)
    (hs : Region.noSelect ops = true) (hf : Region.free .any ops listed i = true) (hr : (Region.ready .any ops listed).contains i = true)
    (hQ : ∀ c a w, Q (.panic c) (a.put (some d) v) w → Q (.panic c) a w) (hw : Region.wanted oi (yielded ops a.tmps) = true) (hS : S w) (hy : ∀ w, S w → (execOp a.eval oi).run P w = .ok (.value v) w)
    (h : wpAnyH P .any ops Q S fuel (listed.setIfInBounds i true) (a.put (some d) v) w) : wpAnyH P .any ops Q S (fuel + 1) listed a w := by
  rw [← hd] at hQ h
  exact wpAnyH_take hi hs hf hr hQ (.inl ⟨hw, hy⟩) hS h
/-- An operation that its guard passes over, taken first. -/
theorem held_skip (i : Nat) {oi : Oper} (d : Tmp) (hi : ops[i]? = some oi) (hd : oi.dst = some d)
    (hs : Region.noSelect ops = true) (hf : Region.free .any ops listed i = true) (hr : (Region.ready .any ops listed).contains i = true)
    (hQ : ∀ c a w, Q (.panic c) (a.put (some d) undef) w → Q (.panic c) a w) (hw : Region.wanted oi (yielded ops a.tmps) = false) (hS : S w)
    (h : wpAnyH P .any ops Q S fuel (listed.setIfInBounds i true) (a.put (some d) undef) w) : wpAnyH P .any ops Q S (fuel + 1) listed a w := by
  rw [← hd] at hQ h
  exact wpAnyH_take hi hs hf hr hQ (.inr ⟨hw, rfl⟩) hS h
/-- The one operation that may come up. -/
theorem held_one (i : Nat) {oi : Oper} (d : Tmp) (v : Value) (w' : World) (hr : Region.ready .any ops listed = [i]) (hi : ops[i]? = some oi) (hd : oi.dst = some d) (hw : Region.wanted oi (yielded ops a.tmps) = true)
    (hrun : (execOp a.eval oi).run P w = .ok (.value v) w') (hS : S w') (h : wpAnyH P .any ops Q S fuel (listed.setIfInBounds i true) (a.put (some d) v) w') : wpAnyH P .any ops Q S (fuel + 1) listed a w :=
  wpAnyH_ready hr (by simp) (AllReadyH.cons hi (fun K hK => by rw [if_pos hw]; unfold Oper.wp; rw [hrun, Oper.upon_value, hd]; exact hK.out _ _ hS (fun _ => h)) AllReadyH.nil)
/-- The one operation that may come up: a store. -/
theorem held_do (i : Nat) {oi : Oper} (w' : World) (hr : Region.ready .any ops listed = [i]) (hi : ops[i]? = some oi) (hd : oi.dst = none) (hw : Region.wanted oi (yielded ops a.tmps) = true)
    (hrun : (execOp a.eval oi).run P w = .ok .skip w') (hS : S w') (h : wpAnyH P .any ops Q S fuel (listed.setIfInBounds i true) a w') : wpAnyH P .any ops Q S (fuel + 1) listed a w :=
  wpAnyH_ready hr (by simp) (AllReadyH.cons hi (fun K hK => by rw [if_pos hw]; unfold Oper.wp; rw [hrun, Oper.upon_skip, hd]; exact hK.out _ _ hS (fun _ => h)) AllReadyH.nil)
/-- The one operation that may come up: a call of a Go function. -/
theorem held_call (i : Nat) {oi : Oper} (d : Tmp) (f : FuncId) (args : Array Value) (R : Value → World → Prop) (hr : Region.ready .any ops listed = [i]) (hi : ops[i]? = some oi) (hd : oi.dst = some d) (hw : Region.wanted oi (yielded ops a.tmps) = true)
    (hrun : (execOp a.eval oi).run P w = .ok (.enter f args) w) (hc : Calls P f args w fun e w' => ∃ v, e = .returned v ∧ R v w')
    (h : ∀ v w', R v w' → S w' ∧ wpAnyH P .any ops Q S fuel (listed.setIfInBounds i true) (a.put (some d) v) w') : wpAnyH P .any ops Q S (fuel + 1) listed a w :=
  wpAnyH_ready hr (by simp) (AllReadyH.cons hi (fun K hK => by
    rw [if_pos hw]; unfold Oper.wp; rw [hrun, Oper.upon_enter, hd]
    refine hc.mono ?_
    rintro e w' ⟨v, rfl, hR⟩
    exact hK.out _ _ (h v w' hR).1 (fun _ => (h v w' hR).2)) AllReadyH.nil)
theorem held_end (hr : Region.ready .any ops listed = []) (h : Q .normal a w) : wpAnyH P .any ops Q S fuel listed a w := wpAnyH_done hr h fuel
theorem held_start (S : World → Prop) {id : Nat} (hm : P.follows .mixedOrders = true) (h : wpAnyH P .any ops Q S ops.size (Array.replicate ops.size false) a w.drew) : (Code.region id ops true).wp P Q a w := wp_region_held hm h
end
end Go.Proofs.YtbemljgcclaopaaGreatDoor
