/- Equality of two arrays of numbers, and of what it says. -/
import Derived.ChangeKeysEq
import Derived.Test.YtbemljgcclaopaaGreatDoorB2
namespace Go.Proofs.YtbemljgcclaopaaGreatDoor
open Go.RowKit
theorem run_eqItems_ints {P : Program} (w : World) (d : Nat) {e : TypeId} {k k' : IntKind} (he : P.plainKey e = true) (hu : P.underlying e = some (.int k')) (l m : List Int) : ∀ is : List Nat, (∀ i ∈ is, i < l.length ∧ i < m.length) →
    (Op.eqItems (d + 1) e 1 (Ints k l).toArray (Ints k m).toArray is).run P w = .ok (is.all fun i => l[i]?.getD 0 == m[i]?.getD 0) w
  | [], _ => by simp [Op.eqItems]
  | i :: is, h => by
    have hi := h i (by simp)
    have h1 : (part e (Ints k l).toArray (i * 1)).run P w = .ok (.int k (l[i]?.getD 0)) w := run_part_plain w he (by simp [Ints, hi.1])
    have h2 : (part e (Ints k m).toArray (i * 1)).run P w = .ok (.int k (m[i]?.getD 0)) w := run_part_plain w he (by simp [Ints, hi.2])
    have ih := run_eqItems_ints w d (k := k) he hu l m is (fun j hj => h j (by simp [hj]))
    simp only [Op.eqItems, Sem.run_bind, h1, h2, Result.andThen_ok, run_equalIn_int w d e k k' _ _ hu, List.all_cons]
    by_cases hq : l[i]?.getD 0 = m[i]?.getD 0
    · simp [hq, ih]
    · simp [hq]
theorem all_ints {l m : List Int} {n : Nat} (hl : l.length = n) (hm : m.length = n) : ((List.range n).all fun i => l[i]?.getD 0 == m[i]?.getD 0) = decide (l = m) := by
  rw [Bool.eq_iff_iff]
  simp only [List.all_eq_true, List.mem_range, beq_iff_eq, decide_eq_true_eq]
  constructor
  · intro h
    apply List.ext_getElem (by omega)
    intro i h1 h2
    have := h i (by omega)
    simpa [h1, h2] using this
  · rintro rfl i _; rfl
theorem run_eqArr {P : Program} (w : World) (d : Nat) {t e : TypeId} {n : Nat} {i : TypeInfo} {k k' : IntKind} (ht : P.underlying t = some (.array n e)) (hi : P.info? e = some i) (hs : i.size = 1) (he : P.plainKey e = true) (hu : P.underlying e = some (.int k')) {l m : List Int} (hl : l.length = n) (hm : m.length = n) :
    (Op.equalIn (d + 2) t (.agg (Ints k l).toArray) (.agg (Ints k m).toArray)).run P w = .ok (decide (l = m)) w := by
  have hc : P.cellsOf e = 1 := by simp [Program.cellsOf, hi, hs]
  rw [show d + 2 = (d + 1) + 1 from rfl, run_equalIn_array w (d + 1) _ _ ht hi, hc, run_eqItems_ints w d he hu l m _ (fun j hj => by rw [List.mem_range] at hj; omega), all_ints hl hm]
end Go.Proofs.YtbemljgcclaopaaGreatDoor
