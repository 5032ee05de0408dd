/- Maps as lists of pairs: what a lookup, an update, len say. -/
import Derived.Laws.StructEq
import Derived.ChangeKeysEq
import Derived.MapKept
import Derived.Test.YtbemljgcclaopaaGreatDoorK4
namespace Go.Proofs.YtbemljgcclaopaaGreatDoor
open Go.RowKit
def fnd {α : Type} [DecidableEq α] (x : α) : List α → List MapEntry → Nat → Option (Nat × Value)
  | k :: ks, e :: es, i => if x = k then some (i, e.val) else fnd x ks es (i + 1)
  | _, _, _ => none
structure KeyOk (P : Program) (kt : TypeId) {α : Type} [DecidableEq α] (enc : α → Value) : Prop where
  check : ∀ (em : Bool) (x : α) (w : World), (Instr.checkKey em 10000 kt (enc x)).run P w = .ok () w
  find : ∀ (x : α) (ks : List α) (es : List MapEntry) (w : World), es.map (·.key) = ks.map enc → (Instr.findKey kt (enc x) es).run P w = .ok (fnd x ks es 0) w
  stays : ∀ (x : α) (w : World), (Instr.keyThatStays (enc x) (enc x)).run P w = .ok (enc x) w
  inj : ∀ x y : α, enc x = enc y → x = y
/-- Block m holds the map l. -/
def MapIs {α β : Type} (enc : α → Value) (val : β → Value) (w : World) (m : Nat) (l : List (α × β)) : Prop :=
  ∃ es clock, w.heap[m]? = some (.map es clock) ∧ es.toList.map (fun e => (e.key, e.val)) = (l.map fun p => (enc p.1, val p.2)) ∧ MapKept.Stamped es clock
def lookA {α β : Type} [DecidableEq α] (x : α) : List (α × β) → Option β
  | [] => none
  | p :: l => if x = p.1 then some p.2 else lookA x l
def setA {α β : Type} [DecidableEq α] (x : α) (v : β) : List (α × β) → List (α × β)
  | [] => [(x, v)]
  | p :: l => if x = p.1 then (p.1, v) :: l else p :: setA x v l
theorem lookA_none {α β : Type} [DecidableEq α] {x : α} : ∀ {l : List (α × β)}, lookA x l = none → ∀ p ∈ l, x ≠ p.1
  | [], _, p, hp => by cases hp
  | q :: l, h, p, hp => by
    unfold lookA at h
    split at h
    · cases h
    · rename_i hx
      rcases List.mem_cons.1 hp with rfl | hp
      · exact hx
      · exact lookA_none h p hp
section
variable {P : Program} {α β : Type} {enc : α → Value} {val : β → Value} {w : World} {m : Nat}
theorem MapIs.keys {es : Array MapEntry} {l : List (α × β)} (h : es.toList.map (fun e => (e.key, e.val)) = l.map fun p => (enc p.1, val p.2)) : es.toList.map (·.key) = (l.map (·.1)).map enc := by
  have := congrArg (List.map Prod.fst) h
  simpa [List.map_map, Function.comp_def] using this
end
section
variable {P : Program} {α β : Type} [DecidableEq α] {enc : α → Value} {val : β → Value} {w : World} {m : Nat}
theorem fnd_look (x : α) : ∀ (l : List (α × β)) (es : List MapEntry) (i : Nat), es.map (fun e => (e.key, e.val)) = l.map (fun p => (enc p.1, val p.2)) → (fnd x (l.map (·.1)) es i).map (·.2) = (lookA x l).map val
  | [], [], _, _ => rfl
  | [], e :: es, _, h => by simp at h
  | p :: l, [], _, h => by simp at h
  | p :: l, e :: es, i, h => by
    simp only [List.map_cons, List.cons.injEq, Prod.mk.injEq] at h
    simp only [List.map_cons, fnd, lookA]
    split
    · simp [h.1.2]
    · exact fnd_look x l es (i + 1) h.2
theorem run_lookup_is {mt kt et : TypeId} (K : KeyOk P kt enc) (hm : P.underlying mt = some (.map kt et)) (l : List (α × β)) (h : MapIs enc val w m l) (x : α) (z : Value) (hz : (zeroValue et).run P w = .ok z w) :
    (Instr.lookup mt (.map (some m)) (enc x) false).run P w = .ok (((lookA x l).map val).getD z) w := by
  obtain ⟨es, clock, hh, he, hst⟩ := h
  have hf := K.find x (l.map (·.1)) es.toList w (MapIs.keys he)
  have hl := fnd_look (enc := enc) (val := val) x l es.toList 0 he
  have hg : (getObj m).run P w = .ok (.map es clock) w := by simp [getObj, Sem.run, hh]
  unfold Instr.lookup
  simp only [Sem.run_bind, run_underlying hm, Result.andThen_ok, hg, Sem.run_pure, K.check, hf]
  rw [← hl]
  cases fnd x (l.map (·.1)) es.toList 0 with
  | none => simp [hz]
  | some r => simp
theorem putObj_at {w : World} {m : Nat} {o0 : Obj} (h : w.heap[m]? = some o0) (o : Obj) : (w.putObj m o).heap[m]? = some o := World.putObj_heap_same (Array.getElem?_eq_some_iff.1 h).1
theorem fnd_set (x : α) (v : β) : ∀ (l : List (α × β)) (es : List MapEntry) (i : Nat), es.map (fun e => (e.key, e.val)) = l.map (fun p => (enc p.1, val p.2)) →
    (fnd x (l.map (·.1)) es i = none ∧ lookA x l = none ∧ setA x v l = l ++ [(x, v)]) ∨
    (∃ j u, fnd x (l.map (·.1)) es i = some (i + j, u) ∧ (es[j]?).map (·.key) = some (enc x) ∧ (es.modify j fun e => { e with key := enc x, val := val v }).map (fun e => (e.key, e.val)) = (setA x v l).map (fun p => (enc p.1, val p.2)))
  | [], [], _, _ => .inl ⟨rfl, rfl, rfl⟩
  | [], e :: es, _, h => by simp at h
  | p :: l, [], _, h => by simp at h
  | p :: l, e :: es, i, h => by
    simp only [List.map_cons, List.cons.injEq, Prod.mk.injEq] at h
    simp only [List.map_cons, fnd, lookA, setA]
    by_cases hx : x = p.1
    · right
      refine ⟨0, e.val, by rw [if_pos hx]; rfl, by simp [h.1.1, hx], ?_⟩
      rw [if_pos hx]
      simp [h.2, hx]
    · rw [if_neg hx, if_neg hx, if_neg hx]
      rcases fnd_set x v l es (i + 1) h.2 with ⟨h1, h2, h3⟩ | ⟨j, u, h1, h2, h3⟩
      · exact .inl ⟨h1, h2, by rw [h3]; rfl⟩
      · right
        refine ⟨j + 1, u, by rw [h1]; congr 2; omega, by simpa using h2, ?_⟩
        simp only [List.modify_succ_cons, List.map_cons, h3, h.1.1, h.1.2]
theorem run_mapUpdate_is {mt kt et : TypeId} (K : KeyOk P kt enc) (hm : P.underlying mt = some (.map kt et)) (l : List (α × β)) (h : MapIs enc val w m l) (x : α) (v : β) :
    ∃ o, (Instr.mapUpdate mt (.map (some m)) (enc x) (val v)).run P w = .ok () (w.putObj m o) ∧ MapIs enc val (w.putObj m o) m (setA x v l) := by
  obtain ⟨es, clock, hh, he, hst⟩ := h
  have hf := K.find x (l.map (·.1)) es.toList w (MapIs.keys he)
  have hg : (getObj m).run P w = .ok (.map es clock) w := by simp [getObj, Sem.run, hh]
  have hs : ∀ o, (setObj m o).run P w = .ok () (w.putObj m o) := fun o => by simp [setObj, Sem.run, hh, World.putObj]
  unfold Instr.mapUpdate
  simp only [Sem.run_bind, run_underlying hm, Result.andThen_ok, hg, K.check, hf]
  rcases fnd_set (enc := enc) (val := val) x v l es.toList 0 he with ⟨h1, h2, h3⟩ | ⟨j, u, h1, h2, h3⟩
  · rw [h1]
    refine ⟨_, hs _, _, _, putObj_at hh _, ?_, ?_⟩
    · rw [h3]; simp [he]
    · refine MapKept.stamped_push hst (fun e hm hk => ?_)
      have : (e.key, e.val) ∈ l.map fun p => (enc p.1, val p.2) := by rw [← he]; exact List.mem_map.2 ⟨e, hm, rfl⟩
      obtain ⟨p, hp, hpe⟩ := List.mem_map.1 this
      simp only [Prod.mk.injEq] at hpe
      exact lookA_none h2 p hp (K.inj _ _ (hpe.1.trans hk)).symm
  · rw [h1]
    have h2' : (es[0 + j]?).map (·.key) = some (enc x) := by simpa using h2
    simp only [h2', Option.getD_some, Sem.run_bind, K.stays, Result.andThen_ok]
    refine ⟨_, hs _, _, _, putObj_at hh _, ?_, MapKept.stamped_modify hst _ _ (fun _ _ => rfl) (fun e _ hj => ?_)⟩
    · rw [← h3]; simp
    · rw [hj] at h2'; simpa using h2'.symm
end
section
variable {P : Program} {α β : Type} {enc : α → Value} {val : β → Value} {w : World} {m : Nat}
theorem run_mapLen_is (l : List (α × β)) (h : MapIs enc val w m l) : ∃ es clock, w.heap[m]? = some (.map es clock) ∧ es.size = l.length := by
  obtain ⟨es, clock, hh, he, _⟩ := h
  exact ⟨es, clock, hh, by have := congrArg List.length he; simpa using this⟩
theorem run_makeMap_is (mt : TypeId) (w : World) (enc : α → Value) (val : β → Value) : ∃ o, (Instr.makeMap mt none).run P w = .ok (.map (some w.heap.size)) (w.alloc o) ∧ MapIs enc val (w.alloc o) w.heap.size ([] : List (α × β)) :=
  ⟨.map #[] 0, by simp [Instr.makeMap, newObj, Sem.run], #[], 0, World.alloc_heap_new w _, rfl, MapKept.stamped_empty 0⟩
end
theorem beq_bytes (a b : ByteArray) : (a == b) = decide (a = b) := by
  obtain ⟨⟨x⟩⟩ := a
  obtain ⟨⟨y⟩⟩ := b
  show ((⟨x⟩ : Array UInt8) == ⟨y⟩) = _
  rw [Bool.eq_iff_iff]; simp
theorem keyOk_str {P : Program} {kt : TypeId} (hk : P.underlying kt = some .string) : KeyOk P kt Value.string where
  inj x y h := by cases h; rfl
  check em x w := by
    have : ∀ n, (Instr.checkKey em (n + 1) kt (.string x)).run P w = .ok () w := fun n => by simp [Instr.checkKey, run_underlying hk]
    exact this 9999
  find x ks es w h := by
    have : ∀ (ks : List ByteArray) (es : List MapEntry) (i : Nat), es.map (·.key) = ks.map Value.string → Instr.findNow .string (.string x) es i = some (fnd x ks es i) := by
      intro ks
      induction ks with
      | nil => intro es i h; cases es with
        | nil => rfl
        | cons e es => simp at h
      | cons k ks ih => intro es i h; cases es with
        | nil => simp at h
        | cons e es =>
          simp only [List.map_cons, List.cons.injEq] at h
          simp only [Instr.findNow, h.1, Instr.sameNow, fnd]
          by_cases hx : x = k
          · subst hx; rw [beq_bytes]; simp
          · rw [beq_bytes, decide_eq_false hx]
            simp only [if_neg hx]
            exact ih es (i + 1) h.2
    unfold Instr.findKey
    simp only [Sem.run_bind, run_underlying hk, Result.andThen_ok, this ks es 0 h, Sem.run_pure]
  stays x w := by
    have : ∀ n, Instr.sameBits (n + 1) (.string x) (.string x) = true := fun n => by simp [Instr.sameBits, beq_bytes]
    simp [Instr.keyThatStays, this 9999]
end Go.Proofs.YtbemljgcclaopaaGreatDoor
