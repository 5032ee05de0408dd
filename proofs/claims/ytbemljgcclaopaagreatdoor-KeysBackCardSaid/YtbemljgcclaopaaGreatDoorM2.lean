/- Ranging over a map told as a list of pairs: what is still to come is a list. -/
import Derived.Maps.RangeWalk
import Derived.Test.YtbemljgcclaopaaGreatDoorM1
namespace Go.Proofs.YtbemljgcclaopaaGreatDoor
open Go.RowKit Go.MapKept Go.ChangeMaps
/-- Block r is an iterator over the map l of block m; todo has still to come. -/
def RangeIs {α β : Type} (enc : α → Value) (val : β → Value) (w : World) (m r : Nat) (l todo : List (α × β)) : Prop :=
  ∃ es clock since seen c0, w.heap[m]? = some (.map es clock) ∧ es.toList.map (fun e => (e.key, e.val)) = (l.map fun p => (enc p.1, val p.2)) ∧ MapKept.Stamped es clock ∧
    w.heap[r]? = some (.mapIter (some m) since seen c0) ∧ (∀ x ∈ es.toList, x.born < since) ∧ (leftOf es seen).toList.map (fun e => (e.key, e.val)) = (todo.map fun p => (enc p.1, val p.2)) ∧ since ≤ c0 ∧ since ≤ clock
section
variable {P : Program} {α β : Type} {enc : α → Value} {val : β → Value} {w : World} {m r : Nat} {l todo : List (α × β)}
theorem RangeIs.isMap (h : RangeIs enc val w m r l todo) : MapIs enc val w m l := by
  obtain ⟨es, clock, _, _, _, h1, h2, h3, _⟩ := h
  exact ⟨es, clock, h1, h2, h3⟩
theorem RangeIs.lt (h : RangeIs enc val w m r l todo) : r < w.heap.size ∧ m < w.heap.size := by
  obtain ⟨es, clock, _, _, _, h1, _, _, h4, _⟩ := h
  exact ⟨(Array.getElem?_eq_some_iff.1 h4).1, (Array.getElem?_eq_some_iff.1 h1).1⟩
theorem RangeIs.ne (h : RangeIs enc val w m r l todo) : r ≠ m := by
  obtain ⟨es, clock, _, _, _, h1, _, _, h4, _⟩ := h
  intro e; rw [e, h1] at h4; cases h4
theorem RangeIs.of_blocks {w' : World} (h : RangeIs enc val w m r l todo) (hm : w'.heap[m]? = w.heap[m]?) (hr : w'.heap[r]? = w.heap[r]?) : RangeIs enc val w' m r l todo := by
  obtain ⟨es, clock, since, seen, c0, h1, h2, h3, h4, rest⟩ := h
  exact ⟨es, clock, since, seen, c0, hm.trans h1, h2, h3, hr.trans h4, rest⟩
theorem run_range_is {mt kt et : TypeId} (hm : P.underlying mt = some (.map kt et)) (h : MapIs enc val w m l) :
    ∃ o, (Instr.range mt (.map (some m))).run P w = .ok (.pointer (some ⟨w.heap.size, 0, none⟩)) (w.alloc o) ∧ RangeIs enc val (w.alloc o) m w.heap.size l l := by
  obtain ⟨es, clock, hh, he, hst⟩ := h
  have hlt := (Array.getElem?_eq_some_iff.1 hh).1
  refine ⟨_, run_range_map w mt kt et m es clock hm hh, es, clock, clock, #[], clock, ((MapKept.heap_alloc w _).2 m hlt).trans hh, he, hst, (MapKept.heap_alloc w _).1, hst.1, ?_, Nat.le_refl _, Nat.le_refl _⟩
  have : leftOf es #[] = es := by unfold leftOf; simp
  rw [this]; exact he
theorem filter_split {es : List MapEntry} (hn : (es.map (·.born)).Nodup) {A B : List MapEntry} {e : MapEntry} (h : es = A ++ e :: B) : es.filter (fun x => !(x.born == e.born)) = A ++ B := by
  subst h
  simp only [List.map_append, List.map_cons, List.nodup_append, List.nodup_cons, List.mem_map, List.mem_cons] at hn
  obtain ⟨_, ⟨hB, _⟩, hA⟩ := hn
  rw [List.filter_append, List.filter_cons]
  have e1 : A.filter (fun x => !(x.born == e.born)) = A := by
    rw [List.filter_eq_self]; intro x hx
    have := hA x.born ⟨x, hx, rfl⟩ e.born (.inl rfl)
    simpa using this
  have e2 : B.filter (fun x => !(x.born == e.born)) = B := by
    rw [List.filter_eq_self]; intro x hx
    have : x.born ≠ e.born := fun h => hB ⟨x, hx, h⟩
    simpa using this
  rw [e1, e2]; simp
/-- The step: nothing is left, or some pair of those to come. -/
theorem RangeIs.next (h : RangeIs enc val w m r l todo) (ty : TypeId) :
    (todo = [] ∧ (Instr.next (.pointer (some ⟨r, 0, none⟩)) false ty).run P w = .ok (.tuple #[.bool false]) w) ∨
    ∃ (x : α) (v : β) (t1 t2 : List (α × β)) (w1 : World) (o : Obj), todo = t1 ++ (x, v) :: t2 ∧ (w1 = w ∨ w1 = w.drew) ∧ (Instr.next (.pointer (some ⟨r, 0, none⟩)) false ty).run P w = .ok (.tuple #[.bool true, enc x, val v]) (w1.putObj r o) ∧
      RangeIs enc val (w1.putObj r o) m r l (t1 ++ t2) ∧ (Instr.entry (.pointer (some ⟨r, 0, none⟩))).run P (w1.putObj r o) = .ok (.tuple #[enc x, val v]) (w1.putObj r o) := by
  have hne := h.ne
  obtain ⟨es, clock, since, seen, c0, h1, h2, h3, h4, h5, h6, h7, h8⟩ := h
  rcases run_next_at (P := P) w ty r m since c0 seen es clock h4 h1 h5 h7 with ⟨h0, hrun⟩ | ⟨e, he, w1, hal, hrun⟩
  · refine .inl ⟨?_, hrun⟩
    have : leftOf es seen = #[] := Array.eq_empty_of_size_eq_zero h0
    rw [this] at h6
    simpa using h6.symm
  · right
    obtain ⟨A, B, hAB⟩ := List.append_of_mem he
    have h6' := h6
    rw [hAB, List.map_append, List.map_cons] at h6'
    obtain ⟨t1, t2, ht, hA, hB⟩ := List.append_eq_map_iff.1 h6'
    cases t2 with
    | nil => simp at hB
    | cons p t2 =>
      simp only [List.map_cons, List.cons.injEq, Prod.mk.injEq] at hB
      obtain ⟨⟨hk, hv⟩, hB⟩ := hB
      have hem : e ∈ es.toList := (mem_left he).1
      have hb1 : w1.heap[m]? = some (.map es clock) := by rcases hal with rfl | rfl <;> exact h1
      have hr1 : w1.heap[r]? = some (.mapIter (some m) since seen c0) := by rcases hal with rfl | rfl <;> exact h4
      have hset := heap_set (o' := .mapIter (some m) since (seen.push e.born) clock) hr1
      have hb' : (ChangeMaps.setBlock w1 r (.mapIter (some m) since (seen.push e.born) clock)).heap[m]? = some (.map es clock) := (hset.2 m (fun e1 => hne e1.symm)).trans hb1
      refine ⟨p.1, p.2, t1, t2, w1, .mapIter (some m) since (seen.push e.born) clock, ht, hal, ?_, ?_, ?_⟩
      · rw [hk, hv]; exact hrun
      · refine ⟨es, clock, since, seen.push e.born, clock, hb', h2, h3, hset.1, h5, ?_, h8, h8⟩
        have hl : (leftOf es (seen.push e.born)).toList = (leftOf es seen).toList.filter (fun x => !(x.born == e.born)) := by
          unfold leftOf
          simp only [Array.toList_filter, List.filter_filter]
          congr 1; funext x
          rw [contains_push]
          cases seen.contains x.born <;> cases (x.born == e.born) <;> rfl
        have hn : ((leftOf es seen).toList.map (·.born)).Nodup := by
          unfold leftOf
          rw [Array.toList_filter]
          exact (List.filter_sublist.map _).nodup h3.2.1
        rw [hl, filter_split hn hAB, List.map_append, List.map_append, hA, hB]
      · have := run_entry_at (P := P) _ r m since seen es clock e hset.1 hb' hem h3.2.1
        rw [hk, hv]; exact this
/-- 'range m' at the operation. -/
theorem wpList_range_is (w : World) {ops : Array Oper} {rest : List Oper} {o : Oper} {a : Act} {Q : Exit → Act → World → Prop} (hg : o.guard = none) (x : Operand) (t : TypeId) (hop : o.op = Op.range t x) {k e : TypeId} (ht : P.underlying t = some (.map k e)) (m : Nat) (l : List (α × β)) (hm : a.eval x = .map (some m)) (h : MapIs enc val w m l)
    (hK : ∀ ob, RangeIs enc val (w.alloc ob) m w.heap.size l l → wpList P ops Q rest (a.put o.dst (.pointer (some ⟨w.heap.size, 0, none⟩))) (w.alloc ob)) :
    wpList P ops Q (o :: rest) a w := by
  refine wpList_plain hg fun K' hK' => ?_
  obtain ⟨ob, hrun, r1⟩ := run_range_is (P := P) ht h
  unfold Oper.wp
  simp [execOp, hop, hm, hrun, Result.andThen]
  exact hK' _ _ (hK ob r1)
/-- What is owed behind the step: nothing was left. -/
structure NextDone (P : Program) (ops : Array Oper) (Q : Exit → Act → World → Prop) (rest : List Oper) (a : Act) (d : Option Nat) (w : World) {α β : Type} (todo : List (α × β)) : Prop where
  go : todo = [] → wpList P ops Q rest (a.put d (.tuple #[.bool false])) w
/-- .. some pair came. -/
structure NextMore (P : Program) (ops : Array Oper) (Q : Exit → Act → World → Prop) (rest : List Oper) (a : Act) (d : Option Nat) (w : World) {α β : Type} (enc : α → Value) (val : β → Value) (m r : Nat) (l todo : List (α × β)) : Prop where
  go : ∀ (x : α) (v : β) (t1 t2 : List (α × β)) (w1 : World) (ob : Obj), todo = t1 ++ (x, v) :: t2 → (w1 = w ∨ w1 = w.drew) → RangeIs enc val (w1.putObj r ob) m r l (t1 ++ t2) →
      (Instr.entry (.pointer (some ⟨r, 0, none⟩))).run P (w1.putObj r ob) = .ok (.tuple #[enc x, val v]) (w1.putObj r ob) → wpList P ops Q rest (a.put d (.tuple #[.bool true, enc x, val v])) (w1.putObj r ob)
/-- The step at the operation. -/
theorem wpList_next_is (w : World) {ops : Array Oper} {rest : List Oper} {o : Oper} {a : Act} {Q : Exit → Act → World → Prop} (hg : o.guard = none) (it : Operand) (hop : o.op = Op.next it false) (m r : Nat) (l todo : List (α × β)) (hit : a.eval it = .pointer (some ⟨r, 0, none⟩)) (h : RangeIs enc val w m r l todo)
    (hDone : NextDone P ops Q rest a o.dst w todo) (hMore : NextMore P ops Q rest a o.dst w enc val m r l todo) :
    wpList P ops Q (o :: rest) a w := by
  refine wpList_plain hg fun K' hK' => ?_
  unfold Oper.wp
  rcases h.next (P := P) o.type with ⟨h0, hrun⟩ | ⟨x, v, t1, t2, w1, ob, ht, hw, hrun, hrg, hen⟩
  · simp [execOp, hop, hit, hrun, Result.andThen]
    exact hK' _ _ (hDone.go h0)
  · simp [execOp, hop, hit, hrun, Result.andThen]
    exact hK' _ _ (hMore.go x v t1 t2 w1 ob ht hw hrg hen)
end
end Go.Proofs.YtbemljgcclaopaaGreatDoor
