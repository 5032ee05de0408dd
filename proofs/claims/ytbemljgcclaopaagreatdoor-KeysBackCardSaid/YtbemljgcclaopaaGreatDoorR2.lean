/- The rows' order; slices.SortFunc of rows. -/
import Derived.Sort.Walk0
import Derived.Test.YtbemljgcclaopaaGreatDoorZ1
import Derived.Test.YtbemljgcclaopaaGreatDoorR0
namespace Go.Proofs.YtbemljgcclaopaaGreatDoor
open Go.RowKit Go.Lib Go.Sort Go.Shelf
/-- a is ahead of b. -/
def ltB (a b : ByteArray) : Bool := Op.bytesLess a.toList b.toList
def cmpB (a b : ByteArray) : Int := if ltB a b then -1 else if a = b then 0 else 1
theorem toList_inj {a b : ByteArray} (h : a.toList = b.toList) : a = b := by
  have := beq_toListBytes a b
  rw [beq_bytes] at this
  rw [h] at this; simpa using this
theorem ltB_eq (a b : ByteArray) : ltB a b = decide (a.toList < b.toList) := bytesLess_eq _ _
theorem ltB_irrefl (a : ByteArray) : ltB a a = false := by rw [ltB_eq]; simp [List.lt_irrefl]
theorem ltB_trans {a b c : ByteArray} (h1 : ltB a b = true) (h2 : ltB b c = true) : ltB a c = true := by
  rw [ltB_eq] at *; simp only [decide_eq_true_eq] at *; exact List.lt_trans h1 h2
theorem ltB_total {a b : ByteArray} (h1 : ltB a b = false) (h2 : ltB b a = false) : a = b := by
  rw [ltB_eq] at *; simp only [decide_eq_false_iff_not] at *
  exact toList_inj (List.le_antisymm (by simpa using h2) (by simpa using h1))
set_option maxRecDepth 100000 in
theorem isNaN_str (s : ByteArray) (w : World) : Calls Tryz.prog 56 #[.string s] w fun e w' => e = .returned (.bool false) ∧ w' = w := by
  go_enter Tryz.func56, Tryz.ntmps56
  go_wp2
  go_ret
  exact ⟨rfl, rfl⟩
set_option maxRecDepth 100000 in
theorem compare_str (a b : ByteArray) (w : World) : Calls Tryz.prog 27 #[.string a, .string b] w fun e w' => e = .returned (.int .i64 (cmpB a b)) ∧ w' = w := by
  go_enter Tryz.func27, Tryz.ntmps27
  by_cases h1 : Op.bytesLess a.toList b.toList = true
  · have hc : cmpB a b = -1 := by unfold cmpB ltB; rw [if_pos h1]
    rw [hc]
    go_wp2_with (go_at_call 56; refine (isNaN_str _ _).mono ?_; rintro e w' ⟨rfl, rfl⟩)
    go_ret
    exact ⟨rfl, rfl⟩
  · have h1' : Op.bytesLess a.toList b.toList = false := by simpa using h1
    by_cases h2 : a = b
    · subst h2
      have hc : cmpB a a = 0 := by unfold cmpB ltB; rw [if_neg h1, if_pos rfl]
      rw [hc]
      go_wp2_with (go_at_call 56; refine (isNaN_str _ _).mono ?_; rintro e w' ⟨rfl, rfl⟩)
      go_ret
      exact ⟨rfl, rfl⟩
    · have hc : cmpB a b = 1 := by unfold cmpB ltB; rw [if_neg h1, if_neg h2]
      have h2' : (a.toList == b.toList) = false := by
        rw [Bool.eq_false_iff]; intro h; exact h2 (toList_inj (by simpa using h))
      rw [hc]
      go_wp2_with (go_at_call 56; refine (isNaN_str _ _).mono ?_; rintro e w' ⟨rfl, rfl⟩)
      go_ret
      exact ⟨rfl, rfl⟩
theorem cmpB_lt (a b : ByteArray) : decide (cmpB a b < 0) = ltB a b := by
  unfold cmpB
  by_cases h : ltB a b = true
  · rw [if_pos h, h]; rfl
  · rw [if_neg h]; have : ltB a b = false := by simpa using h
    rw [this]; split <;> rfl
set_option maxRecDepth 100000 in
theorem rows_cmp (x y : RV) (W : World) : Calls Tryz.prog 26 #[.agg (encR x).toArray, .agg (encR y).toArray] W fun e w' => e = .returned (.int .i64 (cmpB x.1 y.1)) ∧ ∃ q os', w' = grow (W.drewN q) os' := by
  obtain ⟨x1, x2, x3, x4⟩ := x
  obtain ⟨y1, y2, y3, y4⟩ := y
  simp only [encR]
  generalize hr : cmpB x1 y1 = r
  have hcon := fun W' => compare_str x1 y1 W'
  rw [hr] at hcon
  clear hr
  go_enter Tryz.func26, Tryz.ntmps26
  go_wp2_with (go_at_call 27; refine (hcon _).mono ?_; rintro e w' ⟨rfl, rfl⟩)
  go_ret
  exact ⟨rfl, 0, _, by rw [alloc_eq_grow, alloc_eq_grow, grow_grow]; rfl⟩
def encT (p : RT) : List Value := encR p.1
theorem cmpT_lt (x y : RT) : ltOf (fun x y : RT => cmpB x.1.1 y.1.1) x y = ltB x.1.1 y.1.1 := cmpB_lt _ _
theorem cmpT_swo : SWO (ltOf fun x y : RT => cmpB x.1.1 y.1.1) where
  irrefl x := by rw [cmpT_lt]; exact ltB_irrefl _
  trans x y z h1 h2 := by rw [cmpT_lt] at *; exact ltB_trans h1 h2
  ntrans x y z h1 h2 := by
    rw [cmpT_lt] at *
    rw [ltB_eq] at *; simp only [decide_eq_false_iff_not, List.not_lt] at *
    exact List.le_trans h2 h1
theorem cellsR_get : ∀ (l : List RT) (j : Nat), j < l.length * 2 → (cellsR l)[j]? = some ((encT (l.toArray)[j / 2]!)[j % 2]!)
  | [], j, h => by simp at h
  | p :: l, 0, _ => by simp [cellsR, encT, encR]
  | p :: l, 1, _ => by simp [cellsR, encT, encR]
  | p :: l, j + 2, h => by
    have ih := cellsR_get l j (by simp at h; omega)
    have e1 : (j + 2) / 2 = j / 2 + 1 := by omega
    have e2 : (j + 2) % 2 = j % 2 := by omega
    have e3 : (cellsR (p :: l))[j + 2]? = (cellsR l)[j]? := by simp [cellsR, encR]
    rw [e3, ih, e1, e2]
    simp
theorem holdsK_own {w : World} {g : Nat} {cur : Array Value} {e : TypeId} {l : List RT} (hh : w.heap[g]? = some (.cells cur e (0, 0))) (ht : cur.toList.take (l.length * 2) = cellsR l) : HoldsK encT 2 w g 0 l.toArray := by
  intro j hj
  simp only [size_flatK, List.size_toArray] at hj
  have h1 := cellsR_get l j hj
  rw [← ht, List.getElem?_take, if_pos hj] at h1
  refine ⟨?_, by simp [World.frozen?, hh]⟩
  rw [get_flatK _ _ _ _ (by simpa using hj)]
  simp only [World.cell?, hh, Nat.zero_add]
  simpa using h1
theorem putCells_row {cur : Array Value} {l : List RT} {cap : Nat} (hc : cur.size = cap * 2) (hl : l.length ≤ cap) :
    (putCells id 0 (flatK encT 2 l.toArray) cur).size = cap * 2 ∧ (putCells id 0 (flatK encT 2 l.toArray) cur).toList.take (l.length * 2) = cellsR l := by
  have hs : (putCells id 0 (flatK encT 2 l.toArray) cur).size = cap * 2 := by simp [putCells, hc]
  refine ⟨hs, ?_⟩
  apply List.ext_getElem?
  intro j
  rw [List.getElem?_take]
  by_cases hj : j < l.length * 2
  · rw [if_pos hj, cellsR_get l j hj]
    have hjc : j < cur.size := by rw [hc]; omega
    rw [Array.getElem?_toList]
    simp only [putCells, Array.getElem?_mapIdx]
    rw [Array.getElem?_eq_getElem hjc]
    simp only [Option.map_some]
    rw [if_pos ⟨Nat.zero_le _, by simpa using hj⟩, Nat.sub_zero, get_flatK _ _ _ _ (by simpa using hj)]
    rfl
  · rw [if_neg hj, List.getElem?_eq_none (by rw [cellsR_len]; omega)]
theorem sortWorld_facts {w : World} {g n : Nat} {cur : Array Value} {e : TypeId} {d' : List RT} {os : Array Obj} (hh : w.heap[g]? = some (.cells cur e (0, 0))) :
    (sortWorldK encT 2 w g 0 n d'.toArray os).heap[g]? = some (.cells (putCells id 0 (flatK encT 2 d'.toArray) cur) e (0, 0)) ∧ Exc [g] w (sortWorldK encT 2 w g 0 n d'.toArray os) := by
  have hg := (Array.getElem?_eq_some_iff.1 hh).1
  have hb : ∀ k, k < w.heap.size → (sortWorldK encT 2 w g 0 n d'.toArray os).heap[k]? = (w.heap.modify g (onCells (putCells id 0 (flatK encT 2 d'.toArray))))[k]? := fun k hk => by
    show ((w.heap.modify g (onCells (putCells id 0 (flatK encT 2 d'.toArray)))) ++ os)[k]? = _
    rw [Array.getElem?_append_left (by simpa using hk)]
  refine ⟨?_, rfl, rfl, rfl, ?_, fun k hk hm => ?_⟩
  · rw [hb g hg, Array.getElem?_modify, if_pos rfl, hh]; rfl
  · show w.heap.size ≤ ((w.heap.modify g (onCells (putCells id 0 (flatK encT 2 d'.toArray)))) ++ os).size
    simp
  · rw [hb k hk, Array.getElem?_modify, if_neg (by simpa using fun h => hm (by simp [h]))]
theorem pairwise_sorted {d' : List RT} {n : Nat} (h : SortedIn (ltOf fun x y : RT => cmpB x.1.1 y.1.1) 0 n d'.toArray) (hn : n = d'.length) : (d'.map textR).Pairwise (fun x y => ltB y.1 x.1 = false) := by
  subst hn
  rw [List.pairwise_map, List.pairwise_iff_getElem]
  intro i j hi hj hij
  have := h i j (Nat.zero_le _) hij hj
  rw [cmpT_lt] at this
  simpa [textR, hi, hj] using this
set_option maxHeartbeats 1000000 in
/-- slices.SortFunc of rows. -/
theorem sort_out {w : World} {base : Nat} {av : List Nat} {out : Value} {t : List (ByteArray × List ByteArray)} (hO : OutL w base av out t) (ht : 0 < t.length) (hl : t.length ≤ 1000000) :
    Calls Tryz.prog 25 #[out, .func (.func 26) #[] #[]] w fun e w' => e = .returned (.tuple #[]) ∧ ∃ t', OutL w' base av out t' ∧ t'.Perm t ∧ t'.Pairwise (fun x y => ltB y.1 x.1 = false) ∧ Exc (match out.ownBlock with | some k => [k] | none => []) w w' := by
  obtain ⟨l, ⟨⟨hlen, h1⟩, h2⟩, rfl, h3, h4⟩ := hO
  rw [List.length_map] at ht hl
  rcases h1 with ⟨rfl, h0⟩ | ⟨g, cap, cur, rfl, hg, hh, hc, hm, hz, hx⟩
  · omega
  · have eg : ∀ args w, (callFunc 26 args).run Tryz.prog w = .ok (.enter 26 args) w := enters_of Tryz.func26 (by kernel_rfl) rfl
    have hcon := AnyQ.slices_SortFunc Tryz.sortRow 2 Tryz.isAgg65 Tryz.sizeOf65 encT (fun _ => rfl) (fun x v hv => by simp [encT, encR] at hv; rcases hv with rfl | rfl <;> rfl) (fun x y => cmpB x.1.1 y.1.1) cmpT_swo 26 #[] g 0 cap l.toArray w eg (fun _ _ _ _ x y => rows_cmp x.1 y.1 _) (holdsK_own hh hx) (Array.getElem?_eq_some_iff.1 hh).1 (by simp; omega)
    change Calls Tryz.prog 25 _ _ _ at hcon
    simp only [List.size_toArray] at hcon
    refine hcon.mono ?_
    rintro e w' ⟨rfl, d', n, os, hp, hs, rfl⟩
    obtain ⟨hps, _, hpp⟩ := hp
    obtain ⟨l', rfl⟩ : ∃ l' : List RT, d' = l'.toArray := ⟨d'.toList, by simp⟩
    have hll : l'.length = l.length := by simpa using hps
    have hperm : l'.Perm l := by
      have e1 : (l'.toArray.extract 0 l.length).toList = l' := by rw [← hll]; simp
      have e2 : (l.toArray.extract 0 l.length).toList = l := by simp
      rw [e1, e2] at hpp; exact hpp
    obtain ⟨k1, k2⟩ := sortWorld_facts (n := n) (d' := l') (os := os) hh
    obtain ⟨p1, p2⟩ := putCells_row (cur := cur) (l := l') hz (by omega)
    refine ⟨rfl, l'.map textR, ⟨l', ⟨⟨cellsR_len _, .inr ⟨g, cap, _, by rw [hll], hg, k1, by omega, hm, p1, p2⟩⟩, fun p hp => ?_⟩, rfl, h3, fun p hp => h4 p (hperm.subset hp)⟩, hperm.map _, pairwise_sorted hs hll.symm, ?_⟩
    · obtain ⟨q1, q2⟩ := h2 p (hperm.subset hp)
      refine ⟨q1.exc k2 (fun b off sp e hb => (q2 b off sp e).2.2 (by simp at hb; subst hb; rfl)), fun b off sp e => ⟨(q2 b off sp e).1, Nat.lt_of_lt_of_le (q2 b off sp e).2.1 k2.size, (q2 b off sp e).2.2⟩⟩
    · exact k2
end Go.Proofs.YtbemljgcclaopaaGreatDoor
