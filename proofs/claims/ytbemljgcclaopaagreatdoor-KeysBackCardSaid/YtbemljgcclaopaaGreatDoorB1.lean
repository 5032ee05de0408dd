/- Small words of my own on slices of one-cell elements: what a slice reads as, an append, a cut. No program. -/
import Derived.Test.YtbemljgcclaopaaGreatDoorB0
import Derived.OwnWalk
import Derived.Laws.AppendOwn
import Derived.Laws.AppendOwnNone
import Derived.Laws.CopyOwn
import Derived.ArgAppend
import Derived.Lib.AppendZeros
namespace Go.Proofs.YtbemljgcclaopaaGreatDoor
open Go.RowKit
/-- From address a on the cells of w are l. Of no cell: nothing is said. -/
def Src (w : World) (a : Option Addr) (l : List Value) : Prop := ∀ j u, l[j]? = some u → ∃ b off, a = some ⟨b, off, none⟩ ∧ w.cell? ⟨b, off + j, none⟩ = some u
theorem Src.nil (w : World) (a : Option Addr) : Src w a [] := fun j u h => by simp at h
theorem cell_lt {w : World} {p : Addr} {v : Value} (h : w.cell? p = some v) : p.block < w.heap.size := by
  rcases Nat.lt_or_ge p.block w.heap.size with h' | h'
  · exact h'
  · unfold World.cell? at h; rw [Array.getElem?_eq_none h'] at h; simp at h
theorem Src.below {w w' : World} {B : Nat} {a : Option Addr} {l : List Value} (h : Src w a l) (hb : Below B w w') (hB : w.heap.size ≤ B) : Src w' a l := by
  intro j u hj
  obtain ⟨b, off, ha, hc⟩ := h j u hj
  have hlt := cell_lt hc
  exact ⟨b, off, ha, (hb.cell (p := ⟨b, off + j, none⟩) (by simp at hlt ⊢; omega)).trans hc⟩
theorem Src.at {w : World} {b off : Nat} {l : List Value} (h : Src w (some ⟨b, off, none⟩) l) {j : Nat} {u : Value} (hj : l[j]? = some u) : w.cell? ⟨b, off + j, none⟩ = some u := by
  obtain ⟨b', off', ha, hc⟩ := h j u hj
  simp only [Option.some.injEq, Addr.mk.injEq, and_true] at ha
  obtain ⟨rfl, rfl⟩ := ha
  exact hc
theorem Src.addr {w : World} {a : Option Addr} {l : List Value} (h : Src w a l) (hl : 0 < l.length) : ∃ b off, a = some ⟨b, off, none⟩ ∧ b < w.heap.size := by
  obtain ⟨b, off, ha, hc⟩ := h 0 l[0] (by simp [hl])
  exact ⟨b, off, ha, by simpa using cell_lt hc⟩
theorem Src.other {w : World} {a : Option Addr} {l : List Value} (h : Src w a l) {p : Addr} (hp : ∀ b off s, a = .some ⟨b, off, s⟩ → b ≠ p.block) (v : Value) : Src (w.setCell p v) a l := by
  intro j u hj
  obtain ⟨b, off, ha, hc⟩ := h j u hj
  refine ⟨b, off, ha, ?_⟩
  rw [← hc]
  exact World.cell?_of_block (w := w) (Below.heap_setCell _ _ _ _ (hp b off _ ha))
theorem Src.row {w : World} {b : Nat} {e : TypeId} {vs : List Value} (h : Row w b e vs) (n : Nat) : Src w (some ⟨b, 0, none⟩) (vs.take n) := fun j u hj => by
  refine ⟨b, 0, rfl, h.cell ?_⟩
  rw [List.getElem?_take] at hj
  split at hj
  · simpa using hj
  · cases hj
theorem Src.rowAll {w : World} {b : Nat} {e : TypeId} {vs : List Value} (h : Row w b e vs) : Src w (some ⟨b, 0, none⟩) vs := fun j u hj => ⟨b, 0, rfl, by simpa using h.cell hj⟩
theorem Src.take {w : World} {a : Option Addr} {l : List Value} (h : Src w a l) (n : Nat) : Src w a (l.take n) := fun j u hj => by
  rw [List.getElem?_take] at hj
  split at hj
  · exact h j u hj
  · cases hj
/-- The address behind a cut at l, the capacity being m: one cell an element. -/
def cutA (a : Option Addr) (l m : Nat) : Option Addr := if m = l then a else a.map (·.add l)
theorem cutA_blk {a : Option Addr} {k c b off : Nat} {s : Option Nat} (h : cutA a k c = some ⟨b, off, s⟩) : ∃ off' s', a = some ⟨b, off', s'⟩ := by
  unfold cutA at h
  split at h
  · exact ⟨_, _, h⟩
  · obtain ⟨x, hx, hx2⟩ := Option.map_eq_some_iff.1 h
    obtain ⟨xb, xo, xs⟩ := x
    simp only [Addr.add] at hx2
    split at hx2 <;> (cases hx2; exact ⟨_, _, hx⟩)
theorem Src.cut {w : World} {a : Option Addr} {l : List Value} (h : Src w a l) {k c : Nat} (hc : l.length ≤ c) : Src w (cutA a k c) (l.drop k) := by
  intro j u hj
  rw [List.getElem?_drop] at hj
  obtain ⟨b, off, ha, hcell⟩ := h (k + j) u hj
  have hlt : k + j < l.length := by
    rcases Nat.lt_or_ge (k + j) l.length with h' | h'
    · exact h'
    · rw [List.getElem?_eq_none h'] at hj; cases hj
  refine ⟨b, off + k, ?_, by rw [Nat.add_assoc]; exact hcell⟩
  unfold cutA
  rw [if_neg (by omega), ha]
  simp only [Option.map_some, Addr.add]
  split <;> simp_all
theorem sliced_one (a : Option Addr) (l h m : Nat) : sliced a l h m 1 = .slice (cutA a l m) (h - l) (m - l) := by simp [sliced, cutA]
theorem sliced_zero (a : Option Addr) (h m : Nat) : sliced a 0 h m 1 = .slice (cutA a 0 m) h m := by simp [sliced, cutA]
theorem cutA_zero (a : Option Addr) (m : Nat) : cutA a 0 m = a := by
  unfold cutA; split
  · rfl
  · cases a <;> simp [Addr.add]
/-- A slice value that is the call's own reads as what it owns. -/
theorem own_src' {w : World} {base : Nat} {e : TypeId} {v : Value} {n : Nat} {xs : List Value} (h : w.ownsRow base e 1 v n xs) : ∃ a c, v = .slice a n c ∧ xs.length = n ∧ n ≤ c ∧ c ≤ maxLen ∧ Src w a xs ∧ (a = none → c = 0) ∧ (∀ b off s, a = some ⟨b, off, s⟩ → base ≤ b) := by
  obtain ⟨hl, h⟩ := h
  rw [Nat.mul_one] at hl
  rcases h with ⟨rfl, rfl⟩ | ⟨g, cap, cur, rfl, hg, hh, hc, hm, hz, ht⟩
  · exact ⟨none, 0, rfl, hl, Nat.le_refl _, Nat.zero_le _, by rw [List.length_eq_zero_iff.1 hl]; exact Src.nil _ _, fun _ => rfl, fun b off s h => by cases h⟩
  · refine ⟨some ⟨g, 0, none⟩, cap, rfl, hl, hc, hm, ?_, by simp, fun b off s h => by cases h; exact hg⟩
    have hr : Row w g e cur.toList := by unfold Row; simpa using hh
    rw [← ht]; exact Src.row hr _
theorem own_src {w : World} {base : Nat} {e : TypeId} {v : Value} {n : Nat} {xs : List Value} (h : w.ownsRow base e 1 v n xs) : ∃ a c, v = .slice a n c ∧ xs.length = n ∧ n ≤ c ∧ c ≤ maxLen ∧ Src w a xs ∧ (a = none → v = .slice none 0 0) := by
  obtain ⟨hl, h⟩ := h
  rw [Nat.mul_one] at hl
  rcases h with ⟨rfl, rfl⟩ | ⟨g, cap, cur, rfl, hg, hh, hc, hm, hz, ht⟩
  · exact ⟨none, 0, rfl, hl, Nat.le_refl _, Nat.zero_le _, by rw [List.length_eq_zero_iff.1 hl]; exact Src.nil _ _, fun _ => rfl⟩
  · refine ⟨some ⟨g, 0, none⟩, cap, rfl, hl, hc, hm, ?_, by simp⟩
    have hr : Row w g e cur.toList := by unfold Row; simpa using hh
    rw [← ht]; exact Src.row hr _
/-- 'append(s, x...)', s nil or the call's own, x whatever reads as news: nil and empty too. -/
theorem wpList_app {P : Program} (w : World) {ops : Array Oper} {rest : List Oper} {o : Oper} {a : Act} {Q : Exit → Act → World → Prop} (hgd : o.guard = none) (s x : Operand) (t : TypeId)
    (ho : o.op = .call { callee := .builtin .append, args := #[s, x], argTypes := #[t, t] })
    (base : Nat) (e : TypeId) (i : TypeInfo) (z : Value) (bytes : Nat) (ht : P.underlying t = some (.slice e)) (hi : P.info? e = some i) (hz : i.zero = some z)
    (hsize : i.size = 1) (hby : i.bytes = bytes) (hzs : z.cells.size = 1)
    (v : Value) (n : Nat) (xs : List Value) (hs : a.eval s = v) (hown : w.ownsRow base e 1 v n xs)
    (ad : Option Addr) (m c : Nat) (news : List Value) (hx : a.eval x = .slice ad m c) (hl : news.length = m) (hsrc : Src w ad news) (h1 : ∀ u ∈ news, u.oneCell' = true)
    (h63 : n + m ≤ maxLen) (hbytes : (n + m) * bytes ≤ 140737488355328) (hbase : base ≤ w.heap.size) (hnc : ad = none → c = 0)
    (h : ∀ v' w', w'.ownsRow base e 1 v' (n + m) (xs ++ news) → w.grownBy w' v.ownBlock → (v' = .slice none 0 0 ↔ v = .slice none 0 0 ∧ m = 0) → wpList P ops Q rest (a.put o.dst v') w') : wpList P ops Q (o :: rest) a w := by
  cases ad with
  | none =>
    have hm : m = 0 := by
      rcases Nat.eq_zero_or_pos m with h0 | h0
      · exact h0
      · obtain ⟨b, off, ha, _⟩ := hsrc.addr (by omega)
        cases ha
    subst hm
    have hn : news = [] := List.length_eq_zero_iff.1 hl
    subst hn
    have hc0 := hnc rfl
    subst hc0
    have hg : w.grownBy w v.ownBlock := ⟨rfl, rfl, rfl, Nat.le_refl _, fun _ _ _ => rfl⟩
    exact wpList_append_own_none hgd s x t ho base e i 1 ht hi v n xs hs hown hx (h v w (by simpa using hown) hg (by simp))
  | some p =>
    refine wpList_append_own w hgd s x t ho base e i z 1 bytes ht hi hz hsize hby hzs (by decide) v n xs hs hown p m c news hx (by omega) ?_ h1 h63 hbytes hbase h
    intro j u hj
    obtain ⟨b, off, ha, hc⟩ := hsrc j u hj
    simp only [Option.some.injEq] at ha
    subst ha
    have : (⟨b, off, none⟩ : Addr).add j = ⟨b, off + j, none⟩ := by unfold Addr.add; split <;> simp_all
    rw [this]; exact hc
/-- 'append(s, x...)', s full (an array's slice): where x is empty s itself, else a new row. -/
theorem wpList_app_full {P : Program} (w : World) {ops : Array Oper} {rest : List Oper} {o : Oper} {a : Act} {Q : Exit → Act → World → Prop} (hgd : o.guard = none) (s x : Operand) (t : TypeId)
    (ho : o.op = .call { callee := .builtin .append, args := #[s, x], argTypes := #[t, t] })
    (e : TypeId) (i : TypeInfo) (z : Value) (bytes : Nat) (ht : P.underlying t = some (.slice e)) (hi : P.info? e = some i) (hz : i.zero = some z)
    (hsize : i.size = 1) (hby : i.bytes = bytes) (hzs : z.cells.size = 1)
    (p : Addr) (n : Nat) (olds : List Value) (hs : a.eval s = .slice (some p) n n) (hlo : olds.length = n) (holds : Src w (some p) olds)
    (ad : Option Addr) (m c : Nat) (news : List Value) (hx : a.eval x = .slice ad m c) (hl : news.length = m) (hsrc : Src w ad news) (h1 : ∀ u ∈ news, u.oneCell' = true)
    (h63 : n + m ≤ maxLen) (hbytes : (n + m) * bytes ≤ 140737488355328) (hnc : ad = none → c = 0)
    (h : ∀ a' c' w', n + m ≤ c' → Src w' a' (olds ++ news) → w.grownBy w' none → wpList P ops Q rest (a.put o.dst (.slice a' (n + m) c')) w') : wpList P ops Q (o :: rest) a w := by
  have hadd : ∀ (b off j : Nat), (⟨b, off, none⟩ : Addr).add j = ⟨b, off + j, none⟩ := by intro b off j; unfold Addr.add; split <;> simp_all
  rcases Nat.eq_zero_or_pos m with hm | hm
  · subst hm
    have hn0 : news = [] := List.length_eq_zero_iff.1 hl
    subst hn0
    have hrun : (Builtin.append_ #[t, t] o.type #[.slice (some p) n n, .slice ad 0 c]).run P w = .ok (.slice (some p) n n) w := by
      cases ad with
      | none => simp [Builtin.append_, run_underlying ht, sizeOf, typeInfo, hi, hsize, Builtin.lenOf, Builtin.firstCells, storeCells]
      | some q => simp [Builtin.append_, run_underlying ht, sizeOf, typeInfo, hi, hsize, Builtin.lenOf, Builtin.firstCells, storeCells, loadCells, loadCellsFrom]
    refine Lib.wpList_append_run w hgd s x t t ho _ _ hs hx _ w hrun ?_
    have := h (some p) n w (by omega) (by simpa using holds) ⟨rfl, rfl, rfl, Nat.le_refl _, fun _ _ _ => rfl⟩
    simpa using this
  · obtain ⟨b, off, rfl, _⟩ := hsrc.addr (by omega)
    refine wpList_append_grows w hgd s x t ho e i z 1 bytes ht hi hz hsize hby hzs (by decide) (some p) n n olds hs (by simp) (by omega) ?_ ⟨b, off, none⟩ m c news hx (by omega) ?_ h1 (by omega) h63 hbytes ?_
    · intro q hq j u hj
      obtain ⟨b', off', hp, hc⟩ := holds j u hj
      cases hq; cases hp
      rw [hadd]; exact hc
    · intro j u hj
      rw [hadd]; exact hsrc.at hj
    · intro v' w' hown hg
      obtain ⟨a', c', rfl, _, hc', _, hs', _⟩ := own_src' hown
      exact h a' c' w' hc' hs' hg
theorem wp_copy_run {P : Program} (w : World) {o : Oper} {a : Act} {K : Act → World → Prop} {Q : Exit → Act → World → Prop} (s x : Operand) (t tn : TypeId)
    (ho : o.op = .call { callee := .builtin .copy, args := #[s, x], argTypes := #[t, tn] }) (vs vx : Value) (hs : a.eval s = vs) (hx : a.eval x = vx)
    (v' : Value) (w' : World) (hr : (Builtin.copy_ #[t, tn] o.type #[vs, vx]).run P w = .ok v' w') (h : K (a.put o.dst v') w') : o.wp P a w K Q := by
  unfold Oper.wp execOp
  simp only [ho, resolve, invoke, builtin, Sem.run_bind, Sem.run_pure, Result.andThen_ok, List.map_toArray, List.map_cons, List.map_nil, hs, hx, hr]
  exact h
/-- 'copy(d, x)' to the head of a row that is known whole; x reads as l, no longer than d. -/
theorem wpList_copyAt {P : Program} (w : World) {ops : Array Oper} {rest : List Oper} {o : Oper} {a : Act} {Q : Exit → Act → World → Prop} (hgd : o.guard = none) (s x : Operand) (t tn : TypeId)
    (ho : o.op = .call { callee := .builtin .copy, args := #[s, x], argTypes := #[t, tn] }) (e : TypeId) (hu : P.underlying t = some (.slice e)) (hz : (P.info? e).map (·.size) = some 1)
    (g dLen dCap : Nat) (et : TypeId) (cur : List Value) (hs : a.eval s = .slice (some ⟨g, 0, none⟩) dLen dCap) (hrow : Row w g et cur) (hd : dLen ≤ cur.length)
    (ad : Option Addr) (n c : Nat) (l : List Value) (hx : a.eval x = .slice ad n c) (hl : l.length = n) (hn : n ≤ dLen) (hsrc : Src w ad l) (h1 : ∀ u ∈ l, u.oneCell' = true) (hnc : ad = none → c = 0)
    (h : ∀ w', Row w' g et (l ++ cur.drop n) → w.grownBy w' (some g) → wpList P ops Q rest (a.put o.dst (.int .i64 n)) w') : wpList P ops Q (o :: rest) a w := by
  refine wpList_plain hgd fun K hK => ?_
  cases ad with
  | none =>
    have h0 : n = 0 := by
      rcases Nat.eq_zero_or_pos n with h0 | h0
      · exact h0
      · obtain ⟨b, off, ha, _⟩ := hsrc.addr (by omega)
        cases ha
    subst h0
    have hl0 : l = [] := List.length_eq_zero_iff.1 hl
    subst hl0
    have hc0 := hnc rfl
    subst hc0
    refine wp_copy_run w s x t tn ho _ _ hs hx _ w (run_copy_nil (P := P) w t tn o.type e ⟨g, 0, none⟩ dLen dCap hu (by cases hq : P.info? e <;> simp_all)) (hK _ _ ?_)
    have := h w (by simpa using hrow) ⟨rfl, rfl, rfl, Nat.le_refl _, fun _ _ _ => rfl⟩
    exact this
  | some p =>
    have hlen : l.length = Nat.min n dLen := by rw [hl]; show n = min n dLen; omega
    have hr := run_copy_row (P := P) w t tn o.type e g 0 dLen dCap p n c cur.toArray et l hu hz hrow hlen (by
      intro j u hj
      obtain ⟨b, off, ha, hc⟩ := hsrc j u hj
      cases ha
      have : (⟨b, off, none⟩ : Addr).add j = ⟨b, off + j, none⟩ := by unfold Addr.add; split <;> simp_all
      rw [this]; exact hc) (by simp; omega) h1
    refine wp_copy_run w s x t tn ho _ _ hs hx _ _ hr (hK _ _ ?_)
    have h2 := h (w.setRow g (l ++ cur.drop n).toArray) (setRow_heap w g cur.toArray _ et _ hrow) ⟨rfl, rfl, rfl, by simp [World.setRow], fun k _ hk => setRow_other w g k _ (fun e => hk (by rw [e]))⟩
    simp only [List.take_zero, List.nil_append, Nat.zero_add, goInt, hl]
    exact h2
theorem Row.put {w : World} {g : Nat} {e : TypeId} {old : List Value} (h : Row w g e old) (cs : List Value) : Row (w.setRow g cs.toArray) g e cs := setRow_heap w g _ _ _ _ h
theorem Row.putOther {w : World} {b g : Nat} {e : TypeId} {vs : List Value} (h : Row w b e vs) (hne : b ≠ g) (cs : Array Value) : Row (w.setRow g cs) b e vs := by
  unfold Row at *; rw [setRow_other w g b cs hne]; exact h
theorem Src.put {w : World} {a : Option Addr} {l : List Value} (h : Src w a l) {g : Nat} (hp : ∀ b off s, a = .some ⟨b, off, s⟩ → b ≠ g) (cs : Array Value) : Src (w.setRow g cs) a l := by
  intro j u hj
  obtain ⟨b, off, ha, hc⟩ := h j u hj
  refine ⟨b, off, ha, ?_⟩
  rw [← hc]
  exact World.cell?_of_block (w := w) (setRow_other w g b cs (hp b off _ ha))
theorem Row.grown {w w' : World} {b : Nat} {e : TypeId} {vs : List Value} {row : Option Nat} (h : Row w b e vs) (hg : w.grownBy w' row) (hne : some b ≠ row) : Row w' b e vs := by
  have := h.lt
  unfold Row at *; rw [hg.block b this hne]; exact h
theorem Below.ofGrown {w w' : World} {B : Nat} {row : Option Nat} (hg : w.grownBy w' row) (hB : B ≤ w.heap.size) (hr : ∀ k, row = some k → B ≤ k) : Below B w w' := (Below.refl B w).grown hg hB hr
theorem own_mono {w : World} {base base' : Nat} {e : TypeId} {size : Nat} {v : Value} {n : Nat} {xs : List Value} (h : w.ownsRow base e size v n xs) (hb : base' ≤ base) : w.ownsRow base' e size v n xs := by
  obtain ⟨h1, h2⟩ := h
  refine ⟨h1, ?_⟩
  rcases h2 with h2 | ⟨g, cap, cur, a, b, r⟩
  · exact .inl h2
  · exact .inr ⟨g, cap, cur, a, by omega, r⟩
theorem own_kept {w w' : World} {base : Nat} {e : TypeId} {size : Nat} {v : Value} {n : Nat} {xs : List Value} (h : w.ownsRow base e size v n xs) (hb : Below w.heap.size w w') : w'.ownsRow base e size v n xs :=
  h.kept (row := none) ⟨hb.os, hb.tape, hb.output, hb.size, fun k hk _ => hb.block k hk⟩ (by cases hv : v.ownBlock <;> simp)
theorem below_grown {w w' : World} (h : Below w.heap.size w w') : w.grownBy w' none := ⟨h.os, h.tape, h.output, h.size, fun k hk _ => h.block k hk⟩
end Go.Proofs.YtbemljgcclaopaaGreatDoor
