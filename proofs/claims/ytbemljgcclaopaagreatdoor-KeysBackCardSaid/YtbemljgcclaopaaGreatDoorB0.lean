/- Small words of my own on rows of cells: a block known whole. No program. -/
import Derived.WalkKit
import Derived.Deep.Draws
import Derived.Deep.QuietTactic
namespace Go.Proofs.YtbemljgcclaopaaGreatDoor
open Go.RowKit
theorem hid {p : Prop} (h : p) : Hid p := h
/-- Block b of w is a row of cells vs of type e, none frozen. -/
def Row (w : World) (b : Nat) (e : TypeId) (vs : List Value) : Prop := w.heap[b]? = some (.cells vs.toArray e (0, 0))
theorem Row.lt {w : World} {b : Nat} {e : TypeId} {vs : List Value} (h : Row w b e vs) : b < w.heap.size := by
  rcases Nat.lt_or_ge b w.heap.size with h' | h'
  · exact h'
  · unfold Row at h; rw [Array.getElem?_eq_none h'] at h; cases h
theorem Row.cell {w : World} {b : Nat} {e : TypeId} {vs : List Value} (h : Row w b e vs) {i : Nat} {v : Value} (hi : vs[i]? = some v) : w.cell? ⟨b, i, none⟩ = some v := by
  unfold Row at h
  simp [World.cell?, h, hi]
theorem Row.cellD {w : World} {b : Nat} {e : TypeId} {vs : List Value} (h : Row w b e vs) {i : Nat} (hi : i < vs.length) : w.cell? ⟨b, i, none⟩ = some vs[i] := h.cell (by simp [hi])
theorem Row.frozen {w : World} {b : Nat} {e : TypeId} {vs : List Value} (h : Row w b e vs) (i : Nat) : w.frozen? ⟨b, i, none⟩ = false := by
  unfold Row at h
  simp [World.frozen?, h]
theorem Row.set {w : World} {b : Nat} {e : TypeId} {vs : List Value} (h : Row w b e vs) (i : Nat) (v : Value) : Row (w.setCell ⟨b, i, none⟩ v) b e (vs.set i v) := by
  have hlt := h.lt
  unfold Row at *
  simp only [World.setCell, Array.getElem?_modify]
  rw [if_pos trivial, h]
  simp
theorem Row.other {w : World} {b : Nat} {e : TypeId} {vs : List Value} (h : Row w b e vs) {p : Addr} (hp : b ≠ p.block) (v : Value) : Row (w.setCell p v) b e vs := by
  unfold Row at *; rw [Below.heap_setCell _ _ _ _ hp]; exact h
theorem Row.alloc {w : World} {b : Nat} {e : TypeId} {vs : List Value} (h : Row w b e vs) (o : Obj) : Row (w.alloc o) b e vs := by
  have hl := h.lt
  unfold Row at *; rw [Below.heap_alloc _ _ _ hl]; exact h
theorem Row.drew {w : World} {b : Nat} {e : TypeId} {vs : List Value} (h : Row w b e vs) : Row w.drew b e vs := h
theorem Row.drewN {w : World} {b : Nat} {e : TypeId} {vs : List Value} (h : Row w b e vs) (n : Nat) : Row (w.drewN n) b e vs := h
theorem Row.below {w w' : World} {B b : Nat} {e : TypeId} {vs : List Value} (h : Row w b e vs) (hb : Below B w w') (hB : b < B) : Row w' b e vs := by
  unfold Row at *; rw [hb.block b hB]; exact h
theorem Row.new (w : World) (e : TypeId) (vs : List Value) : Row (w.alloc (.cells vs.toArray e)) w.heap.size e vs := by
  unfold Row; exact Array.getElem?_push_size
theorem Row.new' (w : World) (e : TypeId) (a : Array Value) : Row (w.alloc (.cells a e)) w.heap.size e a.toList := by
  unfold Row; exact Array.getElem?_push_size
theorem Row.newAt {w : World} {b : Nat} {e : TypeId} {a : Array Value} {vs : List Value} (hb : b = w.heap.size) (ha : a.toList = vs) : Row (w.alloc (.cells a e)) b e vs := by
  subst hb; subst ha; exact Row.new' w e a
/-- A quiet region behind a quiet region. -/
theorem quiet_add_same {P : Program} {f : FuncId} {args : Array Value} {w : World} {a n : Nat} {v : Value}
    (h : Calls P f args (w.drewN (a + n)) fun e w' => e = .returned v ∧ w' = w.drewN (a + n)) :
    Calls P f args (w.drewN (a + n)) fun e w'' => e = .returned v ∧ ∃ m, w'' = w.drewN (a + m) :=
  h.mono fun _ _ ⟨he, hm⟩ => ⟨he, n, hm⟩
/-- Numbers of one kind as cells. -/
def Ints (k : IntKind) (l : List Int) : List Value := l.map (Value.int k)
theorem Row.int {w : World} {b : Nat} {e : TypeId} {k : IntKind} {l : List Int} (h : Row w b e (Ints k l)) {i : Nat} (hi : i < l.length) : w.cell? ⟨b, i, none⟩ = some (.int k (l[i]?.getD 0)) :=
  h.cell (by simp [Ints, hi])
theorem Row.setInt {w : World} {b : Nat} {e : TypeId} {k : IntKind} {l : List Int} (h : Row w b e (Ints k l)) (i : Nat) (v : Int) : Row (w.setCell ⟨b, i, none⟩ (.int k v)) b e (Ints k (l.set i v)) := by
  have := h.set i (.int k v)
  unfold Ints at *
  rw [List.map_set]; exact this
end Go.Proofs.YtbemljgcclaopaaGreatDoor
