/- keys.number; keys.Rows. -/
import Derived.Test.YtbemljgcclaopaaGreatDoorR2
import Derived.Test.YtbemljgcclaopaaGreatDoorG0
import Derived.Deep.RegionHeld3
namespace Go.Proofs.YtbemljgcclaopaaGreatDoor
open Go.RowKit
set_option maxRecDepth 100000 in
theorem numberK_any (k : Nat) (hn : k ≤ 4611686018427387904) (w : World) (hT : Tz w) :
    Calls Tryz.prog 24 #[.int .i64 k] w fun e w' => e = .returned (.string (strN k)) ∧ Below w.heap.size w w' := by
  have t1 := number_any k hn w hT
  go_enter Tryz.func24, Tryz.ntmps24
  go_wp2_with (go_at_call 46; refine t1.mono ?_; rintro e w1 ⟨rfl, hb1⟩)
  go_ret
  exact ⟨rfl, hb1⟩
def rowG (p : ByteArray × Bool) : ByteArray × List ByteArray := (p.1, [])
def rowA (p : (ByteArray × ByteArray) × Int) : ByteArray × List ByteArray := (p.1.1 ++ ⟨#[47]⟩ ++ p.1.2, [strN p.2.toNat])
def rowsL (n : Int) (g : Gone) (a : Ats) : List (ByteArray × List ByteArray) := (⟨#[35]⟩, [strN n.toNat]) :: (g.map rowG ++ a.map rowA)
theorem RangeIs.left {α β : Type} {enc : α → Value} {val : β → Value} {w : World} {m r : Nat} {l todo : List (α × β)} (h : RangeIs enc val w m r l todo) : w.rangeLeft m r = todo.length := by
  obtain ⟨es, clock, since, seen, c0, h1, _, _, h4, _, h6, _⟩ := h
  simp only [World.rangeLeft, h1, h4]
  have := congrArg List.length h6
  simpa using this
/-- A round's append. -/
theorem rows_app {α β : Type} {enc : α → Value} {val : β → Value} {w wr W : World} {m r0 : Nat} {l todo : List (α × β)} {out : Value} {t : List (ByteArray × List ByteArray)} (hO : OutL wr w.heap.size [r0] out t) (hB1 : Below w.heap.size w wr) (hm : m < w.heap.size) (hr0 : w.heap.size ≤ r0)
    (e0 : Exc [r0] wr W) (hrg : RangeIs enc val W m r0 l todo) (r : RV) (cs : List ByteArray) (hc : ColsAt W r.2 cs) (hbs : ∀ b off sp, r.2.1 = some ⟨b, off, sp⟩ → wr.heap.size ≤ b ∧ b < W.heap.size ∧ b ≠ r0) (hl : t.length + 1 ≤ 1000000) (ty : TypeId) :
    ∃ v4 w4, (Builtin.append_ #[39, 39] ty #[out, .slice (some ⟨W.heap.size, 0, none⟩) 1 1]).run Tryz.prog (W.alloc (.cells #[.string r.1, .slice r.2.1 r.2.2.1 r.2.2.2] 65)) = .ok v4 w4 ∧ OutL w4 w.heap.size [r0] v4 (t ++ [(r.1, cs)]) ∧ Below w.heap.size w w4 ∧ RangeIs enc val w4 m r0 l todo ∧ ∀ b, wr.heap.size ≤ b → b < W.heap.size → w4.heap[b]? = W.heap[b]? := by
  have hb0 : Below w.heap.size w W := hB1.trans (e0.below (by simpa using hr0) hB1.size)
  have hrl := hrg.lt
  obtain ⟨v4, w4, h1, h2, h3⟩ := out_app (hO.exc e0 (by simp)) hb0.size (by simpa using hrl.1) r cs hc (fun b off sp e => by
    have h := hbs b off sp e
    refine ⟨Nat.le_trans hB1.size h.1, h.2.1, fun ho => ?_, by simpa using h.2.2⟩
    have := hO.own ho; omega) hl ty
  have hob : ∀ k ∈ (match out.ownBlock with | some k => [k] | none => []), w.heap.size ≤ k ∧ k ≠ r0 ∧ k < wr.heap.size := by
    intro k hk
    cases ho : out.ownBlock with
    | none => rw [ho] at hk; cases hk
    | some j =>
      rw [ho] at hk; simp at hk; subst hk
      have := hO.own ho
      exact ⟨this.1, by simpa using this.2.2, this.2.1⟩
  refine ⟨v4, w4, h1, h2, hb0.trans (h3.below (fun k hk => (hob k hk).1) hb0.size), hrg.of_blocks (h3.block _ hrl.2 (fun hk => ?_)) (h3.block _ hrl.1 (fun hk => (hob _ hk).2.1 rfl)), fun b h1 h2 => h3.block b h2 (fun hk => by have := (hob _ hk).2.2; omega)⟩
  have := (hob _ hk).1; omega
theorem exc_step {wr w3 : World} {r0 : Nat} {ob3 : Obj} (hw3 : w3 = wr ∨ w3 = wr.drew) : Exc [r0] wr (w3.putObj r0 ob3) ∧ (w3.putObj r0 ob3).heap.size = w3.heap.size := by
  refine ⟨?_, by simp [World.putObj]⟩
  rcases hw3 with rfl | rfl
  · exact Exc.grown (grownBy_putObj' _ _ _) (fun k e => by simp at e; simp [e])
  · exact (Below.exc ((Below.refl _ _).drew) _).trans (Exc.grown (grownBy_putObj' _ _ _) (fun k e => by simp at e; simp [e]))
/-- The first loop's round. -/
theorem rows_round1 {w wr w3 : World} {mg r0 : Nat} {g dn t1 t2 : Gone} {out : Value} {hd : ByteArray × List ByteArray} {x : ByteArray} {v : Bool} {ob3 : Obj} (hO : OutL wr w.heap.size [r0] out (hd :: dn.map rowG)) (hB1 : Below w.heap.size w wr) (hmg : mg < w.heap.size) (hr0 : w.heap.size ≤ r0)
    (hw3 : w3 = wr ∨ w3 = wr.drew) (hrg3 : RangeIs Value.string Value.bool (w3.putObj r0 ob3) mg r0 g (t1 ++ t2)) (hl : dn.length ≤ 900000) (ty : TypeId) :
    ∃ v4 w4, (Builtin.append_ #[39, 39] ty #[out, .slice (some ⟨w3.heap.size, 0, none⟩) 1 1]).run Tryz.prog ((w3.putObj r0 ob3).alloc (.cells #[.string x, .slice none 0 0] 65)) = .ok v4 w4 ∧ OutL w4 w.heap.size [r0] v4 (hd :: (dn ++ [(x, v)]).map rowG) ∧ Below w.heap.size w w4 ∧ RangeIs Value.string Value.bool w4 mg r0 g (t1 ++ t2) := by
  obtain ⟨e0, hsz⟩ := exc_step (r0 := r0) (ob3 := ob3) hw3
  obtain ⟨v4, w4, h1, h2, h3, h4, _⟩ := rows_app hO hB1 hmg hr0 e0 hrg3 (x, none, 0, 0) [] (ColsAt.nil _) (fun _ _ _ e => by cases e) (by simp; omega) ty
  rw [hsz] at h1
  exact ⟨v4, w4, h1, by simpa [rowG] using h2, h3, h4⟩
/-- The second loop's round. -/
theorem rows_round2 {w wr W5 W6 w7 : World} {ma r1 : Nat} {a t1 t2 : Ats} {out : Value} {t : List (ByteArray × List ByteArray)} {x1 x2 : ByteArray} {kv : Nat} (hO : OutL wr w.heap.size [r1] out t) (hB1 : Below w.heap.size w wr) (hma : ma < w.heap.size) (hr1 : w.heap.size ≤ r1)
    (e0 : Exc [r1] wr W5) (hrg3 : RangeIs encP (Value.int .i64) W5 ma r1 a (t1 ++ t2)) (hb6 : Below W5.heap.size W5 W6) (hb7 : Below W6.heap.size W6 w7) (hl : t.length ≤ 999999) (ty : TypeId) :
    ∃ v4 w4, (Builtin.append_ #[39, 39] ty #[out, .slice (some ⟨w7.heap.size + 1, 0, none⟩) 1 1]).run Tryz.prog ((w7.alloc (.cells #[.string (strN kv)] 9)).alloc (.cells #[.string (x1 ++ ⟨#[47]⟩ ++ x2), .slice (some ⟨w7.heap.size, 0, none⟩) 1 1] 65)) = .ok v4 w4 ∧ OutL w4 w.heap.size [r1] v4 (t ++ [rowA ((x1, x2), kv)]) ∧ Below w.heap.size w w4 ∧ RangeIs encP (Value.int .i64) w4 ma r1 a (t1 ++ t2) ∧ ∀ b e vs, wr.heap.size ≤ b → Row w7 b e vs → Row w4 b e vs := by
  have hbW : Below W5.heap.size W5 (w7.alloc (.cells #[.string (strN kv)] 9)) := (hb6.trans (hb7.mono hb6.size)).alloc (Nat.le_trans hb6.size hb7.size) _
  have hrl := hrg3.lt
  have hsz : (w7.alloc (.cells #[.string (strN kv)] 9)).heap.size = w7.heap.size + 1 := by simp
  have h7 : W5.heap.size ≤ w7.heap.size := Nat.le_trans hb6.size hb7.size
  have hwr := e0.size
  obtain ⟨v4, w4, h1, h2, h3, h4, h5⟩ := rows_app hO hB1 hma hr1 (e0.trans (Below.exc hbW _)) (hrg3.of_blocks (hbW.block _ hrl.2) (hbW.block _ hrl.1)) (x1 ++ ⟨#[47]⟩ ++ x2, some ⟨w7.heap.size, 0, none⟩, 1, 1) [strN kv] ⟨rfl, Nat.le_refl _, (by decide : (1 : Nat) ≤ maxLen), Src.rowAll (Row.newAt rfl rfl)⟩ (fun b off sp e => by
    simp at e; obtain ⟨rfl, _⟩ := e
    exact ⟨by omega, by rw [hsz]; omega, by have := hrl.1; omega⟩) (by omega) ty
  rw [hsz] at h1
  exact ⟨v4, w4, h1, by simpa [rowA] using h2, h3, h4, fun b e vs hb hr => (h5 b hb (by rw [hsz]; have := hr.lt; omega)).trans (hr.alloc _)⟩
attribute [-go_sem] Builtin.append_
set_option maxRecDepth 100000 in
set_option maxHeartbeats 2000000 in
theorem rows_meth (w : World) (hT : Tz w) {b mg ma : Nat} {root : List Int} {n : Int} {g : Gone} {a : Ats} (h : IsTree w b mg ma root n g a)
    (hn : 0 ≤ n ∧ n ≤ 4611686018427387904) (hA : ∀ p ∈ a, p.1.1.size ≤ 9 ∧ p.1.2.size ≤ 9 ∧ 0 ≤ p.2 ∧ p.2 ≤ 4611686018427387904) (hl : g.length + a.length ≤ 900000) :
    Calls Tryz.prog 12 #[.pointer (some ⟨b, 0, none⟩)] w fun e w' => ∃ v l, e = .returned v ∧ RowsIn w' w.heap.size v l ∧ (l.map textR).Perm (rowsL n g a) ∧ (l.map textR).Pairwise (fun x y => ltB y.1 x.1 = false) ∧ Below w.heap.size w w' := by
  obtain ⟨k, rfl⟩ : ∃ k : Nat, n = (k : Int) := ⟨n.toNat, by omega⟩
  have HA := hid hA
  have HL := hid hl
  clear hA hl
  have t1 := numberK_any k (by omega) w hT
  have hN := h.cN
  go_enter Tryz.func12, Tryz.ntmps12
  go_wp2_with (first
    | (go_at_call 24; refine t1.mono ?_; rintro e w1 ⟨rfl, hb1⟩; have hb2 : Below w1.heap.size w1 ((w1.alloc (.cells #[.string (strN k)] 9)).alloc (.cells #[.string ⟨#[35]⟩, .slice (some ⟨w1.heap.size, 0, none⟩) 1 1] 65)) := ((Below.refl _ _).alloc (Nat.le_refl _) _).alloc (by simp) _; have h2 := (h.below hb1).below hb2; have cG := h2.cG)
    | (at_range; refine wpList_range_is _ rfl _ 50 rfl Tryz.underlying50 mg g rfl h2.gone ?_; intro ob hrg))
  go_frame
  have hsz1 := hb1.size
  have hR : RowsIn ((w1.alloc (.cells #[.string (strN k)] 9)).alloc (.cells #[.string ⟨#[35]⟩, .slice (some ⟨w1.heap.size, 0, none⟩) 1 1] 65)) w.heap.size (.slice (some ⟨w1.heap.size + 1, 0, none⟩) 1 1) [((⟨#[35]⟩, (some ⟨w1.heap.size, 0, none⟩, 1, 1)), [strN k])] := by
    have r0 : Row ((w1.alloc (.cells #[.string (strN k)] 9)).alloc (.cells #[.string ⟨#[35]⟩, .slice (some ⟨w1.heap.size, 0, none⟩) 1 1] 65)) w1.heap.size 9 [.string (strN k)] := (Row.newAt rfl rfl).alloc _
    have r1 : Row ((w1.alloc (.cells #[.string (strN k)] 9)).alloc (.cells #[.string ⟨#[35]⟩, .slice (some ⟨w1.heap.size, 0, none⟩) 1 1] 65)) (w1.heap.size + 1) 65 [.string ⟨#[35]⟩, .slice (some ⟨w1.heap.size, 0, none⟩) 1 1] := Row.newAt (by simp) rfl
    refine ⟨⟨rfl, .inr ⟨_, _, _, rfl, by omega, r1, Nat.le_refl _, by decide, rfl, rfl⟩⟩, ?_⟩
    intro p hp
    simp only [List.mem_singleton] at hp
    subst hp
    refine ⟨⟨rfl, Nat.le_refl _, (by decide : (1 : Nat) ≤ maxLen), Src.rowAll r0⟩, fun b off sp e => ?_⟩
    simp at e
    obtain ⟨rfl, _⟩ := e
    exact ⟨hsz1, by simp; omega, by simp [Value.ownBlock]⟩
  have HO : OutL (((w1.alloc (.cells #[.string (strN k)] 9)).alloc (.cells #[.string ⟨#[35]⟩, .slice (some ⟨w1.heap.size, 0, none⟩) 1 1] 65)).alloc ob) w.heap.size [((w1.alloc (.cells #[.string (strN k)] 9)).alloc (.cells #[.string ⟨#[35]⟩, .slice (some ⟨w1.heap.size, 0, none⟩) 1 1] 65)).heap.size] (.slice (some ⟨w1.heap.size + 1, 0, none⟩) 1 1) ((⟨#[35]⟩, [strN k]) :: ([] : Gone).map rowG) :=
    (OutL.avoid (av := []) ⟨_, hR, rfl, by simp, by simp⟩ (by simp)).below ((Below.refl _ _).alloc (Nat.le_refl _) _)
  have hB : Below w.heap.size w (((w1.alloc (.cells #[.string (strN k)] 9)).alloc (.cells #[.string ⟨#[35]⟩, .slice (some ⟨w1.heap.size, 0, none⟩) 1 1] 65)).alloc ob) := ((hb1.alloc hsz1 _).alloc (by simp; omega) _).alloc (by simp; omega) _
  clear cG t1 hb2 h2 hN
  generalize (((w1.alloc (.cells #[.string (strN k)] 9)).alloc (.cells #[.string ⟨#[35]⟩, .slice (some ⟨w1.heap.size, 0, none⟩) 1 1] 65)).alloc ob) = W2 at hrg HO hB ⊢
  have hrlt := hrg.lt.1
  have hr0 : w.heap.size ≤ ((w1.alloc (.cells #[.string (strN k)] 9)).alloc (.cells #[.string ⟨#[35]⟩, .slice (some ⟨w1.heap.size, 0, none⟩) 1 1] 65)).heap.size := by simp; omega
  generalize ((w1.alloc (.cells #[.string (strN k)] 9)).alloc (.cells #[.string ⟨#[35]⟩, .slice (some ⟨w1.heap.size, 0, none⟩) 1 1] 65)).heap.size = r0 at hrg hr0 hrlt HO ⊢
  clear hR hb1 hsz1
  have hmg := h.lts.2.1
  have hma := h.lts.2.2
  go_loopw [3] (fun out wr => ∃ todo dn, RangeIs Value.string Value.bool wr mg r0 g todo ∧ Hid ((todo ++ dn).Perm g) ∧ OutL wr w.heap.size [r0] out ((⟨#[35]⟩, [strN k]) :: dn.map rowG) ∧ Below w.heap.size w wr) (fun _ wr => wr.rangeLeft mg r0)
  case atStart => exact ⟨g, [], hrg, hid (by simp), HO, hB⟩
  case round =>
    obtain ⟨todo, dn, hrg1, hP, hO, hB1⟩ := hrel
    go_wp2_with (at_next; refine wpList_next_is _ rfl _ rfl mg r0 g todo rfl hrg1 ?_ ?_)
    · refine ⟨fun h0 => ?_⟩
      have hdn : dn.Perm g := by have := hP.out; rw [h0] at this; simpa using this
      have HDN := hid hdn
      have hw := h.below hB1
      have cA := hw.cA
      clear hdn hP h0 hrg1 HO hrg hB
      go_wp2_with (at_range; refine wpList_range_is _ rfl _ 51 rfl Tryz.underlying51 ma a rfl hw.ats ?_; intro ob2 hrg2)
      go_frame
      have hB2 : Below w.heap.size w (wr.alloc ob2) := hB1.alloc hB1.size _
      have hr1 := hB1.size
      have HO2 : OutL (wr.alloc ob2) w.heap.size [wr.heap.size] u3 (((⟨#[35]⟩, [strN k]) :: dn.map rowG) ++ ([] : Ats).map rowA) := by
        rw [List.map_nil, List.append_nil]
        exact (hO.avoid (by simp)).below ((Below.refl _ _).alloc (Nat.le_refl _) _)
      clear hO hw cA hB1
      generalize wr.alloc ob2 = W4 at hrg2 hB2 HO2 ⊢
      generalize wr.heap.size = r1 at hrg2 hr1 HO2 ⊢
      go_loopw [3] (fun out wx => ∃ todo da, RangeIs encP (Value.int .i64) wx ma r1 a todo ∧ Hid ((todo ++ da).Perm a) ∧ OutL wx w.heap.size [r1] out (((⟨#[35]⟩, [strN k]) :: dn.map rowG) ++ da.map rowA) ∧ Below w.heap.size w wx) (fun _ wx => wx.rangeLeft ma r1)
      case atStart => exact ⟨a, [], hrg2, hid (by simp), HO2, hB2⟩
      case round =>
        clear HO2 hB2 hrg2
        obtain ⟨todo, da, hrg1, hP, hO, hB1⟩ := hrel
        go_wp2_with (at_next; refine wpList_next_is _ rfl _ rfl ma r1 a todo rfl hrg1 ?_ ?_)
        · refine ⟨fun h0 => ?_⟩
          have hda : da.Perm a := by have := hP.out; rw [h0] at this; simpa using this
          have HDA := hid hda
          have hlen2 : dn.length = g.length := HDN.out.length_eq
          have hlen3 : da.length = a.length := HDA.out.length_eq
          have hL2 := HL.out
          have t8 := sort_out hO (by simp) (by simp; omega)
          have HO2 := hid hO
          clear hda hP h0 hrg1 hlen2 hlen3 hL2 hO
          go_wp2_with (go_at_call 25; refine t8.mono ?_; rintro e w8 ⟨rfl, t', hO8, hp8, hs8, hx8⟩; have HS8 := hid hs8; have HP8 := hid hp8; clear hs8 hp8)
          go_ret
          have hbx : Below w.heap.size wr w8 := hx8.below (fun k hk => by
            cases ho : u3.ownBlock with
            | none => rw [ho] at hk; cases hk
            | some j => rw [ho] at hk; simp at hk; subst hk; exact (HO2.out.own ho).1) hB1.size
          obtain ⟨l8, h1, h2, _⟩ := hO8
          refine ⟨_, l8, rfl, h1, ?_, ?_, hB1.trans hbx⟩
          · rw [h2]
            refine HP8.out.trans ?_
            unfold rowsL
            rw [Int.toNat_natCast, List.cons_append]
            exact ((HDN.out.map rowG).append (HDA.out.map rowA)).cons _
          · rw [h2]; exact HS8.out
        · refine ⟨fun x v t1 t2 w3 ob3 ht hw3 hrg3 hen3 => ?_⟩
          have HT := hid ht
          clear ht
          obtain ⟨e0, hsz⟩ := exc_step (r0 := r1) (ob3 := ob3) hw3
          clear hw3
          generalize w3.putObj r1 ob3 = W5 at hrg3 hen3 e0 hsz ⊢
          generalize w3.heap.size = z5 at hsz
          subst hsz
          obtain ⟨x1, x2⟩ := x
          simp only [encP] at hen3 ⊢
          have hmem : ((x1, x2), v) ∈ a := by have := hP.out; rw [HT.out] at this; exact this.subset (by simp)
          obtain ⟨hx1, hx2, hv0, hv1⟩ := HA.out _ hmem
          simp only at hx1 hx2 hv0 hv1
          have hlen1 : todo.length + da.length = a.length := by have := hP.out.length_eq; simpa using this
          have hlen2 : dn.length = g.length := HDN.out.length_eq
          have hL2 := HL.out
          have hlen : (((⟨#[35]⟩, [strN k]) :: dn.map rowG) ++ da.map rowA).length ≤ 999999 := by simp; omega
          have HLN := hid hlen
          clear hmem hlen1 hlen2 hL2 hlen
          obtain ⟨kv, rfl⟩ : ∃ kv : Nat, v = (kv : Int) := ⟨v.toNat, by omega⟩
          go_wp2
          have r6 : Row (W5.alloc (.cells #[.string x1, .string x2] 59)) W5.heap.size 59 [.string x1, .string x2] := Row.newAt rfl rfl
          have hb6 : Below W5.heap.size W5 (W5.alloc (.cells #[.string x1, .string x2] 59)) := (Below.refl _ _).alloc (Nat.le_refl _) _
          generalize W5.alloc (.cells #[.string x1, .string x2] 59) = W6 at r6 hb6 ⊢
          obtain ⟨z5, hz5⟩ : ∃ z5, W5.heap.size = z5 := ⟨_, rfl⟩
          rw [hz5] at r6 ⊢
          have c1 := r6.drew.cell (i := 0) rfl
          have c2 := r6.drew.cell (i := 1) rfl
          have t6 := numberK_any kv (by omega) W6.drew ((hT.below (hB1.trans (e0.below (by simpa using hr1) hB1.size))).below hb6.drew)
          have HB6 := hid hb6
          have HZ5 := hid hz5
          have HWZ : Hid (wr.heap.size ≤ z5) := hid (by rw [← hz5]; exact e0.size)
          have hs1 : x1.size + 1 ≤ 9223372036854775807 := by omega
          have hs2 : x1.size + 1 + x2.size ≤ 9223372036854775807 := by omega
          clear hz5 hb6
          have cS := t6.mono (R' := fun e w' => ∃ v, e = .returned v ∧ (v = .string (strN kv) ∧ Below W6.drew.heap.size W6.drew w')) (fun e w' h => ⟨_, h.1, rfl, h.2⟩)
          have hS : W6.drew.cell? ⟨z5, 0, none⟩ = some (.string x1) ∧ W6.drew.cell? ⟨z5, 1, none⟩ = some (.string x2) := ⟨c1, c2⟩
          refine held_start (fun wq => wq.cell? ⟨z5, 0, none⟩ = some (.string x1) ∧ wq.cell? ⟨z5, 1, none⟩ = some (.string x2)) (by kernel_rfl) ?_
          refine held_take 0 41 (u3) rfl rfl (by kernel_rfl) (by kernel_rfl) (by kernel_rfl) (fun _ _ _ h => h) (by rfl) hS (fun w hw => by go_simp) ?_
          go_frame
          refine held_take 1 42 (.pointer (some ⟨z5, 0, none⟩)) rfl rfl (by kernel_rfl) (by kernel_rfl) (by kernel_rfl) (fun _ _ _ h => h) (by rfl) hS (fun w hw => by go_simp) ?_
          go_frame
          refine held_take 4 45 (.pointer (some ⟨z5, 1, none⟩)) rfl rfl (by kernel_rfl) (by kernel_rfl) (by kernel_rfl) (fun _ _ _ h => h) (by rfl) hS (fun w hw => by go_simp) ?_
          go_frame
          refine held_take 7 48 (.int .i64 kv) rfl rfl (by kernel_rfl) (by kernel_rfl) (by kernel_rfl) (fun _ _ _ h => h) (by rfl) hS (fun w hw => by go_simp) ?_
          go_frame
          refine held_take 2 43 (.string x1) rfl rfl (by kernel_rfl) (by kernel_rfl) (by kernel_rfl) (fun _ _ _ h => h) (by rfl) hS (fun w hw => by have hc := hw.1; go_simp) ?_
          go_frame
          refine held_take 5 46 (.string x2) rfl rfl (by kernel_rfl) (by kernel_rfl) (by kernel_rfl) (fun _ _ _ h => h) (by rfl) hS (fun w hw => by have hc := hw.2; go_simp) ?_
          go_frame
          refine held_take 3 44 (.string (x1 ++ ⟨#[47]⟩)) rfl rfl (by kernel_rfl) (by kernel_rfl) (by kernel_rfl) (fun _ _ _ h => h) (by rfl) hS (fun w hw => by go_simp) ?_
          go_frame
          refine held_take 6 47 (.string (x1 ++ ⟨#[47]⟩ ++ x2)) rfl rfl (by kernel_rfl) (by kernel_rfl) (by kernel_rfl) (fun _ _ _ h => h) (by rfl) hS (fun w hw => by go_simp) ?_
          go_frame
          refine held_call 8 49 24 #[.int .i64 kv] _ (by kernel_rfl) rfl rfl (by rfl) (by go_simp) cS ?_
          rintro v w7 ⟨rfl, hb7⟩
          have r7 := (r6.drew.below hb7 r6.drew.lt)
          have hzl := r7.lt
          obtain ⟨v4, w4, hrun4, hO4, hB4, hrg4, hkp⟩ := rows_round2 (x1 := x1) (x2 := x2) (kv := kv) hO hB1 hma hr1 e0 hrg3 HB6.out.drew hb7 HLN.out 39
          have r4 := hkp _ _ _ HWZ.out r7
          have hS : w7.cell? ⟨z5, 0, none⟩ = some (.string x1) ∧ w7.cell? ⟨z5, 1, none⟩ = some (.string x2) := ⟨r7.cell (i := 0) rfl, r7.cell (i := 1) rfl⟩
          refine ⟨hS, ?_⟩
          go_frame
          refine held_one 9 50 (.slice (some ⟨w7.heap.size, 0, none⟩) 1 1) (w7.alloc (.cells #[.string (strN kv)] 9)) (by kernel_rfl) rfl rfl (by rfl) (by go_simp) (⟨(r7.alloc _).cell (i := 0) rfl, (r7.alloc _).cell (i := 1) rfl⟩) ?_
          go_frame
          have hS : (w7.alloc (.cells #[.string (strN kv)] 9)).cell? ⟨z5, 0, none⟩ = some (.string x1) ∧ (w7.alloc (.cells #[.string (strN kv)] 9)).cell? ⟨z5, 1, none⟩ = some (.string x2) := ⟨(r7.alloc _).cell (i := 0) rfl, (r7.alloc _).cell (i := 1) rfl⟩
          refine held_take 10 51 (.agg #[.string (x1 ++ ⟨#[47]⟩ ++ x2), .slice (some ⟨w7.heap.size, 0, none⟩) 1 1]) rfl rfl (by kernel_rfl) (by kernel_rfl) (by kernel_rfl) (fun _ _ _ h => h) (by rfl) hS (fun w hw => by go_simp) ?_
          go_frame
          refine held_one 11 52 (.slice (some ⟨w7.heap.size + 1, 0, none⟩) 1 1) ((w7.alloc (.cells #[.string (strN kv)] 9)).alloc (.cells #[.string (x1 ++ ⟨#[47]⟩ ++ x2), .slice (some ⟨w7.heap.size, 0, none⟩) 1 1] 65)) (by kernel_rfl) rfl rfl (by rfl) (by go_simp) (⟨((r7.alloc _).alloc _).cell (i := 0) rfl, ((r7.alloc _).alloc _).cell (i := 1) rfl⟩) ?_
          go_frame
          refine held_one 12 53 (v4) (w4) (by kernel_rfl) rfl rfl (by rfl) (by go_simp) (⟨r4.cell (i := 0) rfl, r4.cell (i := 1) rfl⟩) ?_
          go_frame
          have hS : w4.cell? ⟨z5, 0, none⟩ = some (.string x1) ∧ w4.cell? ⟨z5, 1, none⟩ = some (.string x2) := ⟨r4.cell (i := 0) rfl, r4.cell (i := 1) rfl⟩
          refine held_take 13 3 (v4) rfl rfl (by kernel_rfl) (by kernel_rfl) (by kernel_rfl) (fun _ _ _ h => h) (by rfl) hS (fun w hw => by go_simp) ?_
          go_frame
          refine held_end (by kernel_rfl) ?_
          go_wp2
          refine ⟨⟨t1 ++ t2, da ++ [((x1, x2), (kv : Int))], hrg4, hid ?_, ?_, hB4⟩, ?_⟩
          · have h1 := hP.out
            rw [HT.out] at h1
            refine List.Perm.trans ?_ h1
            simp only [List.append_assoc, List.cons_append]
            refine List.Perm.append_left t1 ?_
            exact (List.perm_append_comm (l₁ := t2 ++ da) (l₂ := [((x1, x2), (kv : Int))])).trans (by simp) |> (List.Perm.trans (by simp))
          · rw [List.map_append, ← List.append_assoc]; exact hO4
          · rw [hrg4.left, hrg1.left, HT.out]; simp
    · refine ⟨fun x v t1 t2 w3 ob3 ht hw3 hrg3 hen3 => ?_⟩
      have hlen : todo.length + dn.length = g.length := by have := hP.out.length_eq; simpa using this
      have hL2 := HL.out
      obtain ⟨v4, w4, hrun4, hO4, hB4, hrg4⟩ := rows_round1 (x := x) (v := v) hO hB1 hmg hr0 hw3 hrg3 (by omega) 39
      have HT := hid ht
      clear hO ht hw3 hlen hL2
      go_wp2
      refine ⟨⟨t1 ++ t2, dn ++ [(x, v)], hrg4, hid ?_, hO4, hB4⟩, ?_⟩
      · have h1 := hP.out
        rw [HT.out] at h1
        refine List.Perm.trans ?_ h1
        simp only [List.append_assoc, List.cons_append]
        refine List.Perm.append_left t1 ?_
        exact (List.perm_append_comm (l₁ := t2 ++ dn) (l₂ := [(x, v)])).trans (by simp) |> (List.Perm.trans (by simp))
      · rw [hrg4.left, hrg1.left, HT.out]; simp
end Go.Proofs.YtbemljgcclaopaaGreatDoor
