/- keys.Load. -/
import Derived.Test.YtbemljgcclaopaaGreatDoorT7
import Derived.Test.YtbemljgcclaopaaGreatDoorG0
namespace Go.Proofs.YtbemljgcclaopaaGreatDoor
open Go.RowKit
/-- Rows in memory from address ra on. -/
def RowsAt (w : World) (ra : Option Addr) (T : List (ByteArray × List ByteArray)) : Prop :=
  ∃ l : List RT, l.map textR = T ∧ Src w ra (cellsR l) ∧ ∀ p ∈ l, ColsAt w p.1.2 p.2
theorem RowsAt.below {w w' : World} {B : Nat} {ra : Option Addr} {T : List (ByteArray × List ByteArray)} (h : RowsAt w ra T) (hb : Below B w w') (hB : w.heap.size ≤ B) : RowsAt w' ra T := by
  obtain ⟨l, h1, h2, h3⟩ := h
  exact ⟨l, h1, h2.below hb hB, fun p hp => (h3 p hp).below hb hB⟩
theorem cellsR_key : ∀ (l : List RT) (j : Nat) (p : RT), l[j]? = some p → (cellsR l)[2 * j]? = some (.string p.1.1) ∧ (cellsR l)[2 * j + 1]? = some (.slice p.1.2.1 p.1.2.2.1 p.1.2.2.2)
  | [], j, p, h => by simp at h
  | q :: l, 0, p, h => by simp at h; subst h; exact ⟨rfl, rfl⟩
  | q :: l, j + 1, p, h => by
    have ih := cellsR_key l j p (by simpa using h)
    have e1 : 2 * (j + 1) = 2 * j + 2 := by omega
    have e2 : 2 * (j + 1) + 1 = 2 * j + 1 + 2 := by omega
    have e3 : ∀ i, (cellsR (q :: l))[i + 2]? = (cellsR l)[i]? := fun i => by simp [cellsR, encR]
    rw [e2, e3, e1, e3]
    exact ih
/-- What row j is. -/
theorem RowsAt.row {w : World} {ra : Option Addr} {T : List (ByteArray × List ByteArray)} (h : RowsAt w ra T) {j : Nat} {t : ByteArray × List ByteArray} (ht : T[j]? = some t) :
    ∃ b off s, ra = some ⟨b, off, none⟩ ∧ b < w.heap.size ∧ w.cell? ⟨b, off + 2 * j, none⟩ = some (.string t.1) ∧ w.cell? ⟨b, off + (2 * j + 1), none⟩ = some (.slice s.1 s.2.1 s.2.2) ∧ ColsAt w s t.2 := by
  obtain ⟨l, rfl, h2, h3⟩ := h
  rw [List.getElem?_map] at ht
  obtain ⟨p, hp, rfl⟩ := Option.map_eq_some_iff.1 ht
  obtain ⟨k1, k2⟩ := cellsR_key l j p hp
  obtain ⟨b, off, e, c1⟩ := h2 _ _ k1
  subst e
  exact ⟨b, off, p.1.2, rfl, cell_lt c1, c1, h2.at k2, h3 p (List.mem_of_getElem? hp)⟩
theorem OutL.rowsAt {w : World} {base : Nat} {av : List Nat} {out : Value} {T : List (ByteArray × List ByteArray)} (h : OutL w base av out T) (hT : 0 < T.length) : ∃ g cap, out = .slice (some ⟨g, 0, none⟩) T.length cap ∧ T.length ≤ cap ∧ cap ≤ maxLen ∧ RowsAt w (some ⟨g, 0, none⟩) T := by
  obtain ⟨l, ⟨⟨hlen, h1⟩, h2⟩, rfl, _, _⟩ := h
  rcases h1 with ⟨rfl, h0⟩ | ⟨g, cap, cur, rfl, hg, hh, hc, hm, hz, hx⟩
  · rw [List.length_map] at hT; omega
  · refine ⟨g, cap, by rw [List.length_map], by rw [List.length_map]; exact hc, hm, l, rfl, ?_, fun p hp => (h2 p hp).1⟩
    have hr : Row w g 65 cur.toList := by unfold Row; simpa using hh
    rw [← hx]
    exact Src.row hr _
abbrev LdSt := Int × Gone × Ats
def ordOk (prev : Option ByteArray) (k : ByteArray) : Bool := match prev with | some p => ltB p k | none => true
def ldStep (prev : Option ByteArray) (st : LdSt) (k : ByteArray) (cs : List ByteArray) : Option LdSt := if ordOk prev k = true then (if tkB k cs = true then some (tkN st.1 k cs, tkG st.2.1 k cs, tkA st.2.2 k cs) else none) else none
def ldGo : Option ByteArray → LdSt → List (ByteArray × List ByteArray) → Option LdSt
  | _, st, [] => some st
  | prev, st, t :: r => match ldStep prev st t.1 t.2 with | some s => ldGo (some t.1) s r | none => none
def lastK : Option ByteArray → List (ByteArray × List ByteArray) → Option ByteArray
  | prev, [] => prev
  | _, t :: r => lastK (some t.1) r
def goneIn (g : Gone) (a : Ats) : Bool := a.any fun p => (lookA p.1.1 g).getD false
def ldOk (st : LdSt) (n : Nat) : Bool := !goneIn st.2.1 st.2.2 && decide (n = 1 + st.2.1.length + st.2.2.length) && decide (st.2.1.length ≤ 16) && decide (st.2.2.length ≤ 16)
/-- What Load makes of rows. -/
def ldS (T : List (ByteArray × List ByteArray)) : Option LdSt :=
  match ldGo none (0, [], []) T with
  | some st => if ldOk st T.length = true then some st else none
  | none => none
/-- How Load ends. -/
def LdPost (root : List Int) (T : List (ByteArray × List ByteArray)) (w : World) (e : Ending) (w' : World) : Prop :=
  Below w.heap.size w w' ∧ match ldS T with
    | some st => ∃ b mg ma, e = .returned (.tuple #[.pointer (some ⟨b, 0, none⟩), .int .i64 0]) ∧ IsTree w' b mg ma root st.1 st.2.1 st.2.2 ∧ w.heap.size ≤ b ∧ w.heap.size ≤ mg ∧ w.heap.size ≤ ma
    | none => e = .returned (.tuple #[.pointer none, .int .i64 3])
theorem ldGo_snoc (T : List (ByteArray × List ByteArray)) (t : ByteArray × List ByteArray) : ∀ (prev : Option ByteArray) (st : LdSt), ldGo prev st (T ++ [t]) =
    match ldGo prev st T with
    | some s => ldStep (lastK prev T) s t.1 t.2
    | none => none := by
  induction T with
  | nil => intro prev st; simp only [List.nil_append, ldGo, lastK]; cases ldStep prev st t.1 t.2 <;> rfl
  | cons t0 T ih =>
    intro prev st
    simp only [List.cons_append, ldGo, lastK]
    cases ldStep prev st t0.1 t0.2 with
    | none => rfl
    | some s => exact ih _ _
theorem ldGo_take_none {T : List (ByteArray × List ByteArray)} : ∀ {prev : Option ByteArray} {st : LdSt} (j : Nat), ldGo prev st (T.take j) = none → ldGo prev st T = none := by
  induction T with
  | nil => intro prev st j h; simpa using h
  | cons t T ih =>
    intro prev st j h
    cases j with
    | zero => simp [ldGo] at h
    | succ j =>
      simp only [List.take_succ_cons, ldGo] at h ⊢
      cases hs : ldStep prev st t.1 t.2 with
      | none => rfl
      | some s => rw [hs] at h; exact ih j h
theorem lastK_take {T : List (ByteArray × List ByteArray)} : ∀ {prev : Option ByteArray} {j : Nat} {t : ByteArray × List ByteArray}, T[j]? = some t → lastK prev (T.take (j + 1)) = some t.1 := by
  induction T with
  | nil => intro prev j t h; simp at h
  | cons t0 T ih =>
    intro prev j t h
    cases j with
    | zero => simp at h; subst h; rfl
    | succ j => simp only [List.take_succ_cons, lastK]; exact ih (by simpa using h)
theorem ldGo_succ {T : List (ByteArray × List ByteArray)} {j : Nat} {t : ByteArray × List ByteArray} (h : T[j]? = some t) (st : LdSt) : ldGo none st (T.take (j + 1)) =
    match ldGo none st (T.take j) with
    | some s => ldStep (lastK none (T.take j)) s t.1 t.2
    | none => none := by
  obtain ⟨hlt, rfl⟩ := List.getElem?_eq_some_iff.1 h
  rw [List.take_succ_eq_append_getElem hlt, ldGo_snoc]
theorem setA_len {α β : Type} [DecidableEq α] (x : α) (v : β) : ∀ l : List (α × β), (setA x v l).length ≤ l.length + 1
  | [] => Nat.le_refl _
  | p :: l => by
    unfold setA
    split
    · simp
    · have := setA_len x v l; simp only [List.length_cons]; omega
theorem ldStep_len {prev : Option ByteArray} {st s : LdSt} {k : ByteArray} {cs : List ByteArray} (h : ldStep prev st k cs = some s) : s.2.1.length + s.2.2.length ≤ st.2.1.length + st.2.2.length + 1 := by
  unfold ldStep at h
  split at h
  · split at h
    · simp only [Option.some.injEq] at h
      subst h
      show (tkG st.2.1 k cs).length + (tkA st.2.2 k cs).length ≤ _
      unfold tkG tkA
      by_cases h1 : cs = []
      · have h2 : ¬ (colsOk cs = true ∧ k ≠ hashK) := by rw [h1]; unfold colsOk; simp
        rw [if_pos h1, if_neg h2]
        have := setA_len k true st.2.1; omega
      · rw [if_neg h1]
        split
        · have := setA_len ((cutS k).1, (cutS k).2.1) (NumOf cs) st.2.2; omega
        · omega
    · cases h
  · cases h
theorem ldGo_len : ∀ {T : List (ByteArray × List ByteArray)} {prev : Option ByteArray} {st s : LdSt}, ldGo prev st T = some s → s.2.1.length + s.2.2.length ≤ st.2.1.length + st.2.2.length + T.length
  | [], _, _, _, h => by simp only [ldGo, Option.some.injEq] at h; subst h; simp
  | t :: T, prev, st, s, h => by
    simp only [ldGo] at h
    cases hs : ldStep prev st t.1 t.2 with
    | none => rw [hs] at h; cases h
    | some s1 =>
      rw [hs] at h
      have h1 := ldStep_len hs
      have h2 := ldGo_len h
      simp only [List.length_cons]; omega
theorem IsTree.lenG {w : World} {b mg ma : Nat} {root : List Int} {n : Int} {g : Gone} {a : Ats} (h : IsTree w b mg ma root n g a) (hl : g.length ≤ 9223372036854775807) : (Builtin.len_ #[50] 3 #[Value.map (some mg)]).run Tryz.prog w = .ok (.int .i64 g.length) w := by
  obtain ⟨es, cl, hes, hel⟩ := run_mapLen_is g h.gone
  have hg : (getObj mg).run Tryz.prog w = .ok (.map es cl) w := by simp [getObj, Sem.run, hes]
  have u3 := Tryz.underlying3
  simp [Builtin.len_, run_underlying Tryz.underlying50, hg, hel, run_underlying u3]
  simp [goInt, wrap64]
  try omega
theorem IsTree.drewN {w : World} {b mg ma : Nat} {root : List Int} {n : Int} {g : Gone} {a : Ats} (h : IsTree w b mg ma root n g a) (k : Nat) : IsTree (w.drewN k) b mg ma root n g a := h.below ⟨rfl, rfl, rfl, Nat.le_refl _, fun _ _ => rfl⟩
/-- A row has been taken, or not. -/
def LdAt (w wx : World) (b mg ma : Nat) (root : List Int) (r : Value) : Option LdSt → Prop
  | some s => r = .bool false ∧ IsTree wx b mg ma root s.1 s.2.1 s.2.2 ∧ Below w.heap.size w wx
  | none => r = .bool true ∧ Below w.heap.size w wx
theorem ldAt_ok {w wx : World} {b mg ma : Nat} {root : List Int} {prev : Option ByteArray} {st : LdSt} {k : ByteArray} {cs : List ByteArray} (ho : ordOk prev k = true) (ht : IsTree wx b mg ma root (tkN st.1 k cs) (tkG st.2.1 k cs) (tkA st.2.2 k cs)) (hb : Below w.heap.size w wx) :
    LdAt w wx b mg ma root (.bool (!tkB k cs)) (ldStep prev st k cs) := by
  unfold ldStep
  rw [if_pos ho]
  by_cases h : tkB k cs = true
  · rw [if_pos h, h]; exact ⟨rfl, ht, hb⟩
  · rw [if_neg h, show tkB k cs = false by simpa using h]; exact ⟨rfl, hb⟩
theorem ldAt_no {w wx : World} {b mg ma : Nat} {root : List Int} {prev : Option ByteArray} {st : LdSt} {k : ByteArray} {cs : List ByteArray} (ho : ordOk prev k = false) (hb : Below w.heap.size w wx) :
    LdAt w wx b mg ma root (.bool true) (ldStep prev st k cs) := by
  unfold ldStep
  rw [if_neg (by rw [ho]; simp)]; exact ⟨rfl, hb⟩
set_option maxRecDepth 100000 in
set_option maxHeartbeats 2000000 in
theorem load_any (root : List Int) (hb : ∀ x ∈ root, Byte x) (hl : root.length = 32) (ra : Option Addr) (rn rc : Nat) (T : List (ByteArray × List ByteArray)) (hT : T.length = rn) (hrc : rn ≤ rc) (hrn : rn ≤ 4611686018427387904) (hsz : ∀ t ∈ T, t.1.size ≤ 9223372036854775806 ∧ ∀ c ∈ t.2, c.size ≤ 9223372036854775807) (w : World) (hR : RowsAt w ra T) :
    Calls Tryz.prog 11 #[.agg (Ints .u8 root).toArray, .slice ra rn rc] w fun e w' => LdPost root T w e w' := by
  have HB := hid hb
  have HL := hid hl
  have HSZ := hid hsz
  have HT := hid hT
  clear hb hl hsz hT
  go_enter Tryz.func11, Tryz.ntmps11
  have hR0 : Row (w.alloc (.cells (Ints .u8 root).toArray 23)) w.heap.size 23 (Ints .u8 root) := Row.newAt rfl rfl
  have hB0 : Below w.heap.size w (w.alloc (.cells (Ints .u8 root).toArray 23)) := (Below.refl _ w).alloc (Nat.le_refl _) _
  have t1 := new_any root HB.out HL.out (w.alloc (.cells (Ints .u8 root).toArray 23))
  go_wp2_with (first
    | (refine wpList_load_row rfl 23 (.tmp 2) rfl w.heap.size rfl 23 (Ints .u8 root).toArray (0, 0) _ hR0 Tryz.underlying23 rfl (by rw [List.size_toArray, ints_len, HL.out]; kernel_rfl) ?_)
    | (go_at_call 5; refine t1.mono ?_; rintro e w1 ⟨b, mg, ma, rfl, htr, hb1, g1, g2, g3, g4, g5, g6⟩))
  have hbw : Below w.heap.size w w1 := hB0.trans (hb1.mono hB0.size)
  have hs0 := hB0.size
  have k1 : w.heap.size ≤ b := Nat.le_trans hs0 g1
  have k2 : w.heap.size ≤ mg := Nat.le_trans hs0 g2
  have k3 : w.heap.size ≤ ma := Nat.le_trans hs0 g3
  clear t1 hR0 hB0 hb1 g1 g2 g3 g4 g5 g6 hs0
  go_loopw [14] (fun i wr => ∃ (j : Nat) (st : LdSt), j ≤ rn ∧ i = .int .i64 j ∧ Hid (ldGo none (0, [], []) (T.take j) = some st) ∧ IsTree wr b mg ma root st.1 st.2.1 st.2.2 ∧ Below w.heap.size w wr) (fun i _ => rn - (intOf i).toNat)
  case atStart => exact ⟨0, (0, [], []), Nat.zero_le _, rfl, hid rfl, htr, hbw⟩
  case round =>
    obtain ⟨j, st, hj, rfl, hst, hT1, hB1⟩ := hrel
    clear htr hbw
    by_cases hjn : j < rn
    · obtain ⟨t, ht⟩ : ∃ t, T[j]? = some t := ⟨T[j]'(by rw [HT.out]; exact hjn), by simp [HT.out, hjn]⟩
      obtain ⟨b2, off2, sc, rfl, hb2, c1, c2, hcols⟩ := hR.row ht
      have hb2r : b2 < wr.heap.size := Nat.lt_of_lt_of_le hb2 hB1.size
      have d1 : wr.cell? ⟨b2, off2 + j * 2, none⟩ = some (.string t.1) := by rw [Nat.mul_comm j 2]; exact (hB1.cell (p := ⟨b2, off2 + 2 * j, none⟩) hb2).trans c1
      have d2 : wr.cell? ⟨b2, off2 + j * 2 + 1, none⟩ = some (.slice sc.1 sc.2.1 sc.2.2) := by rw [Nat.mul_comm j 2, Nat.add_assoc]; exact (hB1.cell (p := ⟨b2, off2 + (2 * j + 1), none⟩) hb2).trans c2
      have hcr := hcols.below hB1 (Nat.le_refl _)
      have i1 : (0 : Int) ≤ (j : Int) := by omega
      have i2 : (j : Int) < (rn : Int) := by omega
      have hsz := HSZ.out t (List.mem_of_getElem? ht)
      have HTJ := hid ht
      clear c1 c2 hcols
      obtain ⟨k, cs⟩ := t
      obtain ⟨ca, cn, cc⟩ := sc
      simp only at d1 d2 hcr hsz
      have HSK := hid hsz
      have HG : Hid (ldGo none (0, [], []) (T.take (j + 1)) = ldStep (lastK none (T.take j)) st k cs) := hid (by rw [ldGo_succ ht, hst.out])
      clear ht hsz
      go_wp2
      have hrx : Row (wr.alloc (.cells #[.string k, .slice ca cn cc] 65)) wr.heap.size 65 [.string k, .slice ca cn cc] := Row.newAt rfl rfl
      have hbx : Below wr.heap.size wr (wr.alloc (.cells #[.string k, .slice ca cn cc] 65)).drew := ((Below.refl _ _).alloc (Nat.le_refl _) _).drew
      have hB2 : Below w.heap.size w (wr.alloc (.cells #[.string k, .slice ca cn cc] 65)).drew := hB1.trans (hbx.mono hB1.size)
      have hT2 := hT1.below hbx
      have hc2 := hcr.below hbx (Nat.le_refl _)
      generalize (wr.alloc (.cells #[.string k, .slice ca cn cc] 65)) = W2 at hrx hbx hB2 hT2 hc2 ⊢
      have e1 := hrx.drew.cell (i := 0) rfl
      have e2 := hrx.drew.cell (i := 1) rfl
      have hzl := hrx.lt
      have hzw := hB1.size
      have hlts := hT1.lts
      generalize wr.heap.size = z at *
      have t5 := take_meth k (by have := HSK.out; omega) ca cn cc cs HSK.out.2 W2.drew hc2 hT2
      go_cut [37] (fun r wx => LdAt w wx b mg ma root r (ldStep (lastK none (T.take j)) st k cs))
      case first =>
        rcases Nat.eq_zero_or_pos j with hj0 | hj0
        · have ho : ordOk (lastK none (T.take j)) k = true := by rw [hj0]; rfl
          have HO := hid ho
          have hd : decide (0 < j) = false := decide_eq_false (by omega)
          clear ho hj0
          refine any_start (by kernel_rfl) ?_
          refine any_take 0 19 (.int .i64 j) rfl rfl (by kernel_rfl) (by kernel_rfl) (by kernel_rfl) (fun _ _ _ h => h) (by rfl) (fun w => by go_simp) ?_
          go_frame
          refine any_take 1 20 (.bool false) rfl rfl (by kernel_rfl) (by kernel_rfl) (by kernel_rfl) (fun _ _ _ h => h) (by rfl) (fun w => by go_simp) ?_
          go_frame
          refine any_take 2 21 (.bool false) rfl rfl (by kernel_rfl) (by kernel_rfl) (by kernel_rfl) (fun _ _ _ h => h) (by rfl) (fun w => by go_simp) ?_
          go_frame
          refine any_skip 3 22 rfl rfl (by kernel_rfl) (by kernel_rfl) (by kernel_rfl) (fun _ _ _ h => h) (by rfl) ?_
          go_frame
          refine any_skip 4 23 rfl rfl (by kernel_rfl) (by kernel_rfl) (by kernel_rfl) (fun _ _ _ h => h) (by rfl) ?_
          go_frame
          refine any_skip 5 24 rfl rfl (by kernel_rfl) (by kernel_rfl) (by kernel_rfl) (fun _ _ _ h => h) (by rfl) ?_
          go_frame
          refine any_skip 6 25 rfl rfl (by kernel_rfl) (by kernel_rfl) (by kernel_rfl) (fun _ _ _ h => h) (by rfl) ?_
          go_frame
          refine any_skip 7 26 rfl rfl (by kernel_rfl) (by kernel_rfl) (by kernel_rfl) (fun _ _ _ h => h) (by rfl) ?_
          go_frame
          refine any_skip 8 27 rfl rfl (by kernel_rfl) (by kernel_rfl) (by kernel_rfl) (fun _ _ _ h => h) (by rfl) ?_
          go_frame
          refine any_skip 9 28 rfl rfl (by kernel_rfl) (by kernel_rfl) (by kernel_rfl) (fun _ _ _ h => h) (by rfl) ?_
          go_frame
          refine any_skip 10 29 rfl rfl (by kernel_rfl) (by kernel_rfl) (by kernel_rfl) (fun _ _ _ h => h) (by rfl) ?_
          go_frame
          refine any_skip 11 30 rfl rfl (by kernel_rfl) (by kernel_rfl) (by kernel_rfl) (fun _ _ _ h => h) (by rfl) ?_
          go_frame
          refine any_take 12 31 (.bool false) rfl rfl (by kernel_rfl) (by kernel_rfl) (by kernel_rfl) (fun _ _ _ h => h) (by rfl) (fun w => by go_simp) ?_
          go_frame
          refine any_take 13 32 (.bool false) rfl rfl (by kernel_rfl) (by kernel_rfl) (by kernel_rfl) (fun _ _ _ h => h) (by rfl) (fun w => by go_simp) ?_
          go_frame
          refine any_take 14 33 (.pointer (some ⟨b, 0, none⟩)) rfl rfl (by kernel_rfl) (by kernel_rfl) (by kernel_rfl) (fun _ _ _ h => h) (by rfl) (fun w => by go_simp) ?_
          go_frame
          refine any_one 15 34 (.agg #[.string k, .slice ca cn cc]) W2.drew (by kernel_rfl) rfl rfl (by rfl) (by go_simp) ?_
          go_frame
          refine any_call 16 35 23 #[.pointer (some ⟨b, 0, none⟩), .agg #[.string k, .slice ca cn cc]] (fun v w' => v = .bool (tkB k cs) ∧ IsTree w' b mg ma root (tkN st.1 k cs) (tkG st.2.1 k cs) (tkA st.2.2 k cs) ∧ Exc [b, mg, ma] W2.drew w') (by kernel_rfl) rfl rfl (by rfl) (by go_simp) (t5.mono (fun e w' h => ⟨_, h.1, rfl, h.2⟩)) ?_
          rintro v6 w6 ⟨rfl, h6, x6⟩
          go_frame
          refine any_take 17 36 (.bool (!tkB k cs)) rfl rfl (by kernel_rfl) (by kernel_rfl) (by kernel_rfl) (fun _ _ _ h => h) (by rfl) (fun w => by go_simp) ?_
          go_frame
          refine any_take 18 37 (.bool (!tkB k cs)) rfl rfl (by kernel_rfl) (by kernel_rfl) (by kernel_rfl) (fun _ _ _ h => h) (by rfl) (fun w => by go_simp) ?_
          go_frame
          refine any_end (by kernel_rfl) ?_
          go_wp2_with fail
          go_meet
          exact ldAt_ok HO.out h6 (hB2.trans (x6.below (by intro y hy; simp at hy; rcases hy with rfl | rfl | rfl <;> assumption) hB2.size))
        · obtain ⟨tp, htp⟩ : ∃ tp, T[j - 1]? = some tp := ⟨T[j - 1]'(by rw [HT.out]; omega), by rw [List.getElem?_eq_getElem (by rw [HT.out]; omega)]⟩
          obtain ⟨b2', off2', _, e2', _, c1', _⟩ := hR.row htp
          simp only [Option.some.injEq, Addr.mk.injEq, and_true] at e2'
          obtain ⟨rfl, rfl⟩ := e2'
          have hlast : lastK none (T.take j) = some tp.1 := by
            have := lastK_take (prev := none) htp
            rwa [show j - 1 + 1 = j by omega] at this
          obtain ⟨kp, csp⟩ := tp
          simp only at c1' hlast
          have i3 : (0 : Int) ≤ (j : Int) - 1 := by omega
          have i4 : (j : Int) - 1 < (rn : Int) := by omega
          have i5 : ((j : Int) - 1).toNat = j - 1 := by omega
          have i6 : IntKind.i64.wrap ((j : Int) - 1) = (j : Int) - 1 := by simp [IntKind.wrap, IntKind.bits, IntKind.signed]; omega
          have i7 : (1 : Int) ≤ (j : Int) := by omega
          have p1 : W2.drew.cell? ⟨b2, off2 + (j - 1) * 2, none⟩ = some (.string kp) := by
            rw [Nat.mul_comm (j - 1) 2]; exact (hB2.cell (p := ⟨b2, off2 + 2 * (j - 1), none⟩) hb2).trans c1'
          have hd : decide (0 < j) = true := decide_eq_true hj0
          have HLK := hid hlast
          clear c1' htp hlast hj0
          refine any_start (by kernel_rfl) ?_
          refine any_take 0 19 (.int .i64 j) rfl rfl (by kernel_rfl) (by kernel_rfl) (by kernel_rfl) (fun _ _ _ h => h) (by rfl) (fun w => by go_simp) ?_
          go_frame
          refine any_take 1 20 (.bool true) rfl rfl (by kernel_rfl) (by kernel_rfl) (by kernel_rfl) (fun _ _ _ h => h) (by rfl) (fun w => by go_simp) ?_
          go_frame
          refine any_take 2 21 (.bool true) rfl rfl (by kernel_rfl) (by kernel_rfl) (by kernel_rfl) (fun _ _ _ h => h) (by rfl) (fun w => by go_simp) ?_
          go_frame
          refine any_take 3 22 (.slice (some ⟨b2, off2, none⟩) rn rc) rfl rfl (by kernel_rfl) (by kernel_rfl) (by kernel_rfl) (fun _ _ _ h => h) (by rfl) (fun w => by go_simp) ?_
          go_frame
          refine any_take 4 23 (.int .i64 j) rfl rfl (by kernel_rfl) (by kernel_rfl) (by kernel_rfl) (fun _ _ _ h => h) (by rfl) (fun w => by go_simp) ?_
          go_frame
          refine any_take 5 24 (.int .i64 ((j : Int) - 1)) rfl rfl (by kernel_rfl) (by kernel_rfl) (by kernel_rfl) (fun _ _ _ h => h) (by rfl) (fun w => by go_simp) ?_
          go_frame
          refine any_take 6 25 (.pointer (some ⟨b2, off2 + (j - 1) * 2, none⟩)) rfl rfl (by kernel_rfl) (by kernel_rfl) (by kernel_rfl) (fun _ _ _ h => h) (by rfl) (fun w => by go_simp) ?_
          go_frame
          refine any_take 7 26 (.pointer (some ⟨b2, off2 + (j - 1) * 2, none⟩)) rfl rfl (by kernel_rfl) (by kernel_rfl) (by kernel_rfl) (fun _ _ _ h => h) (by rfl) (fun w => by go_simp) ?_
          go_frame
          refine any_take 9 28 (.pointer (some ⟨z, 0, none⟩)) rfl rfl (by kernel_rfl) (by kernel_rfl) (by kernel_rfl) (fun _ _ _ h => h) (by rfl) (fun w => by go_simp) ?_
          go_frame
          refine any_two 8 10 27 29 (.string kp) (.string k) (by kernel_rfl) rfl rfl rfl rfl (by kernel_rfl) (by kernel_rfl) (by rfl) (by rfl) (by rfl) (by rfl) (by go_simp) (by go_simp) (by go_simp) (by go_simp) (by kernel_rfl) (by rfl) ?_
          go_frame
          by_cases hlt : ltB kp k = true
          · have ho : ordOk (lastK none (T.take j)) k = true := by rw [HLK.out]; exact hlt
            have HO := hid ho
            have hlt' : Op.bytesLess kp.toList k.toList = true := hlt
            clear ho hlt
            refine any_take 11 30 (.bool false) rfl rfl (by kernel_rfl) (by kernel_rfl) (by kernel_rfl) (fun _ _ _ h => h) (by rfl) (fun w => by go_simp) ?_
            go_frame
            refine any_take 12 31 (.bool false) rfl rfl (by kernel_rfl) (by kernel_rfl) (by kernel_rfl) (fun _ _ _ h => h) (by rfl) (fun w => by go_simp) ?_
            go_frame
            refine any_take 13 32 (.bool false) rfl rfl (by kernel_rfl) (by kernel_rfl) (by kernel_rfl) (fun _ _ _ h => h) (by rfl) (fun w => by go_simp) ?_
            go_frame
            refine any_take 14 33 (.pointer (some ⟨b, 0, none⟩)) rfl rfl (by kernel_rfl) (by kernel_rfl) (by kernel_rfl) (fun _ _ _ h => h) (by rfl) (fun w => by go_simp) ?_
            go_frame
            refine any_one 15 34 (.agg #[.string k, .slice ca cn cc]) W2.drew (by kernel_rfl) rfl rfl (by rfl) (by go_simp) ?_
            go_frame
            refine any_call 16 35 23 #[.pointer (some ⟨b, 0, none⟩), .agg #[.string k, .slice ca cn cc]] (fun v w' => v = .bool (tkB k cs) ∧ IsTree w' b mg ma root (tkN st.1 k cs) (tkG st.2.1 k cs) (tkA st.2.2 k cs) ∧ Exc [b, mg, ma] W2.drew w') (by kernel_rfl) rfl rfl (by rfl) (by go_simp) (t5.mono (fun e w' h => ⟨_, h.1, rfl, h.2⟩)) ?_
            rintro v6 w6 ⟨rfl, h6, x6⟩
            go_frame
            refine any_take 17 36 (.bool (!tkB k cs)) rfl rfl (by kernel_rfl) (by kernel_rfl) (by kernel_rfl) (fun _ _ _ h => h) (by rfl) (fun w => by go_simp) ?_
            go_frame
            refine any_take 18 37 (.bool (!tkB k cs)) rfl rfl (by kernel_rfl) (by kernel_rfl) (by kernel_rfl) (fun _ _ _ h => h) (by rfl) (fun w => by go_simp) ?_
            go_frame
            refine any_end (by kernel_rfl) ?_
            go_wp2_with fail
            go_meet
            exact ldAt_ok HO.out h6 (hB2.trans (x6.below (by intro y hy; simp at hy; rcases hy with rfl | rfl | rfl <;> assumption) hB2.size))
          · have ho : ordOk (lastK none (T.take j)) k = false := by rw [HLK.out]; simpa [ordOk] using hlt
            have HO := hid ho
            have hlt' : Op.bytesLess kp.toList k.toList = false := by simpa [ltB] using hlt
            clear ho hlt
            refine any_take 11 30 (.bool true) rfl rfl (by kernel_rfl) (by kernel_rfl) (by kernel_rfl) (fun _ _ _ h => h) (by rfl) (fun w => by go_simp) ?_
            go_frame
            refine any_take 12 31 (.bool true) rfl rfl (by kernel_rfl) (by kernel_rfl) (by kernel_rfl) (fun _ _ _ h => h) (by rfl) (fun w => by go_simp) ?_
            go_frame
            refine any_take 13 32 (.bool true) rfl rfl (by kernel_rfl) (by kernel_rfl) (by kernel_rfl) (fun _ _ _ h => h) (by rfl) (fun w => by go_simp) ?_
            go_frame
            refine any_skip 14 33 rfl rfl (by kernel_rfl) (by kernel_rfl) (by kernel_rfl) (fun _ _ _ h => h) (by rfl) ?_
            go_frame
            refine any_skip 15 34 rfl rfl (by kernel_rfl) (by kernel_rfl) (by kernel_rfl) (fun _ _ _ h => h) (by rfl) ?_
            go_frame
            refine any_skip 16 35 rfl rfl (by kernel_rfl) (by kernel_rfl) (by kernel_rfl) (fun _ _ _ h => h) (by rfl) ?_
            go_frame
            refine any_skip 17 36 rfl rfl (by kernel_rfl) (by kernel_rfl) (by kernel_rfl) (fun _ _ _ h => h) (by rfl) ?_
            go_frame
            refine any_take 18 37 (.bool true) rfl rfl (by kernel_rfl) (by kernel_rfl) (by kernel_rfl) (fun _ _ _ h => h) (by rfl) (fun w => by go_simp) ?_
            go_frame
            refine any_end (by kernel_rfl) ?_
            go_wp2_with fail
            go_meet
            exact ldAt_no HO.out hB2
      case rest =>
        clear t5 hT2 hc2 hrx hbx hT1 hcr e1 e2 d1 d2
        rcases hls : ldStep (lastK none (T.take j)) st k cs with _ | s
        · rw [hls] at hcut
          obtain ⟨rfl, hBc⟩ := hcut
          have hno : ldS T = none := by
            have h1 := HG.out
            rw [hls] at h1
            unfold ldS
            rw [ldGo_take_none _ h1]
          have HNO := hid hno
          clear hls hno
          go_wp2
          go_ret2
          unfold LdPost
          rw [HNO.out]
          exact ⟨hBc, rfl⟩
        · rw [hls] at hcut
          obtain ⟨rfl, hTc, hBc⟩ := hcut
          have HG2 : Hid (ldGo none (0, [], []) (T.take (j + 1)) = some s) := hid (by rw [HG.out, hls])
          clear hls HG
          go_wp2
          exact ⟨⟨j + 1, s, by omega, by go_num, HG2, hTc, hBc⟩, by simp [intOf]; omega⟩
    · have hjr : j = rn := by omega
      have hall : ldGo none (0, [], []) T = some st := by
        have := hst.out
        rwa [hjr, ← HT.out, List.take_length] at this
      have HALL := hid hall
      clear hall hst hj hjr
      obtain ⟨n1, g1, a1⟩ := st
      simp only at hT1
      have cA := hT1.cA
      go_wp2_with (at_range; refine wpList_range_is _ rfl _ 51 rfl Tryz.underlying51 ma a1 rfl hT1.ats ?_; intro ob hrg)
      go_frame
      have hlts := hT1.lts
      have hbo : Below wr.heap.size wr (wr.alloc ob) := (Below.refl _ _).alloc (Nat.le_refl _) _
      have hT2 := hT1.below hbo
      have hB2 : Below w.heap.size w (wr.alloc ob) := hB1.trans (hbo.mono hB1.size)
      have hr1 := hB1.size
      clear hT1 cA hB1 hbo
      generalize (wr.alloc ob) = W2 at hrg hT2 hB2 ⊢
      generalize wr.heap.size = r1 at hrg hlts hr1 ⊢
      go_loopw [9] (fun _ wx => ∃ todo dn, RangeIs encP (Value.int .i64) wx ma r1 a1 todo ∧ Hid ((todo ++ dn).Perm a1) ∧ Hid (∀ p ∈ dn, (lookA p.1.1 g1).getD false = false) ∧ IsTree wx b mg ma root n1 g1 a1 ∧ Below w.heap.size w wx) (fun _ wx => wx.rangeLeft ma r1)
      case atStart => exact ⟨a1, [], hrg, hid (by simp), hid (by simp), hT2, hB2⟩
      case round =>
        clear hrg hT2 hB2
        obtain ⟨todo, dn, hrg1, hP, hNG, hT3, hB3⟩ := hrel
        go_wp2_with (at_next; refine wpList_next_is _ rfl _ rfl ma r1 a1 todo rfl hrg1 ?_ ?_)
        · refine ⟨fun h0 => ?_⟩
          have hng : goneIn g1 a1 = false := by
            rw [h0, List.nil_append] at hP
            unfold goneIn
            rw [Bool.eq_false_iff]
            intro hany
            obtain ⟨p, hp, hpt⟩ := List.any_eq_true.1 hany
            rw [hNG.out p (hP.out.symm.subset hp)] at hpt
            cases hpt
          have HNGN := hid hng
          clear hng hP hNG hrg1 h0
          have cG := hT3.cG
          have cA := hT3.cA
          have hle := ldGo_len HALL.out
          rw [HT.out] at hle
          simp only [List.length_nil, Nat.zero_add] at hle
          have lG := fun k => (hT3.drewN k).lenG (by omega)
          have lA := fun k => (hT3.drewN k).lenA (by omega)
          have HOK : Hid (ldS T = if ldOk (n1, g1, a1) rn = true then some (n1, g1, a1) else none) := hid (by unfold ldS; rw [HALL.out, HT.out])
          have HLO : Hid (ldOk (n1, g1, a1) rn = (decide (rn = 1 + g1.length + a1.length) && decide (g1.length ≤ 16) && decide (a1.length ≤ 16))) := hid (by unfold ldOk; simp [HNGN.out])
          obtain ⟨GL, hGL⟩ : ∃ GL, g1.length = GL := ⟨_, rfl⟩
          obtain ⟨AL, hAL⟩ : ∃ AL, a1.length = AL := ⟨_, rfl⟩
          rw [hGL, hAL] at HLO
          simp only [hGL] at lG
          simp only [hAL] at lA
          rw [hGL, hAL] at hle
          clear hGL hAL
          have v1 : IntKind.i64.wrap (1 + (GL : Int)) = 1 + GL := by simp [IntKind.wrap, IntKind.bits, IntKind.signed]; omega
          have v2 : IntKind.i64.wrap (1 + (GL : Int) + AL) = 1 + GL + AL := by simp [IntKind.wrap, IntKind.bits, IntKind.signed]; omega
          go_wp2_with fail
          by_cases h1 : rn = 1 + GL + AL
          · by_cases h2 : GL ≤ 16
            · by_cases h3 : AL ≤ 16
              · have q1 : ((rn : Int) != 1 + GL + AL) = false := by simp; omega
                have q2 : decide ((16 : Int) < (GL : Int)) = false := decide_eq_false (by omega)
                have q3 : decide ((16 : Int) < (AL : Int)) = false := decide_eq_false (by omega)
                have hyes : ldS T = some (n1, g1, a1) := by rw [HOK.out, HLO.out, if_pos (by simp [h1, h2, h3])]
                have HY := hid hyes
                clear h1 h2 h3 hyes
                go_quiet (fail)
                go_wp2
                go_ret2
                unfold LdPost
                rw [HY.out]
                exact ⟨hB3.trans ⟨rfl, rfl, rfl, Nat.le_refl _, fun _ _ => rfl⟩, b, mg, ma, rfl, hT3.drewN _, k1, k2, k3⟩
              · have q1 : ((rn : Int) != 1 + GL + AL) = false := by simp; omega
                have q2 : decide ((16 : Int) < (GL : Int)) = false := decide_eq_false (by omega)
                have q3 : decide ((16 : Int) < (AL : Int)) = true := decide_eq_true (by omega)
                have hno : ldS T = none := by rw [HOK.out, HLO.out, if_neg (by simp; omega)]
                have HY := hid hno
                clear h1 h2 h3 hno
                go_quiet (fail)
                go_wp2
                go_ret2
                unfold LdPost
                rw [HY.out]
                exact ⟨hB3.trans ⟨rfl, rfl, rfl, Nat.le_refl _, fun _ _ => rfl⟩, rfl⟩
            · have q1 : ((rn : Int) != 1 + GL + AL) = false := by simp; omega
              have q2 : decide ((16 : Int) < (GL : Int)) = true := decide_eq_true (by omega)
              have hno : ldS T = none := by rw [HOK.out, HLO.out, if_neg (by simp; omega)]
              have HY := hid hno
              clear h1 h2 hno
              go_quiet (fail)
              go_wp2
              go_ret2
              unfold LdPost
              rw [HY.out]
              exact ⟨hB3.trans ⟨rfl, rfl, rfl, Nat.le_refl _, fun _ _ => rfl⟩, rfl⟩
          · have q1 : ((rn : Int) != 1 + GL + AL) = true := by simp; omega
            have hno : ldS T = none := by rw [HOK.out, HLO.out, if_neg (by simp; omega)]
            have HY := hid hno
            clear h1 hno
            go_quiet (fail)
            go_wp2
            go_ret2
            unfold LdPost
            rw [HY.out]
            exact ⟨hB3.trans ⟨rfl, rfl, rfl, Nat.le_refl _, fun _ _ => rfl⟩, rfl⟩
        · refine ⟨fun x v t1 t2 w3 ob3 ht hw3 hrg3 hen3 => ?_⟩
          have HTT := hid ht
          clear ht
          obtain ⟨e0, hsz⟩ := exc_step (r0 := r1) (ob3 := ob3) hw3
          clear hw3
          have hT4 := hT3.exc e0 (by simp; omega) (by simp; omega) (by simp; omega)
          have hB4 : Below w.heap.size w (w3.putObj r1 ob3) := hB3.trans (e0.below (by simpa using hr1) hB3.size)
          generalize w3.putObj r1 ob3 = W5 at hrg3 hen3 hT4 hB4 hsz e0 ⊢
          generalize w3.heap.size = z5 at hsz
          subst hsz
          obtain ⟨x1, x2⟩ := x
          simp only [encP] at hen3 ⊢
          go_wp2
          have r6 : Row (W5.alloc (.cells #[.string x1, .string x2] 59)) W5.heap.size 59 [.string x1, .string x2] := Row.newAt rfl rfl
          have hb6 : Below W5.heap.size W5 (W5.alloc (.cells #[.string x1, .string x2] 59)).drew := ((Below.refl _ _).alloc (Nat.le_refl _) _).drew
          have hT6 := hT4.below hb6
          have hB6 : Below w.heap.size w (W5.alloc (.cells #[.string x1, .string x2] 59)).drew := hB4.trans (hb6.mono hB4.size)
          have hrl3 := hrg3.lt
          have hrg6 : RangeIs encP (Value.int .i64) (W5.alloc (.cells #[.string x1, .string x2] 59)).drew ma r1 a1 (t1 ++ t2) := hrg3.of_blocks (hb6.block _ hrl3.2) (hb6.block _ hrl3.1)
          generalize W5.alloc (.cells #[.string x1, .string x2] 59) = W6 at r6 hb6 hT6 hB6 hrg6 ⊢
          have c1 := r6.drew.cell (i := 0) rfl
          have cG := hT6.cG
          have hLG := hT6.lookG x1
          generalize W5.heap.size = z5 at c1 ⊢
          obtain ⟨bg, hbg⟩ : ∃ bg, (lookA x1 g1).getD false = bg := ⟨_, rfl⟩
          rw [hbg] at hLG
          have HBG := hid hbg
          clear hbg
          refine any_start (by kernel_rfl) ?_
          refine any_take 0 48 (.pointer (some ⟨b, 0, none⟩)) rfl rfl (by kernel_rfl) (by kernel_rfl) (by kernel_rfl) (fun _ _ _ h => h) (by rfl) (fun w => by go_simp) ?_
          go_frame
          refine any_take 1 49 (.pointer (some ⟨b, 0, none⟩)) rfl rfl (by kernel_rfl) (by kernel_rfl) (by kernel_rfl) (fun _ _ _ h => h) (by rfl) (fun w => by go_simp) ?_
          go_frame
          refine any_take 2 50 (.pointer (some ⟨b, 33, none⟩)) rfl rfl (by kernel_rfl) (by kernel_rfl) (by kernel_rfl) (fun _ _ _ h => h) (by rfl) (fun w => by go_simp) ?_
          go_frame
          refine any_take 4 52 (.pointer (some ⟨z5, 0, none⟩)) rfl rfl (by kernel_rfl) (by kernel_rfl) (by kernel_rfl) (fun _ _ _ h => h) (by rfl) (fun w => by go_simp) ?_
          go_frame
          refine any_two 3 5 51 53 (.map (some mg)) (.string x1) (by kernel_rfl) rfl rfl rfl rfl (by kernel_rfl) (by kernel_rfl) (by rfl) (by rfl) (by rfl) (by rfl) (by go_simp) (by go_simp) (by go_simp) (by go_simp) (by kernel_rfl) (by rfl) ?_
          go_frame
          refine any_one 6 54 (.bool bg) (W6.drew) (by kernel_rfl) rfl rfl (by rfl) (by go_simp) ?_
          go_frame
          refine any_end (by kernel_rfl) ?_
          cases bg
          · go_wp2
            refine ⟨⟨t1 ++ t2, dn ++ [((x1, x2), v)], hrg6, hid ?_, hid ?_, hT6, hB6⟩, ?_⟩
            · have h1 := hP.out
              rw [HTT.out] at h1
              refine List.Perm.trans ?_ h1
              simp only [List.append_assoc, List.cons_append]
              refine List.Perm.append_left t1 ?_
              exact (List.perm_append_comm (l₁ := t2 ++ dn) (l₂ := [((x1, x2), v)])).trans (by simp) |> (List.Perm.trans (by simp))
            · intro p hp
              rcases List.mem_append.1 hp with hp | hp
              · exact hNG.out p hp
              · simp only [List.mem_singleton] at hp; subst hp; exact HBG.out
            · rw [hrg6.left, hrg1.left, HTT.out]; simp
          · have hno : ldS T = none := by
              unfold ldS
              rw [HALL.out]
              have hm : ((x1, x2), v) ∈ a1 := by have h1 := hP.out; rw [HTT.out] at h1; exact h1.subset (by simp)
              have : goneIn g1 a1 = true := List.any_eq_true.2 ⟨_, hm, HBG.out⟩
              unfold ldOk
              simp [this]
            have HNO := hid hno
            clear hno
            go_wp2
            go_ret2
            unfold LdPost
            rw [HNO.out]
            exact ⟨hB6, rfl⟩
end Go.Proofs.YtbemljgcclaopaaGreatDoor
