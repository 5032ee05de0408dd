/- keys.take. -/
import Derived.Test.YtbemljgcclaopaaGreatDoorK7
import Derived.Test.YtbemljgcclaopaaGreatDoorR1
namespace Go.Proofs.YtbemljgcclaopaaGreatDoor
open Go.RowKit
theorem IsTree.upG {w : World} {b mg ma : Nat} {root : List Int} {n : Int} {g : Gone} {a : Ats} (h : IsTree w b mg ma root n g a) (t : ByteArray) : ∃ o, (Instr.mapUpdate 50 (.map (some mg)) (.string t) (.bool true)).run Tryz.prog w = .ok () (w.putObj mg o) ∧ IsTree (w.putObj mg o) b mg ma root n (setA t true g) a ∧ Exc [mg] w (w.putObj mg o) := by
  obtain ⟨o, h1, h2⟩ := run_mapUpdate_is (keyOk_str (P := Tryz.prog) Tryz.underlying9) Tryz.underlying50 g h.gone t true
  have he : Exc [mg] w (w.putObj mg o) := Exc.grown (grownBy_putObj' w mg o) (fun k e => by cases e; simp)
  exact ⟨o, h1, ⟨he.row h.row (by simpa using h.neg), h2, he.map h.ats (by simpa using Ne.symm h.ne), h.ne, h.len, h.byte⟩, he⟩
theorem IsTree.setN {w : World} {b mg ma : Nat} {root : List Int} {n : Int} {g : Gone} {a : Ats} (h : IsTree w b mg ma root n g a) (n' : Int) : IsTree (w.setCell ⟨b, 32, none⟩ (.int .i64 n')) b mg ma root n' g a ∧ Exc [b] w (w.setCell ⟨b, 32, none⟩ (.int .i64 n')) := by
  have he : Exc [b] w (w.setCell ⟨b, 32, none⟩ (.int .i64 n')) := ⟨rfl, rfl, rfl, (KeepsOthers.setCell _ _ _).size, fun k _ hk => Below.heap_setCell _ _ _ _ (by simpa using hk)⟩
  refine ⟨⟨?_, he.map h.gone (by simpa using Ne.symm h.neg), he.map h.ats (by simpa using Ne.symm h.nea), h.ne, h.len, h.byte⟩, he⟩
  have := h.row.set 32 (.int .i64 n')
  rwa [List.set_append_right _ _ (by rw [ints_len, h.len]; exact Nat.le_refl _), ints_len, h.len] at this
def hashK : ByteArray := ⟨#[35]⟩
def NumOf (cs : List ByteArray) : Int := toN (cs.headD ByteArray.empty).data.toList
/-- Is a row well formed as far as its columns go? -/
def colsOk (cs : List ByteArray) : Bool := decide (cs.length = 1) && decide (toE (cs.headD ByteArray.empty).data.toList = 0)
def tkN (n : Int) (k : ByteArray) (cs : List ByteArray) : Int := if colsOk cs = true ∧ k = hashK then NumOf cs else n
def tkG (g : Gone) (k : ByteArray) (cs : List ByteArray) : Gone := if cs = [] then setA k true g else g
def tkA (a : Ats) (k : ByteArray) (cs : List ByteArray) : Ats := if colsOk cs = true ∧ k ≠ hashK then setA ((cutS k).1, (cutS k).2.1) (NumOf cs) a else a
def tkB (k : ByteArray) (cs : List ByteArray) : Bool :=
  if cs = [] then isNameB k else if colsOk cs = true then (if k = hashK then decide (NumOf cs ≤ 1099511627776) else (cutS k).2.2 && isNameB (cutS k).1 && isNameB (cutS k).2.1 && decide (2 ≤ NumOf cs) && decide (NumOf cs ≤ 16)) else false
set_option maxRecDepth 100000 in
set_option maxHeartbeats 2000000 in
theorem take_meth (k : ByteArray) (hk : k.size ≤ 9223372036854775806) (ca : Option Addr) (cn cc : Nat) (cs : List ByteArray) (hcs : ∀ c ∈ cs, c.size ≤ 9223372036854775807) (w : World) (hc : ColsAt w (ca, cn, cc) cs) {b mg ma : Nat} {root : List Int} {n : Int} {g : Gone} {a : Ats} (h : IsTree w b mg ma root n g a) :
    Calls Tryz.prog 23 #[.pointer (some ⟨b, 0, none⟩), .agg #[.string k, .slice ca cn cc]] w fun e w' => e = .returned (.bool (tkB k cs)) ∧ IsTree w' b mg ma root (tkN n k cs) (tkG g k cs) (tkA a k cs) ∧ Exc [b, mg, ma] w w' := by
  obtain ⟨hl, hc1, hc2, hsrc⟩ := hc
  simp only at hl hc1 hc2 hsrc
  have hbx : Below w.heap.size w (w.alloc (.cells #[.string k, .slice ca cn cc] 65)) := (Below.refl _ _).alloc (Nat.le_refl _) _
  have hrx : Row (w.alloc (.cells #[.string k, .slice ca cn cc] 65)) w.heap.size 65 [.string k, .slice ca cn cc] := Row.newAt rfl rfl
  have h1 := h.below hbx
  cases cs with
  | nil =>
    simp only [List.length_nil] at hl
    subst hl
    have hB : tkB k [] = isNameB k := by unfold tkB; rw [if_pos rfl]
    have hN : tkN n k [] = n := by unfold tkN colsOk; simp
    have hG : tkG g k [] = setA k true g := by unfold tkG; rw [if_pos rfl]
    have hA : tkA a k [] = a := by unfold tkA colsOk; simp
    rw [hB, hN, hG, hA]
    clear hB hN hG hA
    go_enter Tryz.func23, Tryz.ntmps23
    go_wp2
    have hmg := h.lts.2.1
    generalize (w.alloc (.cells #[.string k, .slice ca 0 cc] 65)) = W1 at hbx hrx h1 ⊢
    have hbd : Below W1.heap.size W1 W1.drew := (Below.refl _ _).drew
    have h1d := h1.below hbd
    obtain ⟨o, hup, h2, hx⟩ := h1d.upG k
    have e0 := hrx.drew.cell (i := 0) rfl
    have eG := h1d.cG
    have hr2 := hx.row hrx.drew (by simp; omega)
    have e2 := hr2.cell (i := 0) rfl
    have t1 := isName_any k (W1.drew.putObj mg o) (by omega)
    go_region
    all_goals
      go_wp2_with (go_at_call 45; (with_reducible refine Calls.mono t1 ?_); rintro e w3 ⟨rfl, hb3⟩)
      go_ret
      exact ⟨rfl, h2.below hb3, ((Below.exc hbx _).trans (Below.exc hbd _)).next ((hx.next (Below.exc hb3 [mg]) (by simp))) (by simp)⟩
  | cons c0 rest =>
    have hL0 : ¬ cn = 0 := by simp at hl; omega
    have hcn : (cn : Int) = rest.length + 1 := by simp at hl; omega
    have hc0 := hcs c0 (by simp)
    obtain ⟨b2, off2, rfl, hb2⟩ := hsrc.addr (by simp)
    have p0 : w.cell? ⟨b2, off2, none⟩ = some (.string c0) := by
      have := hsrc.at (j := 0) (u := .string c0) rfl
      simpa using this
    obtain ⟨E, hE⟩ : ∃ E, toE c0.data.toList = E := ⟨_, rfl⟩
    obtain ⟨N, hN⟩ : ∃ N, toN c0.data.toList = N := ⟨_, rfl⟩
    have t1 := fun w' => toNumber_any c0 hc0 w'
    rw [hE, hN] at t1
    have hgG : tkG g k (c0 :: rest) = g := by unfold tkG; rw [if_neg (by simp)]
    rw [hgG]
    have q0 := hbx.cell (p := ⟨b2, off2, none⟩) hb2
    rw [p0] at q0
    by_cases hco : colsOk (c0 :: rest) = true
    · have hco' : rest.length = 0 ∧ E = 0 := by
        unfold colsOk at hco
        simpa [hE] using hco
      have hrest : rest = [] := List.length_eq_zero_iff.1 hco'.1
      subst hrest
      have hE0 := hco'.2
      subst hE0
      have hcn1 : cn = 1 := by simpa using hl.symm
      subst hcn1
      have hNum : NumOf [c0] = N := hN
      by_cases hkh : k = hashK
      · have hB : tkB k [c0] = decide (N ≤ 1099511627776) := by unfold tkB; rw [if_neg (by simp), if_pos hco, if_pos hkh, hNum]
        have hN' : tkN n k [c0] = N := by unfold tkN; rw [if_pos ⟨hco, hkh⟩, hNum]
        have hA' : tkA a k [c0] = a := by unfold tkA; rw [if_neg (fun h => h.2 hkh)]
        rw [hB, hN', hA']
        unfold hashK at hkh
        subst hkh
        clear hB hN' hA' hgG hE hN hco hcn hl hco' hNum hcs
        go_enter Tryz.func23, Tryz.ntmps23
        go_wp2_with (go_at_call 52; refine (t1 _).mono ?_; rintro e w3 ⟨rfl, hb3⟩; have r3 := hrx.below hb3 hrx.lt; have e30 := r3.cell (i := 0) rfl; have e31 := r3.cell (i := 1) rfl; have h3 := h1.below hb3; have cN3 := h3.cN; have fz3 := h3.row.frozen 32)
        go_ret
        obtain ⟨h4, x4⟩ := h3.setN N
        exact ⟨rfl, h4, ((Below.exc hbx _).trans (Below.exc hb3 _)).next x4 (by simp)⟩
      · obtain ⟨X, hX⟩ : ∃ X, (cutS k).1 = X := ⟨_, rfl⟩
        obtain ⟨Y, hY⟩ : ∃ Y, (cutS k).2.1 = Y := ⟨_, rfl⟩
        obtain ⟨O, hO⟩ : ∃ O, (cutS k).2.2 = O := ⟨_, rfl⟩
        have hXs := (cutS_size k).1
        have hYs := (cutS_size k).2
        rw [hX] at hXs
        rw [hY] at hYs
        have t2 := fun w' => cut_any k hk w'
        rw [hX, hY, hO] at t2
        have hB : tkB k [c0] = (O && isNameB X && isNameB Y && decide (2 ≤ N) && decide (N ≤ 16)) := by unfold tkB; rw [if_neg (by simp), if_pos hco, if_neg hkh, hNum, hX, hY, hO]
        have hN' : tkN n k [c0] = n := by unfold tkN; rw [if_neg (fun h => hkh h.2)]
        have hA' : tkA a k [c0] = setA (X, Y) N a := by unfold tkA; rw [if_pos ⟨hco, hkh⟩, hNum, hX, hY]
        rw [hB, hN', hA']
        have hq : (k.toList == [35]) = false := by
          rw [Bool.eq_false_iff]
          intro h
          refine hkh (toList_inj ?_)
          rw [eq_of_beq h, Lib.toList_data]; rfl
        have t3 := fun w' => isName_any X w' (by omega)
        have t4 := fun w' => isName_any Y w' (by omega)
        obtain ⟨bx, hbX⟩ : ∃ bx, isNameB X = bx := ⟨_, rfl⟩
        obtain ⟨yb, hbY⟩ : ∃ yb, isNameB Y = yb := ⟨_, rfl⟩
        rw [hbX] at t3 ⊢
        rw [hbY] at t4 ⊢
        clear hB hN' hA' hgG hE hN hco hcn hl hco' hNum hcs hkh hX hY hO hbX hbY
        go_enter Tryz.func23, Tryz.ntmps23
        cases O
        · go_wp2_with (first
            | (go_at_call 52; refine (t1 _).mono ?_; rintro e w3 ⟨rfl, hb3⟩; have r3 := hrx.below hb3 hrx.lt; have e30 := r3.cell (i := 0) rfl; have e31 := r3.cell (i := 1) rfl; have h3 := h1.below hb3)
            | (go_at_call 53; refine (t2 _).mono ?_; rintro e w4 ⟨rfl, hb4⟩; have h4 := h3.below hb4; have cA4 := h4.cA; obtain ⟨o, hup, h5, x5⟩ := h4.upA X Y N))
          go_ret
          exact ⟨rfl, h5, ((Below.exc hbx _).trans ((Below.exc hb3 _).trans (Below.exc hb4 _))).next x5 (by simp)⟩
        · cases bx
          · go_wp2_with (first
              | (go_at_call 52; refine (t1 _).mono ?_; rintro e w3 ⟨rfl, hb3⟩; have r3 := hrx.below hb3 hrx.lt; have e30 := r3.cell (i := 0) rfl; have e31 := r3.cell (i := 1) rfl; have h3 := h1.below hb3)
              | (go_at_call 53; refine (t2 _).mono ?_; rintro e w4 ⟨rfl, hb4⟩; have h4 := h3.below hb4; have cA4 := h4.cA; obtain ⟨o, hup, h5, x5⟩ := h4.upA X Y N)
              | (go_at_call 45; (with_reducible refine Calls.mono (t3 _) ?_); rintro e w6 ⟨rfl, hb6⟩))
            go_ret
            exact ⟨rfl, h5.below hb6, (((Below.exc hbx _).trans ((Below.exc hb3 _).trans (Below.exc hb4 _))).next x5 (by simp)).trans (Below.exc hb6 _)⟩
          · cases yb
            · go_wp2_with (first
                | (go_at_call 52; refine (t1 _).mono ?_; rintro e w3 ⟨rfl, hb3⟩; have r3 := hrx.below hb3 hrx.lt; have e30 := r3.cell (i := 0) rfl; have e31 := r3.cell (i := 1) rfl; have h3 := h1.below hb3)
                | (go_at_call 53; refine (t2 _).mono ?_; rintro e w4 ⟨rfl, hb4⟩; have h4 := h3.below hb4; have cA4 := h4.cA; obtain ⟨o, hup, h5, x5⟩ := h4.upA X Y N)
                | (go_at_call 45; (with_reducible refine Calls.mono (t3 (w4.putObj ma o)) ?_); rintro e w6 ⟨rfl, hb6⟩)
                | (go_at_call 45; (with_reducible refine Calls.mono (t4 w6) ?_); rintro e w7 ⟨rfl, hb7⟩))
              go_ret
              exact ⟨rfl, (h5.below hb6).below hb7, ((((Below.exc hbx _).trans ((Below.exc hb3 _).trans (Below.exc hb4 _))).next x5 (by simp)).trans (Below.exc hb6 _)).trans (Below.exc hb7 _)⟩
            · go_wp2_with (first
                | (go_at_call 52; refine (t1 _).mono ?_; rintro e w3 ⟨rfl, hb3⟩; have r3 := hrx.below hb3 hrx.lt; have e30 := r3.cell (i := 0) rfl; have e31 := r3.cell (i := 1) rfl; have h3 := h1.below hb3)
                | (go_at_call 53; refine (t2 _).mono ?_; rintro e w4 ⟨rfl, hb4⟩; have h4 := h3.below hb4; have cA4 := h4.cA; obtain ⟨o, hup, h5, x5⟩ := h4.upA X Y N)
                | (go_at_call 45; (with_reducible refine Calls.mono (t3 (w4.putObj ma o)) ?_); rintro e w6 ⟨rfl, hb6⟩)
                | (go_at_call 45; (with_reducible refine Calls.mono (t4 w6) ?_); rintro e w7 ⟨rfl, hb7⟩))
              all_goals
                go_ret
                refine ⟨?_, (h5.below hb6).below hb7, ((((Below.exc hbx _).trans ((Below.exc hb3 _).trans (Below.exc hb4 _))).next x5 (by simp)).trans (Below.exc hb6 _)).trans (Below.exc hb7 _)⟩
                by_cases h2N : 2 ≤ N
                · first
                    | (rw [decide_eq_true h2N]; rfl)
                    | (exfalso; omega)
                · first
                    | (rw [decide_eq_false h2N]; rfl)
                    | (exfalso; omega)
    · have hB : tkB k (c0 :: rest) = false := by unfold tkB; rw [if_neg (by simp), if_neg hco]
      have hN' : tkN n k (c0 :: rest) = n := by unfold tkN; rw [if_neg (fun h => hco h.1)]
      have hA' : tkA a k (c0 :: rest) = a := by unfold tkA; rw [if_neg (fun h => hco h.1)]
      rw [hB, hN', hA']
      have hz : E ≠ 0 ∨ ¬ (cn : Int) = 1 := by
        unfold colsOk at hco
        simp only [List.headD_cons, List.length_cons, hE] at hco
        by_cases h1 : E = 0
        · refine .inr (fun h => hco ?_)
          have : rest.length = 0 := by omega
          simp [h1, this]
        · exact .inl h1
      have HZ := hid hz
      clear hB hN' hA' hgG hz hE hN hco hcn hl
      by_cases hE0 : E = 0
      · have hc1' : ¬ (cn : Int) = 1 := by rcases HZ.out with h | h; exact absurd hE0 h; exact h
        subst hE0
        go_enter Tryz.func23, Tryz.ntmps23
        go_wp2_with (go_at_call 52; refine (t1 _).mono ?_; rintro e w3 ⟨rfl, hb3⟩; have r3 := hrx.below hb3 hrx.lt; have e30 := r3.cell (i := 0) rfl; have e31 := r3.cell (i := 1) rfl)
        all_goals
          go_ret
          exact ⟨rfl, h1.below hb3, (Below.exc hbx _).trans ((Below.exc hb3 _))⟩
      · go_enter Tryz.func23, Tryz.ntmps23
        go_wp2_with (go_at_call 52; refine (t1 _).mono ?_; rintro e w3 ⟨rfl, hb3⟩; have r3 := hrx.below hb3 hrx.lt; have e30 := r3.cell (i := 0) rfl; have e31 := r3.cell (i := 1) rfl)
        all_goals
          go_ret
          exact ⟨rfl, h1.below hb3, (Below.exc hbx _).trans ((Below.exc hb3 _))⟩
end Go.Proofs.YtbemljgcclaopaaGreatDoor
