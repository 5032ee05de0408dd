/- codec.ToNumber. -/
import Derived.Test.YtbemljgcclaopaaGreatDoorK5
import Derived.Test.YtbemljgcclaopaaGreatDoorT2
namespace Go.Proofs.YtbemljgcclaopaaGreatDoor
open Go.RowKit
def hexC : List UInt8 := [48, 49, 50, 51, 52, 53, 54, 55, 56, 57, 97, 98, 99, 100, 101, 102]
/-- Is a text a number? -/
def numF (l : List UInt8) : Bool :=
  match l with
  | [] => false
  | c :: ds => decide ((c.toNat : Int) = 97 + ds.length) && decide (ds.length ≤ 16) && !Lib.hasPrefix ds [48] && (Lib.trimS ds hexC).isEmpty
def toE (l : List UInt8) : Int := if numF l = true then (if 4611686018427387904 < valH (l.drop 1) then 2 else 0) else 3
def toN (l : List UInt8) : Int := if toE l = 0 then valH (l.drop 1) else 0
theorem trimS_all {l cs : List UInt8} (h : Lib.trimS l cs = []) : ∀ x ∈ l, x ∈ cs := by
  unfold Lib.trimS Lib.trimLeftS Lib.trimRightS at h
  have h3 := dropWhile_nil h
  have h4 : ∀ (p : UInt8 → Bool) (l : List UInt8), (∀ x ∈ (l.dropWhile p), p x = true) → ∀ x ∈ l, p x = true := by
    intro p l
    induction l with
    | nil => intro _ x hx; cases hx
    | cons y l ih =>
      intro hd x hx
      by_cases hy : p y = true
      · rw [List.dropWhile_cons, if_pos hy] at hd
        rcases List.mem_cons.1 hx with rfl | hx
        · exact hy
        · exact ih hd x hx
      · rw [List.dropWhile_cons, if_neg hy] at hd
        exact hd x hx
  intro x hx
  have := h4 (fun x => cs.contains x) l.reverse (fun y hy => h3 y (List.mem_reverse.2 hy)) x (by simpa using hx)
  simpa using this
theorem hexC_hexB {c : UInt8} (h : c ∈ hexC) : HexB c := by
  simp only [hexC, List.mem_cons, List.not_mem_nil, or_false] at h
  unfold HexB
  rcases h with rfl | rfl | rfl | rfl | rfl | rfl | rfl | rfl | rfl | rfl | rfl | rfl | rfl | rfl | rfl | rfl <;> decide
set_option maxRecDepth 100000 in
set_option maxHeartbeats 2000000 in
theorem toNumber_any (s : ByteArray) (hs : s.size ≤ 9223372036854775807) (w : World) :
    Calls Tryz.prog 52 #[.string s] w fun e w' => e = .returned (.tuple #[.int .i64 (toN s.data.toList), .int .i64 (toE s.data.toList)]) ∧ Below w.heap.size w w' := by
  obtain ⟨L, hL⟩ : ∃ L, s.data.toList = L := ⟨_, rfl⟩
  have hsz : s.size = L.length := by rw [Lib.size_eq, hL]
  rw [hL]
  cases L with
  | nil =>
    have hemp : s.toList.isEmpty = true := by
      rw [← decide_eq_emptyBytes]
      refine decide_eq_true ?_
      obtain ⟨⟨d⟩⟩ := s
      simp at hL
      subst hL; rfl
    have hE : toE [] = 3 := rfl
    have hN : toN [] = 0 := rfl
    rw [hE, hN]
    clear hE hN hsz hL
    go_enter Tryz.func52, Tryz.ntmps52
    go_wp2
    go_ret2
    exact ⟨rfl, Below.refl _ _⟩
  | cons c ds =>
    have hne : ¬ s.toList = [] := by
      intro h
      have : s.toList.isEmpty = true := by rw [h]; rfl
      rw [← decide_eq_emptyBytes] at this
      have := of_decide_eq_true this
      rw [this] at hsz; simp at hsz
    have h0 : 0 < s.size := by rw [hsz]; simp
    have hix : s[0] = c := by
      have : s.data.toList[0]? = some c := by rw [hL]; rfl
      have h2 : s.data.toList[0]? = some (s[0]'h0) := by
        rw [Array.getElem?_toList, Array.getElem?_eq_getElem (by simpa using h0)]; rfl
      rw [h2] at this; simpa using this
    have hc256 := c.toNat_lt
    have hw1 : wrap64 (c.toNat : Int) = c.toNat := by unfold wrap64; omega
    have hD : (s.extract 1 s.size).data.toList = ds := by
      rw [Lib.extract_to_end, hL]; rfl
    obtain ⟨D, hDe⟩ : ∃ D, s.extract 1 s.size = D := ⟨_, rfl⟩
    rw [hDe] at hD
    have hDs : D.size = ds.length := by rw [Lib.size_eq, hD]
    have HSZ := hid hsz
    have HD := hid hD
    have HDS := hid hDs
    clear hL
    by_cases h1 : (c.toNat : Int) = 97 + ds.length
    · have hsz' : s.size = ds.length + 1 := by rw [hsz]; rfl
      have hw2 : wrap64 (wrap64 (97 + (s.size : Int)) - 1) = 96 + s.size := by unfold wrap64; omega
      have hc1 : (c.toNat : Int) = 97 + (s.size : Int) - 1 := by omega
      by_cases h17 : s.size ≤ 17
      · have h16 : ds.length ≤ 16 := by omega
        have t1 := Tryz.strings_HasPrefix D ⟨#[48]⟩ w
        rw [hD] at t1
        have h17' : (s.size : Int) ≤ 17 := by omega
        by_cases hp : Lib.hasPrefix ds [48] = true
        · have hE : toE (c :: ds) = 3 := by unfold toE numF; simp [hp]
          have hN : toN (c :: ds) = 0 := by unfold toN; rw [hE]; rfl
          have hE' := hid hE
          have hN' := hid hN
          have t1' : Calls Tryz.prog 67 #[.string D, .string ⟨#[48]⟩] w fun e w' => e = .returned (.bool true) ∧ w' = w := t1.mono (fun e w' h => by rw [show (⟨#[48]⟩ : ByteArray).data.toList = [48] from rfl, hp] at h; exact h)
          clear hE hN hsz hsz' hD hDs h1 hs t1 hp
          go_enter Tryz.func52, Tryz.ntmps52
          go_wp2_with (go_at_call 67; refine t1'.mono ?_; rintro e w' ⟨rfl, rfl⟩)
          all_goals
            go_ret2
            rw [hE'.out, hN'.out]
            exact ⟨rfl, Below.refl _ _⟩
        · have t1' : Calls Tryz.prog 67 #[.string D, .string ⟨#[48]⟩] w fun e w' => e = .returned (.bool false) ∧ w' = w := t1.mono (fun e w' h => by rw [show (⟨#[48]⟩ : ByteArray).data.toList = [48] from rfl, show Lib.hasPrefix ds [48] = false by simpa using hp] at h; exact h)
          have t2 := Tryz.strings_Trim D ⟨hexC.toArray⟩ w (by omega) (by decide) (by exact ascii_of_all (by decide))
          rw [hD, show (⟨hexC.toArray⟩ : ByteArray).data.toList = hexC by simp] at t2
          obtain ⟨T, hT⟩ : ∃ T, Lib.trimS ds hexC = T := ⟨_, rfl⟩
          rw [hT] at t2
          by_cases hT0 : T = []
          · subst hT0
            have hall := trimS_all hT
            have hhx : ∀ x ∈ ds, HexB x := fun x hx => hexC_hexB (hall x hx)
            have hnf : numF (c :: ds) = true := by unfold numF; simp [h1, h16, hp, hT]
            have hcc : ((⟨#[48]⟩ : ByteArray) ++ D).data.toList = 48 :: ds := by
              rw [ByteArray.data_append]; simp [hD]
            have t3 := fun w' => parseUintP_16 ((⟨#[48]⟩ : ByteArray) ++ D) ds hcc hhx h16 w'
            obtain ⟨R, hR⟩ : ∃ R, valH ds = R := ⟨_, rfl⟩
            have hRlt : R < 18446744073709551616 := by
              rw [← hR]
              have := valH_lt ds hhx
              have h2 : (16 : Nat) ^ ds.length ≤ 16 ^ 16 := Nat.pow_le_pow_right (by decide) h16
              have h3 : (16 : Nat) ^ 16 = 18446744073709551616 := by decide
              omega
            rw [hR] at t3
            obtain ⟨r, hr⟩ : ∃ r : Int, (R : Int) = r := ⟨_, rfl⟩
            rw [hr] at t3
            have hr0 : 0 ≤ r := by omega
            have hs1 : 1 + D.size ≤ 9223372036854775807 := by omega
            by_cases hbig : 4611686018427387904 < R
            · have hE : toE (c :: ds) = 2 := by unfold toE; rw [hnf, if_pos rfl, List.drop_succ_cons, List.drop_zero, hR, if_pos hbig]
              have hN : toN (c :: ds) = 0 := by unfold toN; rw [hE]; rfl
              have hE' := hid hE
              have hN' := hid hN
              have hbig' : (4611686018427387904 : Int) < r := by omega
              clear hE hN hsz hsz' hD hDs h1 hs t1 hp hall hhx hnf hcc hR hT hbig hr hRlt
              go_enter Tryz.func52, Tryz.ntmps52
              go_wp2_with (first
                | (go_at_call 67; refine t1'.mono ?_; rintro e w' ⟨rfl, rfl⟩)
                | (go_at_call 61; refine t2.mono ?_; rintro e w1 ⟨rfl, hb1⟩)
                | (go_at_call 68; refine (t3 _).mono ?_; rintro e w2 ⟨rfl, hb2⟩))
              all_goals first
                | (go_ret2; rw [hE'.out, hN'.out]; exact ⟨rfl, hb1.trans (hb2.mono hb1.size)⟩)
                | (exfalso; rcases ‹s.toList.isEmpty = true ∨ (17 : Int) < (s.size : Int)› with hh | hh; exact hne (by simpa using hh); omega)
            · have hE : toE (c :: ds) = 0 := by unfold toE; rw [hnf, if_pos rfl, List.drop_succ_cons, List.drop_zero, hR, if_neg hbig]
              have hN : toN (c :: ds) = r := by unfold toN; rw [hE, if_pos rfl, List.drop_succ_cons, List.drop_zero, hR, hr]
              have hE' := hid hE
              have hN' := hid hN
              have hbig' : r ≤ (4611686018427387904 : Int) := by omega
              have hwr : wrap64 r = r := by unfold wrap64; omega
              clear hE hN hsz hsz' hD hDs h1 hs t1 hp hall hhx hnf hcc hR hT hbig hr hRlt
              go_enter Tryz.func52, Tryz.ntmps52
              go_wp2_with (first
                | (go_at_call 67; refine t1'.mono ?_; rintro e w' ⟨rfl, rfl⟩)
                | (go_at_call 61; refine t2.mono ?_; rintro e w1 ⟨rfl, hb1⟩)
                | (go_at_call 68; refine (t3 _).mono ?_; rintro e w2 ⟨rfl, hb2⟩))
              all_goals first
                | (go_ret2; rw [hE'.out, hN'.out]; exact ⟨rfl, hb1.trans (hb2.mono hb1.size)⟩)
                | (exfalso; rcases ‹s.toList.isEmpty = true ∨ (17 : Int) < (s.size : Int)› with hh | hh; exact hne (by simpa using hh); omega)
          · have hE : toE (c :: ds) = 3 := by
              unfold toE numF
              have : T.isEmpty = false := by simpa using hT0
              simp [hT, this]
            have hN : toN (c :: ds) = 0 := by unfold toN; rw [hE]; rfl
            have hE' := hid hE
            have hN' := hid hN
            have hTf : (!T.isEmpty) = true := by simpa using hT0
            clear hE hN hsz hsz' hD hDs h1 hs t1 hp hT
            go_enter Tryz.func52, Tryz.ntmps52
            go_wp2_with (first
              | (go_at_call 67; refine t1'.mono ?_; rintro e w' ⟨rfl, rfl⟩)
              | (go_at_call 61; refine t2.mono ?_; rintro e w1 ⟨rfl, hb1⟩))
            all_goals first
              | (go_ret2; rw [hE'.out, hN'.out]; exact ⟨rfl, hb1⟩)
              | (exfalso; rcases ‹s.toList.isEmpty = true ∨ (17 : Int) < (s.size : Int)› with hh | hh; exact hne (by simpa using hh); omega)
      · have hE : toE (c :: ds) = 3 := by
          unfold toE numF
          have : ¬ ds.length ≤ 16 := by omega
          simp [this]
        have hN : toN (c :: ds) = 0 := by unfold toN; rw [hE]; rfl
        have hE' := hid hE
        have hN' := hid hN
        have h17' : (17 : Int) < (s.size : Int) := by omega
        clear hE hN hsz hsz' hD hDs h1 hDe hs
        go_enter Tryz.func52, Tryz.ntmps52
        go_wp2
        all_goals
          go_ret2
          rw [hE'.out, hN'.out]
          exact ⟨rfl, Below.refl _ _⟩
    · have hE : toE (c :: ds) = 3 := by unfold toE numF; simp [h1]
      have hN : toN (c :: ds) = 0 := by unfold toN; rw [hE]; rfl
      have hE' := hid hE
      have hN' := hid hN
      have hz1 : ¬ (c.toNat : Int) = wrap64 (wrap64 (97 + (s.size : Int)) - 1) := by
        have hsz' : s.size = ds.length + 1 := by rw [hsz]; rfl
        unfold wrap64; omega
      clear hE hN hsz hD hDs h1 hDe hs
      go_enter Tryz.func52, Tryz.ntmps52
      go_wp2
      go_ret2
      rw [hE'.out, hN'.out]
      exact ⟨rfl, Below.refl _ _⟩
end Go.Proofs.YtbemljgcclaopaaGreatDoor
