/- holdfastref01.SameBytes. -/
import Derived.Test.YtbemljgcclaopaaGreatDoorT8
namespace Go.Proofs.YtbemljgcclaopaaGreatDoor
open Go.RowKit
theorem take_eq_succ {l m : List Int} {k : Nat} {x y : Int} (h : l.take k = m.take k) (hx : l[k]? = some x) (hy : m[k]? = some y) (hxy : x = y) : l.take (k + 1) = m.take (k + 1) := by
  obtain ⟨h1, rfl⟩ := List.getElem?_eq_some_iff.1 hx
  obtain ⟨h2, rfl⟩ := List.getElem?_eq_some_iff.1 hy
  rw [List.take_succ_eq_append_getElem h1, List.take_succ_eq_append_getElem h2, h, hxy]
attribute [-go_sem] Instr.loadAt
set_option maxRecDepth 100000 in
set_option maxHeartbeats 1000000 in
theorem sameBytes_any (a1 a2 : Option Addr) (n1 c1 n2 c2 : Nat) (d1 d2 : List Int) (h1 : d1.length = n1) (h2 : d2.length = n2) (hm : n1 ≤ 9223372036854775807) (w : World) (hs1 : Src w a1 (Ints .u8 d1)) (hs2 : Src w a2 (Ints .u8 d2)) :
    Calls Tryz.prog 13 #[.slice a1 n1 c1, .slice a2 n2 c2] w fun e w' => e = .returned (.bool (decide (d1 = d2))) ∧ Below w.heap.size w w' := by
  have H1 := hid h1
  have H2 := hid h2
  clear h1 h2
  go_enter Tryz.func13, Tryz.ntmps13
  by_cases hn : n1 = n2
  · subst hn
    go_wp2
    go_loopw [5] (fun i wr => ∃ k : Nat, k ≤ n1 ∧ i = .int .i64 k ∧ Hid (d1.take k = d2.take k) ∧ Below w.heap.size w wr) (fun i _ => n1 - (intOf i).toNat)
    case atStart => exact ⟨0, Nat.zero_le _, rfl, hid (by simp), Below.refl _ _⟩
    case round =>
      obtain ⟨k, hk, rfl, ht, hB⟩ := hrel
      by_cases hkn : k < n1
      · obtain ⟨b1, o1, rfl, hb1⟩ := hs1.addr (by rw [ints_len, H1.out]; omega)
        obtain ⟨b2, o2, rfl, hb2⟩ := hs2.addr (by rw [ints_len, H2.out]; omega)
        obtain ⟨x, hx⟩ : ∃ x, d1[k]? = some x := ⟨d1[k]'(by rw [H1.out]; exact hkn), by simp [H1.out, hkn]⟩
        obtain ⟨y, hy⟩ : ∃ y, d2[k]? = some y := ⟨d2[k]'(by rw [H2.out]; exact hkn), by simp [H2.out, hkn]⟩
        have p1 : wr.cell? ⟨b1, o1 + k, none⟩ = some (.int .u8 x) := (hs1.below hB (Nat.le_refl _)).at (by simp [Ints, hx])
        have p2 : wr.cell? ⟨b2, o2 + k, none⟩ = some (.int .u8 y) := (hs2.below hB (Nat.le_refl _)).at (by simp [Ints, hy])
        have q1 := fun m => loadB (wr.drewN m) _ _ p1
        have q2 := fun m => loadB (wr.drewN m) _ _ p2
        have i1 : (0 : Int) ≤ (k : Int) := by omega
        have i2 : (k : Int) < (n1 : Int) := by omega
        have HX := hid hx
        have HY := hid hy
        clear hx hy p1 p2
        by_cases hxy : x = y
        · have HT : Hid (d1.take (k + 1) = d2.take (k + 1)) := hid (take_eq_succ ht.out HX.out HY.out hxy)
          have hxb : (x != y) = false := by simpa using hxy
          clear ht
          subst hxy
          go_wp2
          go_quiet (fail)
          go_wp2
          refine ⟨⟨k + 1, by omega, by go_num, HT, hB.trans ⟨rfl, rfl, rfl, Nat.le_refl _, fun _ _ => rfl⟩⟩, by simp [intOf]; omega⟩
        · have hxb : (x != y) = true := by simpa using hxy
          have hne : decide (d1 = d2) = false := decide_eq_false (fun h => hxy (by have h1 := HX.out; rw [h, HY.out] at h1; simpa using h1.symm))
          have HNE := hid hne
          clear hne hxy ht
          go_wp2
          go_quiet (fail)
          go_wp2
          go_ret
          exact ⟨by rw [HNE.out]; rfl, hB.trans ⟨rfl, rfl, rfl, Nat.le_refl _, fun _ _ => rfl⟩⟩
      · have hkk : k = n1 := by omega
        have he : decide (d1 = d2) = true := by
          refine decide_eq_true ?_
          have := ht.out
          rwa [hkk, List.take_of_length_le (by rw [H1.out]; exact Nat.le_refl _), List.take_of_length_le (by rw [H2.out]; exact Nat.le_refl _)] at this
        have HE := hid he
        clear he ht hkk
        go_wp2
        go_ret
        exact ⟨by rw [HE.out]; rfl, hB⟩
  · have hne : decide (d1 = d2) = false := decide_eq_false (fun h => hn (by have := H1.out; have := H2.out; rw [h] at *; omega))
    have HNE := hid hne
    have hnb : ((n1 : Int) != (n2 : Int)) = true := by simp; omega
    clear hne
    go_wp2
    go_ret
    exact ⟨by rw [HNE.out]; rfl, Below.refl _ _⟩
end Go.Proofs.YtbemljgcclaopaaGreatDoor
