/- seal.hidden, seal.tagOf. -/
import Derived.Laws.OwnMore
import Derived.Deep.AppendLies
import Derived.Test.YtbemljgcclaopaaGreatDoorC4
namespace Go.Proofs.YtbemljgcclaopaaGreatDoor
open Go.RowKit
theorem upH_prefix (key : List Int) (once : Int) {m m' : Nat} (h : m ≤ m') : upH key once m = (upH key once m').take m := by
  unfold upH
  rw [← List.map_take, List.take_range, Nat.min_eq_left h]
theorem flatH_prefix (key : List Int) (once : Int) {m m' n : Nat} (h : m ≤ m') (hn : n ≤ 32 * m) : (flatH (upH key once m)).take n = (flatH (upH key once m')).take n := by
  have e : upH key once m' = upH key once m ++ (upH key once m').drop m := by
    rw [upH_prefix key once h, List.take_append_drop]
  rw [e]
  have : ∀ a b : List H32, flatH (a ++ b) = flatH a ++ flatH b := fun a b => by simp [flatH]
  rw [this, List.take_append_of_le_length]
  rw [flatH_len, upH_len]; exact hn
/-- The stream's first n bytes. -/
def strB (key : List Int) (once : Int) (n : Nat) : List Int := (flatH (upH key once n)).take n
theorem strB_len (key : List Int) (once : Int) (n : Nat) : (strB key once n).length = n := by
  unfold strB; rw [List.length_take, flatH_len, upH_len]; omega
theorem strB_eq (key : List Int) (once : Int) {m n : Nat} (h : n ≤ 32 * m) : (flatH (upH key once m)).take n = strB key once n := by
  unfold strB
  rcases Nat.le_total m n with h' | h'
  · exact flatH_prefix key once h' h
  · exact (flatH_prefix key once h' (by omega)).symm
def xorL (l m : List Int) : List Int := List.zipWith xorB l m
def xorTo (l m : List Int) (k : Nat) : List Int := (xorL l m).take k ++ l.drop k
theorem xorL_len {l m : List Int} (h : l.length = m.length) : (xorL l m).length = l.length := by simp [xorL, h]
theorem xorTo_zero (l m : List Int) : xorTo l m 0 = l := by simp [xorTo]
theorem xorTo_all {l m : List Int} {k : Nat} (h : l.length = m.length) (hk : k = l.length) : xorTo l m k = xorL l m := by
  subst hk; rw [xorTo, List.drop_length, List.append_nil, List.take_of_length_le (by rw [xorL_len h]; exact Nat.le_refl _)]
theorem xorTo_len {l m : List Int} (k : Nat) (h : l.length = m.length) : (xorTo l m k).length = l.length := by
  rw [xorTo, List.length_append, List.length_take, List.length_drop, xorL_len h]; omega
theorem xorTo_at {l m : List Int} {k : Nat} (h : l.length = m.length) (hk : k < l.length) : (xorTo l m k)[k]? = some (l[k]?.getD 0) := by
  have h1 : ((xorL l m).take k).length = k := by rw [List.length_take, xorL_len h]; omega
  unfold xorTo
  rw [List.getElem?_append_right (by omega), h1]
  simp [hk]
theorem xorTo_step {l m : List Int} {k : Nat} (h : l.length = m.length) (hk : k < l.length) : (xorTo l m k).set k (xorB (l[k]?.getD 0) (m[k]?.getD 0)) = xorTo l m (k + 1) := by
  have h1 : ((xorL l m).take k).length = k := by rw [List.length_take, xorL_len h]; omega
  have h2 : ((xorL l m).take (k + 1)).length = k + 1 := by rw [List.length_take, xorL_len h]; omega
  apply List.ext_getElem?
  intro j
  rw [List.getElem?_set]
  by_cases hj : k = j
  · subst hj
    rw [if_pos rfl, if_pos (by rw [xorTo_len _ h]; exact hk)]
    unfold xorTo
    rw [List.getElem?_append_left (by omega), List.getElem?_take, if_pos (by omega)]
    have hk' : k < m.length := by omega
    simp [xorL, List.getElem?_zipWith, hk, hk']
  · rw [if_neg hj]
    unfold xorTo
    by_cases hlt : j < k
    · rw [List.getElem?_append_left (by omega), List.getElem?_append_left (by omega), List.getElem?_take, List.getElem?_take, if_pos hlt, if_pos (by omega)]
    · rw [List.getElem?_append_right (by omega), List.getElem?_append_right (by omega), h1, h2]
      simp only [List.getElem?_drop]
      congr 1; omega
theorem xorL_byte (l m : List Int) : ∀ x ∈ xorL l m, Byte x := by
  intro x hx
  obtain ⟨i, hi, rfl⟩ := List.mem_iff_getElem.1 hx
  simp only [xorL, List.getElem_zipWith]
  exact xorB_byte _ _
/-- Bytes hidden by the stream of a key and a number. -/
def hidB (key : List Int) (once : Int) (d : List Int) : List Int := xorL (strB key once d.length) d
theorem hidB_len (key : List Int) (once : Int) (d : List Int) : (hidB key once d).length = d.length := by
  unfold hidB; rw [xorL_len (strB_len _ _ _), strB_len]
theorem ints_set (k : IntKind) (l : List Int) (i : Nat) (x : Int) : (Ints k l).set i (.int k x) = Ints k (l.set i x) := by simp [Ints, List.map_set]
set_option maxRecDepth 100000 in
set_option maxHeartbeats 2000000 in
theorem hidden_any (key : List Int) (hkb : ∀ x ∈ key, Byte x) (hkl : key.length = 32) (once : Int) (ho : U64 once) (a2 : Option Addr) (n c2 : Nat) (d : List Int) (hd : ∀ x ∈ d, Byte x) (w : World)
    (hs : Src w a2 (Ints .u8 d)) (hdl : d.length = n) (hc : n ≤ c2) (hn : n ≤ 1024) :
    Calls Tryz.prog 49 #[.agg (Ints .u8 key).toArray, .int .u64 once, .slice a2 n c2] w fun e w' => ∃ v, e = .returned v ∧ OwnB w' w.heap.size v (hidB key once d) ∧ Below w.heap.size w w' := by
  have HKB := hid hkb
  have HKL := hid hkl
  have HO := hid ho
  have HD := hid hd
  have HDL := hid hdl
  clear hkb hkl ho hd hdl
  go_enter Tryz.func49, Tryz.ntmps49
  have hR0 : Row (w.alloc (.cells (Ints .u8 key).toArray 23)) w.heap.size 23 (Ints .u8 key) := Row.newAt rfl rfl
  have hB0 : Below w.heap.size w (w.alloc (.cells (Ints .u8 key).toArray 23)) := (Below.refl _ w).alloc (Nat.le_refl _) _
  go_wp2_with (first
    | (refine wpList_load_row rfl 23 (.tmp 3) rfl w.heap.size rfl 23 (Ints .u8 key).toArray (0, 0) _ hR0 Tryz.underlying23 rfl (by rw [List.size_toArray, ints_len, HKL.out]; kernel_rfl) ?_)
    | (go_at_call 66; refine (stream_any key HKB.out HKL.out once HO.out n hn _).mono ?_; rintro e w1 ⟨v, rfl, ⟨m, hm, hown0⟩, hb1⟩; rw [strB_eq key once hm] at hown0; have hsz1 := hb1.size; have hown1 : OwnB w1 w.heap.size v (strB key once n) := own_mono hown0 (by simp); obtain ⟨a1, c1, hv, hvl, hc1, _, _, hz1, _⟩ := own_src' hown1; rw [strB_len] at hv hc1; subst hv; clear hown0 hm))
  have hbw := hB0.trans (hb1.mono (by simp))
  have HB1 := hid hbw
  clear hbw hb1 hz1 hvl
  have hown2 : OwnB w1 w.heap.size (.slice a1 n c1) (xorTo (strB key once n) d 0) := by rw [xorTo_zero]; exact hown1
  have hll : (strB key once n).length = d.length := by rw [strB_len, HDL.out]
  have HLL := hid hll
  have hSN := hid (strB_len key once n)
  clear hown1 hll
  go_loopw [21] (fun i wx => ∃ j : Nat, j ≤ n ∧ i = .int .i64 j ∧ OwnB wx w.heap.size (.slice a1 n c1) (xorTo (strB key once n) d j) ∧ Below w.heap.size w wx) (fun i _ => n - (intOf i).toNat)
  case atStart => exact ⟨0, by omega, rfl, hown2, HB1.out⟩
  case round =>
    clear hown2
    obtain ⟨j, hj, rfl, hown, hB⟩ := hrel
    by_cases hjn : j < n
    · have hl : (xorTo (strB key once n) d j).length = n := by rw [xorTo_len _ HLL.out, strB_len]
      unfold OwnB at hown
      rw [hl] at hown
      obtain ⟨g, c, hv, hg1, hg2⟩ := hown.form (by omega)
      cases hv
      have p1 : wr.cell? ⟨g, j, none⟩ = some (.int .u8 ((strB key once n)[j]?.getD 0)) := by
        rw [hown.cellAt j (by omega)]; simp only [Ints, List.getElem?_map]; rw [xorTo_at HLL.out (by rw [strB_len]; exact hjn)]; rfl
      have f1 := hown.frozenAt j
      have hsr := hs.below hB (Nat.le_refl _)
      obtain ⟨b2, off2, rfl, hb2⟩ := hsr.addr (by rw [ints_len, HDL.out]; omega)
      have p2 : wr.cell? ⟨b2, off2 + j, none⟩ = some (.int .u8 (d[j]?.getD 0)) := hsr.at (by simp only [Ints, List.getElem?_map]; rw [List.getElem?_eq_getElem (by rw [HDL.out]; exact hjn)]; rfl)
      have h3 := hown.stored j (.int .u8 (xorB ((strB key once n)[j]?.getD 0) (d[j]?.getD 0)))
      rw [ints_set, xorTo_step HLL.out (by rw [strB_len]; exact hjn)] at h3
      have H3 := hid h3.1
      clear h3 hown hsr hs
      have hjn' : (j : Int) < (n : Int) := by omega
      have hjc : (j : Int) < (c2 : Int) := by omega
      have hjt : ((j : Int)).toNat = j := by omega
      go_wp2
      go_roundw
      case rel =>
        refine ⟨j + 1, by omega, by go_num, ?_, hB.setCell (p := ⟨g, j, none⟩) hg1 _⟩
        unfold OwnB
        rw [xorTo_len _ HLL.out, strB_len]
        exact H3.out
      case measure => simp [intOf]; omega
    · have hj0 : j = n := by omega
      subst hj0
      rw [xorTo_all HLL.out (by rw [strB_len])] at hown
      go_wp2
      go_ret
      refine ⟨_, rfl, ?_, hB⟩
      have hx := xorL_len HLL.out
      rw [hSN.out] at hx
      unfold hidB OwnB
      rw [HDL.out]
      exact hown
theorem Row.sub {w : World} {b : Nat} {e : TypeId} {vs : List Value} (h : Row w b e vs) (i : Nat) : Src w (some ⟨b, i, none⟩) (vs.drop i) := fun j u hj => by
  rw [List.getElem?_drop] at hj
  exact ⟨b, i, rfl, h.cell hj⟩
end Go.Proofs.YtbemljgcclaopaaGreatDoor
