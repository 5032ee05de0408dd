/- keys.Seal. -/
import Derived.Test.YtbemljgcclaopaaGreatDoorT3
import Derived.Test.YtbemljgcclaopaaGreatDoorS6
namespace Go.Proofs.YtbemljgcclaopaaGreatDoor
open Go.RowKit
def skE (g : Gone) (n : Int) (t s : ByteArray) (d : List Int) : Int := if curE g t s = 0 then (if 1024 < d.length then 6 else if 1099511627776 ≤ n then 7 else 0) else curE g t s
def skB (root : List Int) (g : Gone) (a : Ats) (n : Int) (t s : ByteArray) (d : List Int) : List Int := if skE g n t s d = 0 then verN a t s :: sealB (keyV root t s (verN a t s).toNat) n d else []
def skN (g : Gone) (n : Int) (t s : ByteArray) (d : List Int) : Int := if skE g n t s d = 0 then n + 1 else n
theorem keyH_len (root : List Int) (g : Gone) (a : Ats) (t s : ByteArray) (v : Int) : (keyH root g a t s v).length = 32 := by unfold keyH; split <;> rfl
theorem keyH_byte (root : List Int) (g : Gone) (a : Ats) (t s : ByteArray) (v : Int) : ∀ x ∈ keyH root g a t s v, Byte x := by
  unfold keyH; split
  · exact tagB_byte _ _
  · intro x hx; rw [List.eq_of_mem_replicate hx]; unfold Byte; omega
theorem loadI (w : World) (a : Addr) (v : Value) (h : w.cell? a = some v) : (Instr.loadAt 3 (.pointer (some a))).run Tryz.prog w = .ok v w := by
  have h5 := Tryz.underlying3
  go_simp
def midE (d : List Int) : Int := if 1024 < d.length then 6 else 0
def midB (key : List Int) (n : Int) (d : List Int) : List Int := if 1024 < d.length then [] else sealB key n d
theorem seal_both (key : List Int) (hkb : ∀ x ∈ key, Byte x) (hkl : key.length = 32) (once : Int) (ho : U64 once) (a2 : Option Addr) (n c2 : Nat) (d : List Int) (hd : ∀ x ∈ d, Byte x) (w : World)
    (hs : Src w a2 (Ints .u8 d)) (hdl : d.length = n) (hc : n ≤ c2) :
    Calls Tryz.prog 20 #[.agg (Ints .u8 key).toArray, .int .u64 once, .slice a2 n c2] w fun e w' => ∃ v, e = .returned (.tuple #[v, .int .i64 (midE d)]) ∧ OwnB w' w.heap.size v (midB key once d) ∧ Below w.heap.size w w' := by
  by_cases h : 1024 < n
  · refine (seal_long key once a2 n c2 w h).mono ?_
    rintro e w' ⟨rfl, hb⟩
    have h' : 1024 < d.length := by omega
    refine ⟨.slice none 0 0, by unfold midE; rw [if_pos h'], by unfold midB; rw [if_pos h']; exact World.ownsRow_nil _ _ _ _, hb⟩
  · refine (seal_any key hkb hkl once ho a2 n c2 d hd w hs hdl hc (by omega)).mono ?_
    rintro e w' ⟨v, rfl, hown, hb⟩
    have h' : ¬ 1024 < d.length := by omega
    exact ⟨v, by unfold midE; rw [if_neg h'], by unfold midB; rw [if_neg h']; exact hown, hb⟩
theorem Exc.next {s s' : List Nat} {a b c : World} (h : Exc s a b) (k : Exc s' b c) (hs : ∀ i ∈ s', a.heap.size ≤ i ∨ i ∈ s) : Exc s a c :=
  ⟨k.os.trans h.os, k.tape.trans h.tape, k.output.trans h.output, Nat.le_trans h.size k.size, fun i h1 h2 => (k.block i (Nat.lt_of_lt_of_le h1 h.size) (fun hm => by rcases hs i hm with h3 | h3; omega; exact h2 h3)).trans (h.block i h1 h2)⟩
theorem IsTree.lts {w : World} {b mg ma : Nat} {root : List Int} {n : Int} {g : Gone} {a : Ats} (h : IsTree w b mg ma root n g a) : b < w.heap.size ∧ mg < w.heap.size ∧ ma < w.heap.size := by
  obtain ⟨_, _, h1, _⟩ := h.gone
  obtain ⟨_, _, h2, _⟩ := h.ats
  exact ⟨h.row.lt, (Array.getElem?_eq_some_iff.1 h1).1, (Array.getElem?_eq_some_iff.1 h2).1⟩
attribute [-go_sem] Instr.loadAt Builtin.append_
set_option maxRecDepth 100000 in
set_option maxHeartbeats 2000000 in
theorem sealK_meth (t s : ByteArray) (ht : t.size ≤ 9223372036854775807) (hs : s.size ≤ 9223372036854775807) (a2 : Option Addr) (m c2 : Nat) (d : List Int) (hd : ∀ x ∈ d, Byte x) (w : World) (hT : Tz w) {b mg ma : Nat} {root : List Int} {n : Int} {g : Gone} {a : Ats} (h : IsTree w b mg ma root n g a)
    (hn : 0 ≤ n ∧ n ≤ 4611686018427387904) (ha : verN a t s ≤ 16) (hsd : Src w a2 (Ints .u8 d)) (hdl : d.length = m) (hc : m ≤ c2) :
    Calls Tryz.prog 6 #[.pointer (some ⟨b, 0, none⟩), .string t, .string s, .slice a2 m c2] w fun e w' => ∃ v, e = .returned (.tuple #[v, .int .i64 (skE g n t s d)]) ∧ OwnB w' w.heap.size v (skB root g a n t s d) ∧ IsTree w' b mg ma root (skN g n t s d) g a ∧ Exc [b] w w' := by
  have HD := hid hd
  have HDL := hid hdl
  clear hd hdl
  have t1 := current_any t s ht hs w h
  go_enter Tryz.func6, Tryz.ntmps6
  by_cases hcu : curE g t s = 0
  · have hN : curN g a t s = verN a t s := by unfold curN; rw [if_pos hcu]
    rw [hcu, hN] at t1
    have hv1 : 1 ≤ verN a t s := by unfold verN; omega
    have hkE : keyE g a t s (verN a t s) = 0 := by unfold keyE; rw [if_pos hcu, if_neg (by omega)]
    have hkH : keyH root g a t s (verN a t s) = keyV root t s (verN a t s).toNat := by unfold keyH; rw [hkE]; rfl
    go_wp2_with (first
      | (go_at_call 18; refine t1.mono ?_; rintro e w1 ⟨rfl, hb1⟩; have t2 := key_meth t s ht hs (verN a t s) w1 (hT.below hb1) (h.below hb1) ha; rw [hkE, hkH] at t2)
      | (go_at_call 19; refine t2.mono ?_; rintro e w2 ⟨rfl, hb2⟩)
      | (refine wpList_store_row rfl 23 (.tmp 12) (.tmp 31) rfl w2.heap.size (Ints .u8 (keyV root t s (verN a t s).toNat)).toArray rfl rfl 23 (Ints .u8 (List.replicate 32 0)).toArray (Row.newAt rfl rfl) (by rw [List.size_toArray, ints_len, show (keyV root t s (verN a t s).toNat).length = 32 from rfl]; kernel_rfl) (by rw [List.size_toArray, List.size_toArray, ints_len, ints_len]; rfl) (by rw [Array.all_eq_true_iff_forall_mem]; intro u hu; exact ints_one _ _ u (by simpa using hu)) ?_))
    have hbn : Below w2.heap.size w2 ((w2.alloc (.cells #[.int .u8 0, .int .u8 0, .int .u8 0, .int .u8 0, .int .u8 0, .int .u8 0, .int .u8 0, .int .u8 0, .int .u8 0, .int .u8 0, .int .u8 0, .int .u8 0, .int .u8 0, .int .u8 0, .int .u8 0, .int .u8 0, .int .u8 0, .int .u8 0, .int .u8 0, .int .u8 0, .int .u8 0, .int .u8 0, .int .u8 0, .int .u8 0, .int .u8 0, .int .u8 0, .int .u8 0, .int .u8 0, .int .u8 0, .int .u8 0, .int .u8 0, .int .u8 0] 23)).setRow w2.heap.size (Ints .u8 (keyV root t s (verN a t s).toNat)).toArray) := below_setRow ((Below.refl _ _).alloc (Nat.le_refl _) _) (Nat.le_refl _) _
    have hrK : Row ((w2.alloc (.cells #[.int .u8 0, .int .u8 0, .int .u8 0, .int .u8 0, .int .u8 0, .int .u8 0, .int .u8 0, .int .u8 0, .int .u8 0, .int .u8 0, .int .u8 0, .int .u8 0, .int .u8 0, .int .u8 0, .int .u8 0, .int .u8 0, .int .u8 0, .int .u8 0, .int .u8 0, .int .u8 0, .int .u8 0, .int .u8 0, .int .u8 0, .int .u8 0, .int .u8 0, .int .u8 0, .int .u8 0, .int .u8 0, .int .u8 0, .int .u8 0, .int .u8 0, .int .u8 0] 23)).setRow w2.heap.size (Ints .u8 (keyV root t s (verN a t s).toNat)).toArray) w2.heap.size 23 (Ints .u8 (keyV root t s (verN a t s).toNat)) := Row.put (old := Ints .u8 (List.replicate 32 0)) (Row.newAt rfl rfl) _
    have hbw : Below w.heap.size w ((w2.alloc (.cells #[.int .u8 0, .int .u8 0, .int .u8 0, .int .u8 0, .int .u8 0, .int .u8 0, .int .u8 0, .int .u8 0, .int .u8 0, .int .u8 0, .int .u8 0, .int .u8 0, .int .u8 0, .int .u8 0, .int .u8 0, .int .u8 0, .int .u8 0, .int .u8 0, .int .u8 0, .int .u8 0, .int .u8 0, .int .u8 0, .int .u8 0, .int .u8 0, .int .u8 0, .int .u8 0, .int .u8 0, .int .u8 0, .int .u8 0, .int .u8 0, .int .u8 0, .int .u8 0] 23)).setRow w2.heap.size (Ints .u8 (keyV root t s (verN a t s).toNat)).toArray) := (hb1.trans (hb2.mono hb1.size)).trans (hbn.mono (Nat.le_trans hb1.size hb2.size))
    have h5 := h.below hbw
    generalize ((w2.alloc (.cells #[.int .u8 0, .int .u8 0, .int .u8 0, .int .u8 0, .int .u8 0, .int .u8 0, .int .u8 0, .int .u8 0, .int .u8 0, .int .u8 0, .int .u8 0, .int .u8 0, .int .u8 0, .int .u8 0, .int .u8 0, .int .u8 0, .int .u8 0, .int .u8 0, .int .u8 0, .int .u8 0, .int .u8 0, .int .u8 0, .int .u8 0, .int .u8 0, .int .u8 0, .int .u8 0, .int .u8 0, .int .u8 0, .int .u8 0, .int .u8 0, .int .u8 0, .int .u8 0] 23)).setRow w2.heap.size (Ints .u8 (keyV root t s (verN a t s).toNat)).toArray) = W5 at hbn hrK hbw h5 ⊢
    generalize w2.heap.size = hb at *
    generalize hkk : keyV root t s (verN a t s).toNat = K at *
    have hK32 : K.length = 32 := by rw [← hkk]; rfl
    have hKb : ∀ x ∈ K, Byte x := by rw [← hkk]; exact tagB_byte _ _
    have HK32 := hid hK32
    have HKb := hid hKb
    have HKK := hid hkk
    clear hK32 hKb hkk
    have hwn : IntKind.wrap .u64 n = n := by simp [IntKind.wrap, IntKind.bits, IntKind.signed]; omega
    have hl0 := run_load_row (P := Tryz.prog) hrK.drew Tryz.underlying23 rfl (by rw [ints_len, HK32.out]; kernel_rfl)
    have hl1 := loadI W5.drew ⟨b, 32, none⟩ _ h5.cN
    have t5 := seal_both K HKb.out HK32.out n ⟨hn.1, by omega⟩ a2 m c2 d HD.out W5.drew (hsd.below (Below.drew hbw) (Nat.le_refl _)) HDL.out hc
    go_cut [11, 14] (fun x y wx => ∃ v, y = v ∧ x = .int .i64 (midE d) ∧ OwnB wx w.heap.size v (midB K n d) ∧ IsTree wx b mg ma root n g a ∧ Below w.heap.size w wx)
    case first =>
      go_region_with (first
        | (go_at_call 20; (with_reducible refine Calls.mono t5 ?_); rintro e w6 ⟨v6, rfl, hown6, hb6⟩))
      all_goals (go_simp; go_wp2_with fail; go_meet; exact ⟨_, rfl, rfl, own_mono hown6 hbw.size, IsTree.below (w := W5.drew) ⟨h5.row, h5.gone, h5.ats, h5.ne, h5.len, h5.byte⟩ hb6, (Below.drew hbw).trans (hb6.mono hbw.size)⟩)
    case rest =>
      clear hl0 hl1 t5 hrK h5 hbn hbw t2 t1 hkH
      obtain ⟨v, rfl, rfl, hown, h6, hB⟩ := hcut
      by_cases hlong : 1024 < d.length
      · have hE : skE g n t s d = 6 := by unfold skE; rw [if_pos hcu, if_pos hlong]
        have hB' : skB root g a n t s d = [] := by unfold skB; rw [hE]; rfl
        have hN' : skN g n t s d = n := by unfold skN; rw [hE]; rfl
        have hm : midE d = 6 := by unfold midE; rw [if_pos hlong]
        rw [hm]
        have HE := hid hE
        have HB' := hid hB'
        have HN' := hid hN'
        clear hE hB' hN' hm
        go_wp2
        go_ret2
        rw [HE.out, HB'.out, HN'.out]
        exact ⟨_, rfl, World.ownsRow_nil _ _ _ _, h6, Below.exc hB _⟩
      · have hm : midE d = 0 := by unfold midE; rw [if_neg hlong]
        have hmb : midB K n d = sealB K n d := by unfold midB; rw [if_neg hlong]
        rw [hm]
        rw [hmb] at hown
        have c6 := loadI _ _ _ h6.cN
        by_cases hbig : 1099511627776 ≤ n
        · have hE : skE g n t s d = 7 := by unfold skE; rw [if_pos hcu, if_neg hlong, if_pos hbig]
          have hB' : skB root g a n t s d = [] := by unfold skB; rw [hE]; rfl
          have hN' : skN g n t s d = n := by unfold skN; rw [hE]; rfl
          have HE := hid hE
          have HB' := hid hB'
          have HN' := hid hN'
          clear hE hB' hN' hm
          go_wp2
          go_ret2
          rw [HE.out, HB'.out, HN'.out]
          exact ⟨_, rfl, World.ownsRow_nil _ _ _ _, h6, Below.exc hB _⟩
        · have hE : skE g n t s d = 0 := by unfold skE; rw [if_pos hcu, if_neg hlong, if_neg hbig]
          have hB' : skB root g a n t s d = [verN a t s] ++ sealB K n d := by unfold skB; rw [hE, if_pos rfl, HKK.out]; rfl
          have hN' : skN g n t s d = n + 1 := by unfold skN; rw [hE]; rfl
          have HE := hid hE
          have HB' := hid hB'
          have HN' := hid hN'
          clear hE hB' hN' hm
          have hlb := h.row.lt
          have hwc := hB.size
          have fz := h6.row.frozen 32
          have c6c := h6.cN
          have hver : IntKind.wrap .u8 (verN a t s) = verN a t s := by simp [IntKind.wrap, IntKind.bits, IntKind.signed]; omega
          obtain ⟨a7, c7, rfl, hvl, hc7, hm7, hs7, hz7, hb7⟩ := own_src' hown
          have h6' : IsTree (wc.setCell ⟨b, 32, none⟩ (.int .i64 (n + 1))) b mg ma root (n + 1) g a := by
            have he : Exc [b] wc (wc.setCell ⟨b, 32, none⟩ (.int .i64 (n + 1))) := ⟨rfl, rfl, rfl, (KeepsOthers.setCell _ _ _).size, fun k _ hk => Below.heap_setCell _ _ _ _ (by simpa using hk)⟩
            refine ⟨?_, he.map h6.gone (by simpa using Ne.symm h6.neg), he.map h6.ats (by simpa using Ne.symm h6.nea), h6.ne, h6.len, h6.byte⟩
            have := h6.row.set 32 (.int .i64 (n + 1))
            rwa [List.set_append_right _ _ (by rw [ints_len, h6.len]; exact Nat.le_refl _), ints_len, h6.len] at this
          have he : Exc [b] wc (wc.setCell ⟨b, 32, none⟩ (.int .i64 (n + 1))) := ⟨rfl, rfl, rfl, (KeepsOthers.setCell _ _ _).size, fun k _ hk => Below.heap_setCell _ _ _ _ (by simpa using hk)⟩
          have hsz : (wc.setCell ⟨b, 32, none⟩ (.int .i64 (n + 1))).heap.size = wc.heap.size := by simp
          have hs8 := (he.src hs7 (fun b' off sp e => by have := hb7 b' off sp e; simp; omega)).below ((Below.refl _ _).alloc (Nat.le_refl _) (.cells #[.int .u8 (verN a t s)] 5)) (Nat.le_refl _)
          obtain ⟨v8, w8, hrun, hown8, hg8⟩ := run_appB ((wc.setCell ⟨b, 32, none⟩ (.int .i64 (n + 1))).alloc (.cells #[.int .u8 (verN a t s)] 5)) w.heap.size (.slice (some ⟨wc.heap.size, 0, none⟩) 1 1) [verN a t s] (own_lit (Row.newAt hsz.symm rfl) rfl hwc (by decide)) a7 _ c7 (sealB K n d) rfl hs8 (by rw [sealB_len]; simp; omega) (by simp; omega) hz7 24
          go_wp2
          go_ret2
          rw [HE.out, HB'.out, HN'.out]
          have hx := Exc.trans ((Below.exc hB [b]).trans he) (Below.exc ((Below.refl _ _).alloc (Nat.le_refl _) (.cells #[.int .u8 (verN a t s)] 5)) _)
          refine ⟨_, rfl, hown8, ?_, ?_⟩
          · have hl := h6'.lts
            rw [hsz] at hl
            exact (h6'.below ((Below.refl _ _).alloc (Nat.le_refl _) _)).exc (Exc.grown (s := [wc.heap.size]) hg8 (fun k e => by simp [Value.ownBlock] at e; simp [e])) (by simp; omega) (by simp; omega) (by simp; omega)
          · exact hx.next (Exc.grown (s := [wc.heap.size]) hg8 (fun k e => by simp [Value.ownBlock] at e; simp [e])) (fun i hi => by simp at hi; omega)
  · have hE : skE g n t s d = curE g t s := by unfold skE; rw [if_neg hcu]
    have hB' : skB root g a n t s d = [] := by unfold skB; rw [hE, if_neg hcu]
    have hN' : skN g n t s d = n := by unfold skN; rw [hE, if_neg hcu]
    have hN : curN g a t s = 0 := by unfold curN; rw [if_neg hcu]
    rw [hE, hB', hN']
    rw [hN] at t1
    generalize curE g t s = k at *
    clear hE hB' hN' hN
    go_wp2_with (go_at_call 18; refine t1.mono ?_; rintro e w1 ⟨rfl, hb1⟩)
    go_ret2
    exact ⟨_, rfl, World.ownsRow_nil _ _ _ _, h.below hb1, Below.exc hb1 _⟩
end Go.Proofs.YtbemljgcclaopaaGreatDoor
