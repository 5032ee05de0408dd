/- hash.Derive at parts without a zero byte. -/
import Derived.Test.YtbemljgcclaopaaGreatDoorK3
namespace Go.Proofs.YtbemljgcclaopaaGreatDoor
open Go.RowKit
theorem results_row_tmp {P : Program} {fn : Func} {p q : Tmp} {ty : TypeId} (h : fn.results = #[.cell p ty, .tmp q]) (tmps : Array Value) (w : World) (g : Nat) (t : TypeId) (cs : Array Value) (fr : Nat × Nat) (d : TypeDesc)
    (hp : tmps.getD p undef = .pointer (some ⟨g, 0, none⟩)) (hg : w.heap[g]? = some (.cells cs t fr))
    (hu : P.underlying ty = some d) (hd : (match d with | .struct _ | .array _ _ => true | _ => false) = true) (hi : (P.info? ty).map (·.size) = some cs.size) :
    (results fn tmps).run P w = .ok (.tuple #[.agg cs, tmps.getD q undef]) w := by
  have hp' : tmps[p]?.getD undef = .pointer (some ⟨g, 0, none⟩) := by simpa using hp
  simp [results, h, hp', asAddr, run_loadVar_row w g t ty cs fr d hg hu hd hi]
def derB (key : List Int) (ps : List ByteArray) : List Int := tagB key (keyL ps)
set_option maxRecDepth 100000 in
set_option maxHeartbeats 2000000 in
theorem derive_any (key : List Int) (hkb : ∀ x ∈ key, Byte x) (hkl : key.length = 32) (ps : List ByteArray) (hz : ∀ p ∈ ps, NoZero p) (hl : (keyL ps).length ≤ 64) (h1 : 1 ≤ ps.length) (h8 : ps.length ≤ 8) (a0 : Option Addr) (n c0 : Nat) (hn : ps.length = n) (hc : n ≤ c0) (w : World) (hs : Src w a0 (ps.map Value.string)) :
    Calls Tryz.prog 47 #[.agg (Ints .u8 key).toArray, .slice a0 n c0] w fun e w' => e = .returned (.tuple #[.agg (Ints .u8 (derB key ps)).toArray, .int .i64 0]) ∧ Below w.heap.size w w' := by
  have HKB := hid hkb
  have HKL := hid hkl
  have HL := hid hl
  have HZ := hid hz
  clear hkb hkl hl hz
  go_enter Tryz.func47, Tryz.ntmps47
  have hR0 : Row ((w.alloc (.cells (Ints .u8 key).toArray 23)).alloc (.cells (Ints .u8 (List.replicate 32 0)).toArray 23)) w.heap.size 23 (Ints .u8 key) := (Row.newAt rfl rfl).alloc _
  have hR1 : Row ((w.alloc (.cells (Ints .u8 key).toArray 23)).alloc (.cells (Ints .u8 (List.replicate 32 0)).toArray 23)) (w.heap.size + 1) 23 (Ints .u8 (List.replicate 32 0)) := Row.newAt (by simp) rfl
  have hB0 : Below w.heap.size w ((w.alloc (.cells (Ints .u8 key).toArray 23)).alloc (.cells (Ints .u8 (List.replicate 32 0)).toArray 23)) := ((Below.refl _ w).alloc (Nat.le_refl _) _).alloc (by simp) _
  have hsz : ((w.alloc (.cells (Ints .u8 key).toArray 23)).alloc (.cells (Ints .u8 (List.replicate 32 0)).toArray 23)).heap.size = w.heap.size + 2 := by simp
  have t1 := key_any ps HZ.out HL.out h1 h8 a0 n c0 hn hc _ (hs.below hB0 (Nat.le_refl _))
  go_wp2_with (first
    | (go_at_call 64; refine t1.mono ?_; rintro e w1 ⟨v, rfl, hown, hb⟩; obtain ⟨a1, c1, rfl, hvl, hc1, hm1, hs1, hz1, hb1⟩ := own_src' hown; have hr0 := hR0.below hb hR0.lt; have hr1 := hR1.below hb hR1.lt; have hbw := hB0.trans (hb.mono (by omega)); have t2 := tag_any (some ⟨w.heap.size, 0, none⟩) a1 32 32 _ c1 key (keyL ps) HKB.out (keyL_byte ps) w1 (Src.rowAll hr0) hs1 HKL.out (by omega) (fun h => by cases h) rfl hc1 hz1 (by omega) (by have := HL.out; omega))
    | (go_at_call 65; (with_reducible refine Calls.mono t2 ?_); rintro e w2 ⟨rfl, hb2⟩; have hr2 := hr1.below hb2 hr1.lt)
    | (refine wpList_store_row rfl 23 (.tmp 4) (.tmp 19) rfl (w.heap.size + 1) (Ints .u8 (tagB key (keyL ps))).toArray rfl rfl 23 (Ints .u8 (List.replicate 32 0)).toArray hr2 (by rw [List.size_toArray, ints_len, tagB_len]; kernel_rfl) (by rw [List.size_toArray, List.size_toArray, ints_len, ints_len, tagB_len]; rfl) (by rw [Array.all_eq_true_iff_forall_mem]; intro u hu; exact ints_one _ _ u (by simpa using hu)) ?_))
  have hlt := hbw.size
  refine bodyPost_ret (v := .tuple #[.agg (Ints .u8 (derB key ps)).toArray, .int .i64 0]) ?_ rfl ⟨rfl, below_setRow (hbw.trans (hb2.mono hlt)) (by omega) _⟩
  exact results_row_tmp (p := 4) (q := 5) rfl _ _ (w.heap.size + 1) 23 _ (0, 0) _ rfl (setRow_heap _ _ _ _ _ _ hr2) Tryz.underlying23 rfl (by rw [List.size_toArray, ints_len, show (derB key ps).length = 32 from rfl]; kernel_rfl)
end Go.Proofs.YtbemljgcclaopaaGreatDoor
