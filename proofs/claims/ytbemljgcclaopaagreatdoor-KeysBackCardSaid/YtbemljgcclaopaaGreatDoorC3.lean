/- The iterator of seal.blocks. -/
import Derived.Stop.RegionWithIn
import Derived.Test.YtbemljgcclaopaaGreatDoorC2
namespace Go.Proofs.YtbemljgcclaopaaGreatDoor
open Go.RowKit
attribute [local go_sem] Oper.semAt_some
/-- The k-th block of the stream. -/
def blkB (key : List Int) (once : Int) (k : Nat) : List Int := tagB key (115 :: (beB once ++ beB (k : Int)))
abbrev H32 := { l : List Int // l.length = 32 ∧ ∀ x ∈ l, Byte x }
def blkH (key : List Int) (once : Int) (k : Nat) : H32 := ⟨blkB key once k, tagB_len _ _, tagB_byte _ _⟩
def upH (key : List Int) (once : Int) (k : Nat) : List H32 := (List.range k).map (blkH key once)
theorem upH_succ (key : List Int) (once : Int) (k : Nat) : upH key once (k + 1) = upH key once k ++ [blkH key once k] := by simp [upH, List.range_succ]
theorem upH_len (key : List Int) (once : Int) (k : Nat) : (upH key once k).length = k := by simp [upH]
theorem Row.mid {w w' : World} {b lo hi : Nat} {e : TypeId} {vs : List Value} (h : Row w b e vs) (hm : Mid lo hi w w') (h1 : lo ≤ b) (h2 : b < hi) : Row w' b e vs := by
  unfold Row at *; rw [hm.block b h1 h2]; exact h
set_option maxRecDepth 100000 in
set_option maxHeartbeats 2000000 in
theorem blocks_endless (n : Nat) (kb ob lo hi N : Nat) (ot : TypeId) (hN : N ≤ 1099511627776) (key : List Int) (hkb : ∀ x ∈ key, Byte x) (hkl : key.length = 32) (once : Int) (ho : U64 once) (w : World)
    (hr : Row w kb 23 (Ints .u8 key)) (hor : Row w ob ot [.int .u64 once]) (h1 : lo ≤ kb ∧ kb < hi) (h2 : lo ≤ ob ∧ ob < hi) (h3 : hi ≤ w.heap.size) :
    SeqEndless Fence.wide n Tryz.prog 120 #[.pointer (some ⟨kb, 0, none⟩), .pointer (some ⟨ob, 0, none⟩)] (fun x : H32 => #[.agg (Ints .u8 x.1).toArray]) (Mid lo hi) (fun pre => pre = upH key once pre.length) N w := by
  intro l J Jx W hW hJ hJx hlen hY h0
  have HLEN := hid hlen
  have HY := hid hY
  have HO := hid ho
  have HKB := hid hkb
  have HKL := hid hkl
  clear hlen hY ho hkb hkl
  refine callsIn_of_wp Tryz.func120 rfl trivial ?_ rfl
  simp only [Tryz.ntmps120, List.size_toArray, List.length_cons, List.length_nil, Nat.reduceAdd, Nat.reduceSub, Array.replicate_succ, Array.replicate_zero, List.push_toArray, List.append_toArray, List.nil_append, List.cons_append]
  gi_wp2
  gi_loopw [4] (fun i wr => ∃ k : Nat, i = .int .u64 k ∧ k < N ∧ J (upH key once k) wr ∧ Mid lo hi W wr) (fun i _ => N - (intOf i).toNat)
  case atStart => exact ⟨0, rfl, by have := HLEN.out [] W h0; simpa using this, h0, Mid.refl _ _ _⟩
  case round =>
    obtain ⟨k, rfl, hk, hj, hB⟩ := hrel
    have hr' := (hr.below hW hr.lt).mid hB h1.1 h1.2
    have ho' := (hor.below hW hor.lt).mid hB h2.1 h2.2
    have oc := ho'.cell (i := 0) rfl
    have hlt1 := hr'.lt
    have hlt2 := ho'.lt
    have hUk : U64 (k : Int) := ⟨by omega, by omega⟩
    have HUk := hid hUk
    clear hUk
    gi_wp2
    have hbl : ∀ x ∈ 115 :: (beB once ++ beB (k : Int)), Byte x := by
      intro x hx
      simp only [List.mem_append, List.mem_cons, List.not_mem_nil, or_false] at hx
      rcases hx with rfl | hx | hx
      · unfold Byte; omega
      · exact beB_byte _ x hx
      · exact beB_byte _ x hx
    have HBL := hid hbl
    clear hbl
    gi_region_with (first
      | (refine ⟨trivial, (fun h => by cases h), ?_⟩; gi_at_call 48; refine (callsIn_wide.2 (eight_any _ _ (by first | exact HO.out | exact HUk.out))).mono ?_; rintro e w' ⟨rfl, rfl⟩)
      | (refine ⟨trivial, (fun h => by cases h), ?_⟩; gi_at_call 121; refine (callsIn_wide.2 (concat3s _ 24 _ _ _ 1 8 8 [115] (beB once) (beB (k : Int)) _ ((Row.newAt (by simp) rfl).drew) (by first | exact Src.rowAll (((Row.newAt (by simp) rfl).alloc _).drew) | exact Src.rowAll ((((Row.newAt (by simp) rfl).alloc _).alloc _).drew) | exact Src.rowAll (((((Row.newAt (by simp) rfl).alloc _).alloc _).alloc _).drew)) (by first | exact Src.rowAll (((Row.newAt (by simp) rfl).alloc _).drew) | exact Src.rowAll ((((Row.newAt (by simp) rfl).alloc _).alloc _).drew) | exact Src.rowAll (((((Row.newAt (by simp) rfl).alloc _).alloc _).alloc _).drew)) (by first | exact Src.rowAll (((Row.newAt (by simp) rfl).alloc _).drew) | exact Src.rowAll ((((Row.newAt (by simp) rfl).alloc _).alloc _).drew) | exact Src.rowAll (((((Row.newAt (by simp) rfl).alloc _).alloc _).alloc _).drew)) (fun h => by cases h) (fun h => by cases h) (fun h => by cases h) (by simp) 17 (by simp [beB_len]) (by omega))).mono ?_; rintro e w5 ⟨a5, c5, rfl, hs5, hc5, hz5, hb5⟩)
      | (refine ⟨trivial, (fun h => by cases h), ?_⟩; gi_at_call 65; refine (callsIn_wide.2 (tag_any (some ⟨kb, 0, none⟩) a5 32 32 17 c5 key (115 :: (beB once ++ beB (k : Int))) HKB.out HBL.out _ (Src.rowAll (Row.below (((((hr'.alloc _).alloc _).alloc _).alloc _).drew) hb5 (by simp; omega))) hs5 HKL.out (by omega) (fun h => by cases h) (by simp [beB_len]) hc5 hz5 (by omega) (by omega))).mono ?_; rintro e w6 ⟨rfl, hb6⟩; have hbw : Below wr.heap.size wr w6 := ((((((((Below.refl wr.heap.size wr).alloc (Nat.le_refl _) _).alloc (by simp) _).alloc (by simp; omega) _).alloc (by simp; omega) _).drew)).trans (hb5.mono (by simp; omega))).trans (hb6.mono (by have := hb5.size; simp at this; omega)); obtain ⟨fn, tmps, assign, body, hy, hR⟩ := HY.out (upH key once k) (blkH key once k) w6 (hJ _ wr w6 none hj (below_grown hbw) (fun r e => by cases e)); have hy' : (Instr.yield l #[.agg (Ints .u8 (tagB key (115 :: (beB once ++ beB (k : Int))))).toArray]).run Tryz.prog w6 = .ok (.round l fn tmps assign body) w6 := hy; clear hy)
      | (refine ⟨(fun h => by cases h), ?_⟩; refine hR.mono ?_; rintro e W3 hE; obtain ⟨bb, rfl, ht, hf⟩ : ∃ bb : Bool, e = .returned (.bool bb) ∧ (bb = true → J (upH key once k ++ [blkH key once k]) W3 ∧ Mid lo hi w6 W3) ∧ (bb = false → Jx (upH key once k ++ [blkH key once k]) W3) := hE.elim (fun h => ⟨true, h.1, fun _ => h.2, (fun h => by cases h)⟩) (fun h => ⟨false, h.1, (fun h => by cases h), fun _ => h.2⟩); clear hE hR hy'; have HT := hid ht; have HF := hid hf; clear ht hf))
    all_goals gi_wp2
    all_goals first
      | (go_roundw
         case rel =>
           have ht := HT.out (by assumption)
           rw [← upH_succ] at ht
           have hlt := HLEN.out _ _ ht.1
           rw [upH_len] at hlt
           exact ⟨k + 1, by go_num, hlt, ht.1, hB.trans ((Mid.below hbw (by have := hB.size; have := hW.size; omega)).trans ht.2)⟩
         case measure => simp [intOf]; omega)
      | (have hf := HF.out (by first | assumption | (simp at *; assumption))
         rw [← upH_succ] at hf
         go_end0
         exact ⟨⟨_, rfl⟩, _, by rw [upH_len], hf⟩)
end Go.Proofs.YtbemljgcclaopaaGreatDoor
