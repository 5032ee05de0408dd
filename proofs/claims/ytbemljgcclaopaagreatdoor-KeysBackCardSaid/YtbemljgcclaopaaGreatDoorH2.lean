/- bytes.Clone and the table of SHA-256's constants. -/
import Derived.Test.YtbemljgcclaopaaGreatDoorB2
namespace Go.Proofs.YtbemljgcclaopaaGreatDoor
open Go.RowKit
/-- The constants of SHA-256. -/
def KS : List Int := [1116352408, 1899447441, 3049323471, 3921009573, 961987163, 1508970993, 2453635748, 2870763221, 3624381080, 310598401, 607225278, 1426881987, 1925078388, 2162078206, 2614888103, 3248222580, 3835390401, 4022224774, 264347078, 604807628, 770255983, 1249150122, 1555081692, 1996064986, 2554220882, 2821834349, 2952996808, 3210313671, 3336571891, 3584528711, 113926993, 338241895, 666307205, 773529912, 1294757372, 1396182291, 1695183700, 1986661051, 2177026350, 2456956037, 2730485921, 2820302411, 3259730800, 3345764771, 3516065817, 3600352804, 4094571909, 275423344, 430227734, 506948616, 659060556, 883997877, 958139571, 1322822218, 1537002063, 1747873779, 1955562222, 2024104815, 2227730452, 2361852424, 2428436474, 2756734187, 3204031479, 3329325298]
theorem KS_len : KS.length = 64 := by decide
theorem KS_all : KS.all (fun x => decide (0 ≤ x) && decide (x < 4294967296)) = true := by decide
theorem KS_bd (i : Nat) : 0 ≤ KS[i]?.getD 0 ∧ KS[i]?.getD 0 < 4294967296 := by
  rcases Nat.lt_or_ge i KS.length with h | h
  · have := List.all_eq_true.1 KS_all KS[i] (List.getElem_mem h)
    simp only [Bool.and_eq_true, decide_eq_true_eq] at this
    simpa [h] using this
  · simp [List.getElem?_eq_none h]
set_option maxRecDepth 100000 in
set_option maxHeartbeats 4000000 in
theorem rounds_any (w : World) : Calls Tryz.prog 118 #[] w fun e w' => e = .returned (.pointer (some ⟨w.heap.size, 0, none⟩)) ∧ w' = w.alloc (.cells (Ints .u32 KS).toArray 185) := by
  go_enter Tryz.func118, Tryz.ntmps118
  go_wp2
  go_ret
  exact ⟨rfl, rfl⟩
theorem clone_any (a : Option Addr) (n c : Nat) (l : List Int) (w : World) (hl : l.length = n) (hn : n ≤ 140737488355328) (hs : Src w a (Ints .u8 l)) :
    Calls Tryz.prog 22 #[.slice a n c] w fun e w' => ∃ v, e = .returned v ∧ OwnB w' w.heap.size v l ∧ Below w.heap.size w w' := by
  have heq := fun w => Lib.run_eql_slice_nil (P := Tryz.prog) w 24 5 a n c 0 0 Tryz.underlying24
  cases a with
  | none =>
    have hl0 : l = [] := by
      rcases Nat.eq_zero_or_pos l.length with h0 | h0
      · exact List.length_eq_zero_iff.1 h0
      · obtain ⟨b, off, ha, _⟩ := hs.addr (by rw [ints_len]; exact h0)
        cases ha
    subst hl0
    go_enter Tryz.func22, Tryz.ntmps22
    go_wp2
    go_ret
    exact ⟨_, rfl, World.ownsRow_nil _ _ _ _, Below.refl _ _⟩
  | some p =>
    have H := hid heq
    clear heq
    have heq := fun w => H.out w
    go_enter Tryz.func22, Tryz.ntmps22
    go_wp2_with (at_builtin; refine wpList_appB _ rfl _ _ rfl w.heap.size _ [] rfl (World.ownsRow_made w #[] 0 (Nat.le_refl _) (by decide) rfl) (some p) n c l rfl hl (hs.below ((Below.refl w.heap.size w).alloc (Nat.le_refl _) _) (Nat.le_refl _)) (by simpa using hn) (by simp) (fun h => by cases h) ?_; intro v w1 hown hgr _)
    have hgr' : (w.alloc (.cells #[] 5)).grownBy w1 (some w.heap.size) := hgr
    go_ret
    exact ⟨v, rfl, by simpa using hown, ((Below.refl w.heap.size w).alloc (Nat.le_refl _) _).grown hgr' (by simp) (fun k e => by cases e; exact Nat.le_refl _)⟩
end Go.Proofs.YtbemljgcclaopaaGreatDoor
