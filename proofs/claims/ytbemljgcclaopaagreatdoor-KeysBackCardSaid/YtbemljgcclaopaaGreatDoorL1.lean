/- Plain: one tenant, one purpose, k rotations. -/
import Derived.Test.YtbemljgcclaopaaGreatDoorL0
namespace Go.Proofs.YtbemljgcclaopaaGreatDoor
open Go.RowKit
def nA : ByteArray := ⟨#[97]⟩
def nM : ByteArray := ⟨#[109, 97, 105, 108]⟩
/-- The versions behind k rotations. -/
def atsK : Nat → Ats
  | 0 => []
  | k + 1 => [((nA, nM), (k : Int) + 2)]
theorem name_A : isNameB nA = true := by kernel_rfl
theorem name_M : isNameB nM = true := by kernel_rfl
theorem cur_AM : curE [] nA nM = 0 := by unfold curE; rw [name_A, name_M]; rfl
theorem ver_K (k : Nat) : verN (atsK k) nA nM = (k : Int) + 1 := by
  cases k with
  | zero => rfl
  | succ k =>
    unfold verN atsK lookA
    rw [if_pos rfl]
    simp only [Option.getD_some]
    push_cast
    omega
theorem rot_E (k : Nat) (h : k < 15) : rotE [] (atsK k) nA nM = 0 := by
  unfold rotE
  rw [if_pos cur_AM, ver_K, if_neg]
  rintro (h1 | ⟨h1, h2⟩)
  · omega
  · have : (atsK k).length ≤ 1 := by cases k <;> simp [atsK]
    omega
theorem rot_N (k : Nat) (h : k < 15) : rotN [] (atsK k) nA nM = (k : Int) + 2 := by
  unfold rotN; rw [if_pos (rot_E k h), ver_K]; omega
theorem rot_A (k : Nat) (h : k < 15) : rotA [] (atsK k) nA nM = atsK (k + 1) := by
  unfold rotA
  rw [if_pos (rot_E k h), ver_K]
  cases k with
  | zero => rfl
  | succ k =>
    unfold atsK setA
    rw [if_pos rfl]
    push_cast
    congr 2
theorem sk_E (n : Int) (d : List Int) (hn : n < 1099511627776) (hd : d.length ≤ 1024) : skE [] n nA nM d = 0 := by
  unfold skE; rw [if_pos cur_AM, if_neg (by omega), if_neg (by omega)]
theorem sk_long (n : Int) (d : List Int) (hd : 1024 < d.length) : skE [] n nA nM d = 6 := by
  unfold skE; rw [if_pos cur_AM, if_pos hd]
theorem sk_N (n : Int) (d : List Int) (hn : n < 1099511627776) (hd : d.length ≤ 1024) : skN [] n nA nM d = n + 1 := by
  unfold skN; rw [if_pos (sk_E n d hn hd)]
/-- What is sealed behind k rotations, as number n. -/
def txtK (root : List Int) (k : Nat) (n : Int) (d : List Int) : List Int := ((k : Int) + 1) :: sealB (keyV root nA nM (k + 1)) n d
theorem sk_B (root : List Int) (k : Nat) (n : Int) (d : List Int) (hn : n < 1099511627776) (hd : d.length ≤ 1024) : skB root [] (atsK k) n nA nM d = txtK root k n d := by
  unfold skB txtK
  rw [if_pos (sk_E n d hn hd), ver_K]
  congr 2
theorem txt_byte (root : List Int) (k : Nat) (hk : k ≤ 15) (n : Int) (d : List Int) : ∀ x ∈ txtK root k n d, Byte x := by
  intro x hx
  rcases List.mem_cons.1 hx with rfl | hx
  · unfold Byte; omega
  · exact sealB_byte _ _ _ x hx
theorem txt_fst (root : List Int) (k : Nat) (n : Int) (d : List Int) : fst0 (txtK root k n d) = (k : Int) + 1 := rfl
theorem txt_drop (root : List Int) (k : Nat) (n : Int) (d : List Int) : (txtK root k n d).drop 1 = sealB (keyV root nA nM (k + 1)) n d := rfl
theorem key_E (j k : Nat) (h : j ≤ k) : keyE [] (atsK k) nA nM ((j : Int) + 1) = 0 := by
  unfold keyE; rw [if_pos cur_AM, ver_K, if_neg (by omega)]
/-- What was sealed behind j rotations opens behind k of them. -/
theorem op_E (root : List Int) (j k : Nat) (h : j ≤ k) (n : Int) (d : List Int) (hd : d.length ≤ 1024) : opE root [] (atsK k) nA nM (txtK root j n d) = 0 := by
  unfold opE
  rw [if_pos cur_AM, if_neg (by simp [txtK]), txt_fst, if_pos (key_E j k h), txt_drop, show ((j : Int) + 1).toNat = j + 1 by omega, openE_seal _ _ _ hd]
theorem op_N (root : List Int) (j k : Nat) (h : j ≤ k) (n : Int) (d : List Int) (hd : d.length ≤ 1024) : opN root [] (atsK k) nA nM (txtK root j n d) = (j : Int) + 1 := by
  unfold opN; rw [if_pos (op_E root j k h n d hd), txt_fst]
theorem op_B (root : List Int) (j k : Nat) (h : j ≤ k) (n : Int) (hn : U64 n) (d : List Int) (hb : ∀ x ∈ d, Byte x) (hd : d.length ≤ 1024) : opB root [] (atsK k) nA nM (txtK root j n d) = d := by
  unfold opB
  rw [if_pos (op_E root j k h n d hd), txt_fst, txt_drop, show ((j : Int) + 1).toNat = j + 1 by omega, openB_seal _ _ hn _ hb hd]
/-- Resealing. -/
theorem rs_E (root : List Int) (k : Nat) (d : List Int) (hb : ∀ x ∈ d, Byte x) (hd : d.length ≤ 1024) : rsE root 1 [] (atsK k) nA nM (txtK root 0 0 d) = 0 := by
  unfold rsE
  rw [if_pos (op_E root 0 k (Nat.zero_le _) 0 d hd), op_B root 0 k (Nat.zero_le _) 0 (by unfold U64; omega) d hb hd, sk_E 1 d (by omega) hd]
  split <;> rfl
theorem rs_C (root : List Int) (k : Nat) (d : List Int) (hb : ∀ x ∈ d, Byte x) (hd : d.length ≤ 1024) : rsC root 1 [] (atsK k) nA nM (txtK root 0 0 d) = decide (0 < k) := by
  unfold rsC
  rw [if_pos (op_E root 0 k (Nat.zero_le _) 0 d hd), op_B root 0 k (Nat.zero_le _) 0 (by unfold U64; omega) d hb hd, sk_E 1 d (by omega) hd, ver_K, txt_fst]
  by_cases h : 0 < k
  · rw [if_neg (by omega), decide_eq_true h]; rfl
  · rw [if_pos (by omega), decide_eq_false h]
def resN (k : Nat) : Nat := if k = 0 then 1 else 2
theorem rs_N (root : List Int) (k : Nat) (d : List Int) (hb : ∀ x ∈ d, Byte x) (hd : d.length ≤ 1024) : rsN root 1 [] (atsK k) nA nM (txtK root 0 0 d) = resN k := by
  unfold rsN
  rw [if_pos (op_E root 0 k (Nat.zero_le _) 0 d hd), op_B root 0 k (Nat.zero_le _) 0 (by unfold U64; omega) d hb hd, sk_N 1 d (by omega) hd, ver_K, txt_fst]
  unfold resN
  by_cases h : k = 0
  · subst h; rfl
  · rw [if_neg (by omega), if_neg h]; rfl
def resB (root : List Int) (k : Nat) (d : List Int) : List Int := txtK root k (if k = 0 then 0 else 1) d
theorem rs_B (root : List Int) (k : Nat) (d : List Int) (hb : ∀ x ∈ d, Byte x) (hd : d.length ≤ 1024) : rsB root 1 [] (atsK k) nA nM (txtK root 0 0 d) = resB root k d := by
  unfold rsB resB
  rw [if_pos (op_E root 0 k (Nat.zero_le _) 0 d hd), op_B root 0 k (Nat.zero_le _) 0 (by unfold U64; omega) d hb hd, sk_B root k 1 d (by omega) hd, ver_K, txt_fst]
  by_cases h : k = 0
  · subst h; rfl
  · rw [if_neg (by omega), if_neg h]
/-- The rows behind k rotations and n sealed texts. -/
def rowsK (n k : Nat) : List (ByteArray × List ByteArray) := (hashK, [strN n]) :: (if k = 0 then [] else [(⟨#[97, 47, 109, 97, 105, 108]⟩, [strN (k + 1)])])
theorem rowsL_K (n k : Nat) : rowsL (n : Int) [] (atsK k) = rowsK n k := by
  unfold rowsL rowsK
  cases k with
  | zero => simp [atsK, hashK]
  | succ k =>
    simp only [atsK, List.map_nil, List.nil_append, List.map_cons, rowA, Int.toNat_natCast, hashK, Nat.succ_ne_zero, if_false, Nat.add_eq_zero_iff, and_false]
    rw [show ((k : Int) + 2).toNat = k + 1 + 1 by omega]
    rfl
theorem lt_hash : ltB hashK ⟨#[97, 47, 109, 97, 105, 108]⟩ = true := by kernel_rfl
/-- Sorted they are those. -/
theorem rowsK_sorted (n k : Nat) (T : List (ByteArray × List ByteArray)) (hp : T.Perm (rowsL (n : Int) [] (atsK k))) (hs : T.Pairwise (fun x y => ltB y.1 x.1 = false)) : T = rowsK n k := by
  rw [rowsL_K] at hp
  unfold rowsK at hp ⊢
  by_cases h : k = 0
  · rw [if_pos h] at hp ⊢
    exact List.perm_singleton.1 hp
  · rw [if_neg h] at hp ⊢
    have hl := hp.length_eq
    match T, hl with
    | [x, y], _ =>
      have hx : x ∈ [(hashK, [strN n]), (⟨#[97, 47, 109, 97, 105, 108]⟩, [strN (k + 1)])] := hp.subset (by simp)
      have hy : y ∈ [(hashK, [strN n]), (⟨#[97, 47, 109, 97, 105, 108]⟩, [strN (k + 1)])] := hp.subset (by simp)
      simp only [List.pairwise_cons, List.mem_singleton, forall_eq] at hs
      have h1 := hs.1
      have hnd : ∀ a b c : ByteArray × List ByteArray, [a, a].Perm [b, c] → b = c := fun a b c hq => by
        have m1 : b ∈ [a, a] := hq.symm.subset (by simp)
        have m2 : c ∈ [a, a] := hq.symm.subset (by simp)
        simp at m1 m2; rw [m1, m2]
      simp only [List.mem_cons, List.not_mem_nil, or_false] at hx hy
      rcases hx with rfl | rfl <;> rcases hy with rfl | rfl
      · have := hnd _ _ _ hp; simp [hashK] at this
      · rfl
      · rw [show ltB hashK ⟨#[97, 47, 109, 97, 105, 108]⟩ = true from lt_hash] at h1; cases h1
      · have := hnd _ _ _ hp; simp [hashK] at this
theorem ld_all : ((List.range 3).all fun n => (List.range 16).all fun k => n == 0 || decide (ldS (rowsK n k) = some ((n : Int), [], atsK k))) = true := by kernel_rfl
theorem ld_K (n k : Nat) (h0 : 0 < n) (h1 : n ≤ 2) (hk : k ≤ 15) : ldS (rowsK n k) = some ((n : Int), [], atsK k) := by
  have := List.all_eq_true.1 (List.all_eq_true.1 ld_all n (List.mem_range.2 (by omega))) k (List.mem_range.2 (by omega))
  simp only [Bool.or_eq_true, beq_iff_eq, decide_eq_true_eq] at this
  rcases this with h | h
  · omega
  · exact h
end Go.Proofs.YtbemljgcclaopaaGreatDoor
