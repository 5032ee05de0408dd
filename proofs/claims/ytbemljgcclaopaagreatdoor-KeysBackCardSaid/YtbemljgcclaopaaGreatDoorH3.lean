/- hash.Sum: what it reckons, and its walk. -/
import Derived.Test.YtbemljgcclaopaaGreatDoorH1
import Derived.Test.YtbemljgcclaopaaGreatDoorH2
namespace Go.Proofs.YtbemljgcclaopaaGreatDoor
open Go.RowKit
/-- The running hash behind j blocks of l. -/
def fold64 (KL l : List Int) (s : S8) : Nat → S8
  | 0 => s
  | j + 1 => mixS KL (fun i => l[64 * j + i]?.getD 0) (fold64 KL l s j)
theorem fold64_ok (KL l : List Int) (s : S8) (h : s.ok) (j : Nat) : (fold64 KL l s j).ok := by
  cases j with
  | zero => exact h
  | succ j => exact addS_ok _ _
def beB (n : Int) : List Int := (List.range 8).map fun k => n / 2 ^ (56 - 8 * k) % 256
def tailOf (l : List Int) : List Int := l.drop (64 * (l.length / 64))
def padOf (l : List Int) : List Int := tailOf l ++ [128] ++ List.replicate ((119 - (tailOf l).length) % 64) 0 ++ beB ((l.length : Int) * 8)
def s0 : S8 := ⟨1779033703, 3144134277, 1013904242, 2773480762, 1359893119, 2600822924, 528734635, 1541459225⟩
def sumS (l : List Int) : S8 := fold64 KS (padOf l) (fold64 KS l s0 (l.length / 64)) ((padOf l).length / 64)
def word4 (x : Int) : List Int := [x / 16777216 % 256, x / 65536 % 256, x / 256 % 256, x % 256]
def outB (s : S8) : List Int := word4 s.a ++ word4 s.b ++ word4 s.c ++ word4 s.d ++ word4 s.e ++ word4 s.f ++ word4 s.g ++ word4 s.h
/-- The SHA-256 of bytes, as the program reckons it. -/
def sumB (l : List Int) : List Int := outB (sumS l)
theorem sumB_len (l : List Int) : (sumB l).length = 32 := rfl
def Byte (x : Int) : Prop := 0 ≤ x ∧ x < 256
theorem word4_byte (x : Int) : ∀ y ∈ word4 x, Byte y := by
  intro y hy; simp only [word4, List.mem_cons, List.not_mem_nil, or_false] at hy
  unfold Byte
  rcases hy with rfl | rfl | rfl | rfl <;> omega
theorem outB_byte (s : S8) : ∀ y ∈ outB s, Byte y := by
  intro y hy; simp only [outB, List.mem_append] at hy
  rcases hy with ((((((hy | hy) | hy) | hy) | hy) | hy) | hy) | hy <;> exact word4_byte _ y hy
theorem sumB_byte (l : List Int) : ∀ y ∈ sumB l, Byte y := outB_byte _
theorem byteD {l : List Int} (h : ∀ x ∈ l, Byte x) (i : Nat) : 0 ≤ l[i]?.getD 0 ∧ l[i]?.getD 0 < 256 := by
  rcases Nat.lt_or_ge i l.length with h' | h'
  · have := h l[i] (List.getElem_mem h'); unfold Byte at this; simpa [h'] using this
  · simp [List.getElem?_eq_none h']
theorem beB_len (n : Int) : (beB n).length = 8 := by simp [beB]
theorem beB_byte (n : Int) : ∀ y ∈ beB n, Byte y := by
  intro y hy; simp only [beB, List.mem_map] at hy
  obtain ⟨k, _, rfl⟩ := hy
  unfold Byte; omega
theorem beB_take (n : Int) (k : Nat) (h : k < 8) : (beB n).take (k + 1) = (beB n).take k ++ [n / 2 ^ (56 - 8 * k) % 256] := by
  rw [List.take_succ_eq_append_getElem (by rw [beB_len]; exact h)]
  simp [beB]
theorem padOf_of (l T : List Int) (j m : Nat) (hm : m + 64 * j = l.length) (h : m < 64) (hT : l.drop (64 * j) = T) : padOf l = T ++ [128] ++ List.replicate ((119 - m) % 64) 0 ++ beB ((l.length : Int) * 8) := by
  have hj : l.length / 64 = j := by omega
  have ht : tailOf l = T := by unfold tailOf; rw [hj, hT]
  have hTl : T.length = m := by rw [← hT, List.length_drop]; omega
  unfold padOf; rw [ht, hTl]
theorem padOf_len (l : List Int) : (padOf l).length % 64 = 0 ∧ (padOf l).length ≤ 128 ∧ 64 ≤ (padOf l).length := by
  have : (tailOf l).length = l.length % 64 := by unfold tailOf; rw [List.length_drop]; omega
  simp only [padOf, List.length_append, List.length_cons, List.length_nil, List.length_replicate, beB_len, this]
  have := Nat.mod_lt l.length (show 0 < 64 by omega)
  omega
theorem padOf_byte (l : List Int) (h : ∀ x ∈ l, Byte x) : ∀ x ∈ padOf l, Byte x := by
  intro x hx
  simp only [padOf, List.mem_append, List.mem_cons, List.not_mem_nil, or_false, List.mem_replicate] at hx
  rcases hx with ((hx | rfl) | ⟨_, rfl⟩) | hx
  · exact h x (List.mem_of_mem_drop hx)
  · unfold Byte; omega
  · unfold Byte; omega
  · exact beB_byte _ x hx
/-- mix, over a slice that reads as l. -/
theorem mix_src (s : S8) (hs : s.ok) (kb : Nat) (ke : TypeId) (a : Option Addr) (n c : Nat) (l : List Int) (hl : ∀ x ∈ l, Byte x) (w : World) (hk : Row w kb ke (Ints .u32 KS)) (hsrc : Src w a (Ints .u8 l)) (hn : l.length = n) (h64 : 64 ≤ n) (hn2 : n ≤ 140737488351232) :
    Calls Tryz.prog 119 #[.agg #[.int .u32 s.a, .int .u32 s.b, .int .u32 s.c, .int .u32 s.d, .int .u32 s.e, .int .u32 s.f, .int .u32 s.g, .int .u32 s.h], .pointer (some ⟨kb, 0, none⟩), .slice a n c] w
      fun e w' => ∃ s', s' = mixS KS (fun j => l[j]?.getD 0) s ∧ e = .returned (.agg #[.int .u32 s'.a, .int .u32 s'.b, .int .u32 s'.c, .int .u32 s'.d, .int .u32 s'.e, .int .u32 s'.f, .int .u32 s'.g, .int .u32 s'.h]) ∧ Below w.heap.size w w' := by
  obtain ⟨b, off, rfl, hb⟩ := hsrc.addr (by rw [ints_len]; omega)
  refine (mix_any s.a s.b s.c s.d s.e s.f s.g s.h hs kb ke KS KS_len KS_bd b off n c w (fun j => l[j]?.getD 0) (byteD hl) hk h64 hn2 hb ?_).mono fun e w' ⟨he, hw⟩ => ⟨_, rfl, he, hw⟩
  intro j hj
  exact hsrc.at (by simp only [Ints, List.getElem?_map]; rw [List.getElem?_eq_getElem (by omega)]; simp)
end Go.Proofs.YtbemljgcclaopaaGreatDoor
