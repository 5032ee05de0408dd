/- seal.Size, seal.Open. -/
import Derived.Test.YtbemljgcclaopaaGreatDoorB4
import Derived.Test.YtbemljgcclaopaaGreatDoorS3
namespace Go.Proofs.YtbemljgcclaopaaGreatDoor
open Go.RowKit
set_option maxRecDepth 100000 in
theorem size_0 (w : World) : Calls Tryz.prog 51 #[.int .i64 0] w fun e w' => e = .returned (.int .i64 24) ∧ w' = w := by
  go_enter Tryz.func51, Tryz.ntmps51
  go_wp2
  go_ret
  exact ⟨rfl, rfl⟩
set_option maxRecDepth 100000 in
theorem size_1024 (w : World) : Calls Tryz.prog 51 #[.int .i64 1024] w fun e w' => e = .returned (.int .i64 1048) ∧ w' = w := by
  go_enter Tryz.func51, Tryz.ntmps51
  go_wp2
  go_ret
  exact ⟨rfl, rfl⟩
def stepU (a x : Int) : Int := bits BinOp.or .u64 (IntKind.wrap .u64 (a * 256)) (IntKind.wrap .u64 x)
def foldU (l : List Int) : Int := l.foldl stepU 0
theorem stepU_u64 (a x : Int) : U64 (stepU a x) := by
  unfold U64 stepU bits; simp [IntKind.wrap, IntKind.bits, IntKind.signed]; omega
theorem foldU_snoc (l : List Int) (x : Int) : foldU (l ++ [x]) = stepU (foldU l) x := by simp [foldU]
theorem foldU_u64 (l : List Int) : U64 (foldU l) := by
  rcases List.eq_nil_or_concat l with rfl | ⟨m, x, rfl⟩
  · exact ⟨by simp [foldU], by simp [foldU]⟩
  · rw [List.concat_eq_append, foldU_snoc]; exact stepU_u64 _ _
theorem foldU_take {l : List Int} {j : Nat} (h : j < l.length) : foldU (l.take (j + 1)) = stepU (foldU (l.take j)) (l[j]?.getD 0) := by
  rw [List.take_succ_eq_append_getElem h, foldU_snoc]; simp [h]
/-- What Open says of sealed bytes. -/
def openE (key s : List Int) : Int := if s.length < 24 then 3 else if 1048 < s.length then 6 else if tag16 key (s.take (s.length - 16)) ≠ s.drop (s.length - 16) then 10 else 0
def openN (key s : List Int) : Int := if openE key s = 0 then foldU (s.take 8) else 0
def openB (key s : List Int) : List Int := if openE key s = 0 then hidB key (foldU (s.take 8)) ((s.take (s.length - 16)).drop 8) else []
theorem loadB (w : World) (a : Addr) (v : Value) (h : w.cell? a = some v) : (Instr.loadAt 5 (.pointer (some a))).run Tryz.prog w = .ok v w := by
  have h5 := Tryz.underlying5
  go_simp
attribute [-go_sem] Builtin.append_ Instr.loadAt
set_option maxRecDepth 100000 in
set_option maxHeartbeats 2000000 in
theorem open_any (key : List Int) (hkb : ∀ x ∈ key, Byte x) (hkl : key.length = 32) (a2 : Option Addr) (n c2 : Nat) (s : List Int) (hd : ∀ x ∈ s, Byte x) (w : World)
    (hs : Src w a2 (Ints .u8 s)) (hdl : s.length = n) (hc : n ≤ c2) (hc2 : c2 ≤ maxLen) :
    Calls Tryz.prog 21 #[.agg (Ints .u8 key).toArray, .slice a2 n c2] w fun e w' =>
      ∃ v, e = .returned (.tuple #[v, .int .u64 (openN key s), .int .i64 (openE key s)]) ∧ OwnB w' w.heap.size v (openB key s) ∧ (openE key s ≠ 0 → v = .slice none 0 0) ∧ Below w.heap.size w w' := by
  have HKB := hid hkb
  have HKL := hid hkl
  have HD := hid hd
  have HDL := hid hdl
  clear hkb hkl hd hdl
  go_enter Tryz.func21, Tryz.ntmps21
  have hR0 : Row (w.alloc (.cells (Ints .u8 key).toArray 23)) w.heap.size 23 (Ints .u8 key) := Row.newAt rfl rfl
  have hB0 : Below w.heap.size w (w.alloc (.cells (Ints .u8 key).toArray 23)) := (Below.refl _ w).alloc (Nat.le_refl _) _
  have hsz : (w.alloc (.cells (Ints .u8 key).toArray 23)).heap.size = w.heap.size + 1 := by simp
  have hs0 := hs.below hB0 (Nat.le_refl _)
  by_cases h24 : n < 24
  · have h24' : (n : Int) < 24 := by omega
    go_wp2_with (go_at_call 51; refine (size_0 _).mono ?_; rintro e w' ⟨rfl, rfl⟩)
    go_ret3
    have hE : openE key s = 3 := by unfold openE; rw [HDL.out, if_pos h24]
    refine ⟨.slice none 0 0, ?_, ?_, fun _ => rfl, hB0⟩
    · unfold openN; rw [hE]; rfl
    · unfold openB; rw [hE]; exact World.ownsRow_nil _ _ _ _
  by_cases h48 : 1048 < n
  · have h24' : ¬ (n : Int) < 24 := by omega
    have h48' : (1048 : Int) < (n : Int) := by omega
    go_wp2_with (go_at_call 51; first | ((with_reducible refine Calls.mono (size_0 _) ?_); rintro e w' ⟨rfl, rfl⟩) | ((with_reducible refine Calls.mono (size_1024 _) ?_); rintro e w' ⟨rfl, rfl⟩))
    go_ret3
    have hE : openE key s = 6 := by unfold openE; rw [HDL.out, if_neg h24, if_pos h48]
    refine ⟨.slice none 0 0, ?_, ?_, fun _ => rfl, hB0⟩
    · unfold openN; rw [hE]; rfl
    · unfold openB; rw [hE]; exact World.ownsRow_nil _ _ _ _
  have h24' : ¬ (n : Int) < 24 := by omega
  have h48' : ¬ (1048 : Int) < (n : Int) := by omega
  go_wp2_with (go_at_call 51; first | ((with_reducible refine Calls.mono (size_0 _) ?_); rintro e w' ⟨rfl, rfl⟩) | ((with_reducible refine Calls.mono (size_1024 _) ?_); rintro e w' ⟨rfl, rfl⟩))
  generalize (w.alloc (.cells (Ints .u8 key).toArray 23)) = W0 at hR0 hB0 hsz hs0 ⊢
  obtain ⟨b2, off2, rfl, hb2⟩ := hs.addr (by rw [ints_len, HDL.out]; omega)
  have i1 : (0 : Int) ≤ (n : Int) - 16 := by omega
  have i2 : (n : Int) - 16 ≤ (c2 : Int) := by omega
  have i2' : (n : Int) - 16 ≤ (n : Int) := by omega
  have i3 : ((n : Int) - 16).toNat = n - 16 := by omega
  have hcs : Src W0 (some ⟨b2, off2 + (n - 16), none⟩) (Ints .u8 (s.drop (n - 16))) := fun j u hj => by
    rw [← ints_drop, List.getElem?_drop] at hj
    refine ⟨b2, off2 + (n - 16), rfl, ?_⟩
    have := hs0.at hj
    rwa [← Nat.add_assoc] at this
  have hdl : (s.drop (n - 16)).length = 16 := by rw [List.length_drop, HDL.out]; omega
  have HDR := hid hdl
  clear hdl
  have hrg : ∀ W, Below W0.heap.size W0 W → (Instr.loadAt 92 (.pointer (some ⟨b2, off2 + (n - 16), none⟩))).run Tryz.prog W = .ok (.agg (Ints .u8 (s.drop (n - 16))).toArray) W := fun W hW => by
    refine run_loadAt_mid W b2 (off2 + (n - 16)) 92 _ _ (fun j v hj => (hcs.below hW (Nat.le_refl _)).at hj) Tryz.underlying92 rfl (by rw [ints_len, HDR.out]; kernel_rfl)
  have hl0 := run_load_row (P := Tryz.prog) hR0.drew Tryz.underlying23 rfl (by rw [ints_len, HKL.out]; kernel_rfl)
  have hl1 := hrg W0.drew ((Below.refl _ _).drew)
  have harr : ∀ W : World, (Instr.arrayAt 92 (.slice (some ⟨b2, off2 + (n - 16), none⟩) (n - (n - 16)) (c2 - (n - 16)))).run Tryz.prog W = .ok (.pointer (some ⟨b2, off2 + (n - 16), none⟩)) W := fun W => by
    have : n - (n - 16) = 16 := by omega
    rw [this]; simp [Instr.arrayAt, run_underlying Tryz.underlying92]
  have t1 := tagOf_any key HKB.out HKL.out (some ⟨b2, off2, none⟩) (n - 16) c2 (s.take (n - 16)) (fun x hx => HD.out x (List.mem_of_mem_take hx)) W0.drew (by rw [← ints_take]; exact (hs0.below ((Below.refl _ _).drew) (Nat.le_refl _)).take _) (by rw [List.length_take, HDL.out]; omega) (by omega) (fun h => by cases h) (by omega)
  obtain ⟨iB, hiB, _, hsB, _⟩ := info_parts infoB
  have heq : ∀ W : World, (Op.equalIn 10000 92 (.agg (Ints .u8 (tag16 key (s.take (n - 16)))).toArray) (.agg (Ints .u8 (s.drop (n - 16))).toArray)).run Tryz.prog W = .ok (decide (tag16 key (s.take (n - 16)) = s.drop (n - 16))) W := fun W =>
    run_eqArr W 9998 Tryz.underlying92 hiB hsB (by kernel_rfl) Tryz.underlying5 (tag16_len _ _) HDR.out
  clear hiB hsB
  have HRG := hid hrg
  clear hrg
  go_cut [33] (fun b wx => b = .bool (!decide (tag16 key (s.take (n - 16)) = s.drop (n - 16))) ∧ Row wx w.heap.size 23 (Ints .u8 key) ∧ Below w.heap.size w wx)
  case first =>
    go_region_with (first
      | (go_at_call 50; (with_reducible refine Calls.mono t1 ?_); rintro e w2 ⟨rfl, hb3⟩; have hl2 := HRG.out w2 (((Below.refl _ W0).drew).trans hb3)))
    all_goals (go_wp2_with fail; go_meet; exact ⟨rfl, hR0.drew.below hb3 hR0.lt, (hB0.drew).trans (hb3.mono (by simp; omega))⟩)
  case rest =>
    obtain ⟨rfl, hRk, hB⟩ := hcut
    clear hl0 hl1 harr t1 hcs HRG heq hR0 hB0 hs0
    by_cases htag : tag16 key (s.take (n - 16)) = s.drop (n - 16)
    · have hd : decide (tag16 key (s.take (n - 16)) = s.drop (n - 16)) = true := decide_eq_true htag
      have hE : openE key s = 0 := by unfold openE; rw [HDL.out, if_neg h24, if_neg h48, if_neg (by simpa using htag)]
      rw [hd]
      have HE := hid hE
      clear hE hd htag
      have hsr0 := hs.below hB (Nat.le_refl _)
      have hc8 : (8 : Int) ≤ (c2 : Int) := by omega
      go_wp2
      go_loopw [5, 37] (fun x i wx => ∃ j : Nat, j ≤ 8 ∧ i = .int .i64 j ∧ x = .int .u64 (foldU (s.take j)) ∧ wx = wc) (fun x i _ => 8 - (intOf i).toNat)
      case atStart => exact ⟨0, by omega, rfl, rfl, rfl⟩
      case round =>
        obtain ⟨j, hj, rfl, rfl, rfl⟩ := hrel
        by_cases hj8 : j < 8
        · have p1 : wr.cell? ⟨b2, off2 + j, none⟩ = some (.int .u8 (s[j]?.getD 0)) := hsr0.at (by simp only [Ints, List.getElem?_map]; rw [List.getElem?_eq_getElem (by rw [HDL.out]; omega)]; simp)
          have q1 := loadB _ _ _ p1
          have hj8' : (j : Int) < 8 := by omega
          have hjt : ((j : Int)).toNat = j := by omega
          go_wp2
          go_roundw
          case rel => exact ⟨j + 1, by omega, by go_num, by rw [foldU_take (by rw [HDL.out]; omega)]; rfl, trivial⟩
          case measure => simp [intOf]; omega
        · have hj0 : j = 8 := by omega
          subst hj0
          have hl0 := run_load_row (P := Tryz.prog) hRk.drew Tryz.underlying23 rfl (by rw [ints_len, HKL.out]; kernel_rfl)
          have hsd : Src wr.drew (some ⟨b2, off2 + 8, none⟩) (Ints .u8 ((s.take (n - 16)).drop 8)) := fun k u hk => by
            rw [← ints_drop, ← ints_take, List.getElem?_drop, List.getElem?_take] at hk
            split at hk
            · refine ⟨b2, off2 + 8, rfl, ?_⟩
              have := hsr0.at hk
              rwa [← Nat.add_assoc] at this
            · cases hk
          have t1 := hidden_any key HKB.out HKL.out (foldU (s.take 8)) (foldU_u64 _) (some ⟨b2, off2 + 8, none⟩) (n - 16 - 8) (c2 - 8) ((s.take (n - 16)).drop 8) (fun x hx => HD.out x (List.mem_of_mem_take (List.mem_of_mem_drop hx))) wr.drew hsd (by rw [List.length_drop, List.length_take, HDL.out]; omega) (by omega) (by omega)
          have i4 : (8 : Int) ≤ (n : Int) - 16 := by omega
          have hne : c2 ≠ 8 := by omega
          have hne' : ¬ c2 = 8 := by omega
          go_wp2
          go_region_with (first
            | (go_at_call 49; (with_reducible refine Calls.mono t1 ?_); rintro e w2 ⟨v2, rfl, hown2, hb2⟩))
          go_simp
          go_wp2_with fail
          go_ret3
          have hsz2 := hB.size
          refine ⟨v2, ?_, ?_, fun h => (h HE.out).elim, (Below.drew hB).trans (hb2.mono (by simp; omega))⟩
          · unfold openN; rw [HE.out, if_pos rfl]; rfl
          · unfold openB; rw [HE.out, if_pos rfl, HDL.out]; exact own_mono hown2 (by simp; omega)
    · have hE : openE key s = 10 := by unfold openE; rw [HDL.out, if_neg h24, if_neg h48, if_pos htag]
      have hd : decide (tag16 key (s.take (n - 16)) = s.drop (n - 16)) = false := decide_eq_false htag
      rw [hd]
      go_wp2
      go_ret3
      refine ⟨.slice none 0 0, ?_, ?_, fun _ => rfl, hB⟩
      · unfold openN; rw [hE]; rfl
      · unfold openB; rw [hE]; exact World.ownsRow_nil _ _ _ _
end Go.Proofs.YtbemljgcclaopaaGreatDoor
