/- holdfastlaw09.live. -/
import Derived.Lib.SlBytesConst
import Derived.Test.YtbemljgcclaopaaGreatDoorL1
namespace Go.Proofs.YtbemljgcclaopaaGreatDoor
open Go.RowKit
theorem Exc.trans' {s s' : List Nat} {a b c : World} (h : Exc s a b) (k : Exc s' b c) : Exc (s ++ s') a c :=
  ⟨k.os.trans h.os, k.tape.trans h.tape, k.output.trans h.output, Nat.le_trans h.size k.size, fun i h1 h2 => (k.block i (Nat.lt_of_lt_of_le h1 h.size) (fun hm => h2 (List.mem_append.2 (.inr hm)))).trans (h.block i h1 (fun hm => h2 (List.mem_append.2 (.inl hm))))⟩
def root1 : List Int := 1 :: List.replicate 31 0
theorem root1_byte : ∀ x ∈ root1, Byte x := by
  intro x hx
  rcases List.mem_cons.1 hx with rfl | hx
  · unfold Byte; omega
  · rw [List.eq_of_mem_replicate hx]; unfold Byte; omega
theorem built_root1 : Tryz.prog.built 23 [(0, .int .u8 1)] = some (Ints .u8 root1).toArray := by kernel_rfl
theorem src_mark (w : World) (x : Int) (fr : Nat × Nat) : Src (w.alloc (.cells #[.int .u8 x] 5 fr)) (some ⟨w.heap.size, 0, none⟩) (Ints .u8 [x]) := by
  intro j u hj
  cases j with
  | zero =>
    simp only [Ints, List.map_cons, List.getElem?_cons_zero, Option.some.injEq] at hj; subst hj
    refine ⟨w.heap.size, 0, rfl, ?_⟩
    have h := World.alloc_heap_new w (.cells #[.int .u8 x] 5 fr)
    unfold World.cell?
    rw [h]; rfl
  | succ j => simp [Ints] at hj
theorem own_ge {w : World} {base : Nat} {e : TypeId} {size : Nat} {v : Value} {n : Nat} {xs : List Value} (h : w.ownsRow base e size v n xs) {j : Nat} (hj : v.ownBlock = some j) : base ≤ j := (h.lt j hj).1
attribute [-go_sem] Instr.build
set_option maxRecDepth 100000 in
set_option maxHeartbeats 2000000 in
theorem live_any (w : World) (hT : Tz w) : Calls Tryz.prog 7 #[] w fun e w' => e = .returned (.bool true) ∧ Below w.heap.size w w' := by
  have hbd : ∀ W : World, (Instr.build 23 #[(0, .int .u8 1)]).run Tryz.prog W = .ok (.agg (Ints .u8 root1).toArray) W := fun W => run_build W 23 _ _ built_root1
  have t1 := new_any root1 root1_byte rfl w
  have e1 := sk_E 0 [120] (by omega) (by decide)
  have e2 := sk_N 0 [120] (by omega) (by decide)
  have e3 := sk_B root1 0 0 [120] (by omega) (by decide)
  have r1 := rot_E 0 (by omega)
  have r2 := rot_N 0 (by omega)
  have r3 := rot_A 0 (by omega)
  have o1 := op_E root1 0 1 (by omega) 0 [120] (by decide)
  have o2 := op_N root1 0 1 (by omega) 0 [120] (by decide)
  have o3 := op_B root1 0 1 (by omega) 0 (by unfold U64; omega) [120] (by intro x hx; simp at hx; subst hx; unfold Byte; omega) (by decide)
  have E1 := hid e1; have E2 := hid e2; have E3 := hid e3; have R1 := hid r1; have R2 := hid r2; have R3 := hid r3; have O1 := hid o1; have O2 := hid o2; have O3 := hid o3
  clear e1 e2 e3 r1 r2 r3 o1 o2 o3
  have kc := fun (w : World) (C : Array Value) (n c : Nat) => Lib.run_convert_bytes_const (P := Tryz.prog) w 24 5 C n c Tryz.underlying24 Tryz.underlying5
  go_enter Tryz.func7, Tryz.ntmps7
  go_wp2_with (first
    | (go_at_call 5; refine t1.mono ?_; rintro e w1 ⟨b, mg, ma, rfl, htr, hb1, g1, g2, g3, g4, g5, g6⟩; have hbm : Below w1.heap.size w1 (w1.alloc (.cells #[.int .u8 120] 5 (1, 2))) := (Below.refl _ _).alloc (Nat.le_refl _) _; have hsm : Src (w1.alloc (.cells #[.int .u8 120] 5 (1, 2))) (some ⟨w1.heap.size, 0, none⟩) (Ints .u8 [120]) := src_mark _ _ _; have t2 := sealK_meth nA nM (by decide) (by decide) (some ⟨w1.heap.size, 0, none⟩) 1 1 [120] (by intro x hx; simp at hx; subst hx; unfold Byte; omega) _ ((hT.below hb1).below hbm) (htr.below hbm) (by omega) (by decide) hsm rfl (Nat.le_refl _); rw [show ([] : Ats) = atsK 0 from rfl, E1.out, E2.out, E3.out] at t2)
    | (go_at_call 6; refine t2.mono ?_; rintro e w2 ⟨v2, rfl, hown2, htr2, hx2⟩; have t3 := rotate_meth nA nM (by decide) (by decide) w2 htr2 (by decide) (by rw [ver_K]; omega); rw [R1.out, R2.out, R3.out] at t3)
    | (go_at_call 8; refine t3.mono ?_; rintro e w3 ⟨rfl, htr3, hx3⟩; have hown3 := hx3.own hown2 (fun j hj => by have := own_ge hown2 hj; simp at this ⊢; omega); obtain ⟨a3, c3, rfl, hvl, hc3, hm3, hs3, hz3, hb3⟩ := own_src' hown3; have hTT : Tz w3 := hT.below ((hb1.trans (hbm.mono hb1.size)).trans ((hx2.trans' hx3).below (by intro k hk; simp at hk; omega) (Nat.le_trans hb1.size hbm.size))); have t4 := openK_meth nA nM (by decide) (by decide) a3 _ c3 (txtK root1 0 0 [120]) (txt_byte _ _ (by omega) _ _) w3 hTT htr3 (by rw [ver_K]; omega) hs3 rfl hc3 hm3; rw [O1.out, O2.out, O3.out] at t4)
    | (go_at_call 9; refine t4.mono ?_; rintro e w4 ⟨v4, rfl, hown4, hb4⟩; obtain ⟨a4, c4, rfl, hvl4, hc4, hm4, hs4, hz4, hb4'⟩ := own_src' hown4; have hrs : (convert 24 9 (.slice a4 1 c4)).run Tryz.prog w4 = .ok (.string ⟨#[120]⟩) w4 := run_str hs4 rfl (by decide) (by intro x hx; simp at hx; subst hx; omega)))
  go_ret
  refine ⟨rfl, ?_⟩
  have hm := hb1.size
  have hm2 := hbm.size
  have hm3 := (hx2.trans' hx3).size
  exact ((hb1.trans (hbm.mono hm)).trans ((hx2.trans' hx3).below (by intro k hk; simp at hk; omega) (Nat.le_trans hm hm2))).trans (hb4.mono (Nat.le_trans hm (Nat.le_trans hm2 hm3)))
end Go.Proofs.YtbemljgcclaopaaGreatDoor
