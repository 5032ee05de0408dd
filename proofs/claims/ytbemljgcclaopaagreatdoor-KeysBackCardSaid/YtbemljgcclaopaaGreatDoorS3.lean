/- seal.Seal. -/
import Derived.Test.YtbemljgcclaopaaGreatDoorS2
namespace Go.Proofs.YtbemljgcclaopaaGreatDoor
open Go.RowKit
theorem run_appB (w : World) (base : Nat) (v : Value) (xs : List Int) (hown : OwnB w base v xs) (ad : Option Addr) (m c : Nat) (news : List Int) (hl : news.length = m) (hsrc : Src w ad (Ints .u8 news))
    (hb : xs.length + m ≤ 140737488355328) (hbase : base ≤ w.heap.size) (hnc : ad = none → c = 0) (ty : TypeId) :
    ∃ v' w', (Builtin.append_ #[24, 24] ty #[v, .slice ad m c]).run Tryz.prog w = .ok v' w' ∧ OwnB w' base v' (xs ++ news) ∧ w.grownBy w' v.ownBlock := by
  obtain ⟨i, hi, hz, hsize, hby⟩ := info_parts infoB
  cases ad with
  | none =>
    have hm : m = 0 := by
      rcases Nat.eq_zero_or_pos m with h0 | h0
      · exact h0
      · obtain ⟨b, off, ha, _⟩ := hsrc.addr (by rw [ints_len]; omega)
        cases ha
    subst hm
    have hn : news = [] := List.length_eq_zero_iff.1 hl
    subst hn
    have hc0 := hnc rfl
    subst hc0
    exact ⟨v, w, run_append_owned_none (P := Tryz.prog) (w := w) base 24 ty 5 i 1 Tryz.underlying24 hi v _ _ hown, by rw [List.append_nil]; exact hown, ⟨rfl, rfl, rfl, Nat.le_refl _, fun _ _ _ => rfl⟩⟩
  | some p =>
    obtain ⟨v', w', h1, h2, h3, _⟩ := run_append_own (P := Tryz.prog) w base 24 ty 5 i (.int .u8 0) 1 1 Tryz.underlying24 hi hz hsize hby rfl (by decide) v _ _ hown p m c (Ints .u8 news) (by rw [ints_len]; omega) (fun j u hj => by
      obtain ⟨b, off, ha, hc⟩ := hsrc j u hj
      simp only [Option.some.injEq] at ha
      subst ha
      have : (⟨b, off, none⟩ : Addr).add j = ⟨b, off + j, none⟩ := by unfold Addr.add; split <;> simp_all
      rw [this]; exact hc) (ints_one _ _) (by unfold maxLen; omega) (by omega) hbase
    rw [ints_append] at h2
    refine ⟨v', w', h1, ?_, h3⟩
    unfold OwnB
    rw [List.length_append, hl]; exact h2
theorem own_lit {w : World} {b base n : Nat} {l : List Int} (h : Row w b 5 (Ints .u8 l)) (hl : l.length = n) (hb : base ≤ b) (hn : n ≤ maxLen) : OwnB w base (.slice (some ⟨b, 0, none⟩) n n) l := by
  subst hl
  refine ⟨by rw [ints_len]; omega, .inr ⟨b, l.length, (Ints .u8 l).toArray, rfl, hb, h, Nat.le_refl _, hn, by simp [ints_len], ?_⟩⟩
  rw [List.take_of_length_le (by simp [ints_len])]
def bodyB (key : List Int) (once : Int) (d : List Int) : List Int := beB once ++ hidB key once d
def sealB (key : List Int) (once : Int) (d : List Int) : List Int := bodyB key once d ++ tag16 key (bodyB key once d)
theorem bodyB_len (key : List Int) (once : Int) (d : List Int) : (bodyB key once d).length = 8 + d.length := by unfold bodyB; rw [List.length_append, beB_len, hidB_len]
theorem sealB_len (key : List Int) (once : Int) (d : List Int) : (sealB key once d).length = d.length + 24 := by unfold sealB; rw [List.length_append, bodyB_len, tag16_len]; omega
theorem bodyB_byte (key : List Int) (once : Int) (d : List Int) : ∀ x ∈ bodyB key once d, Byte x := by
  intro x hx
  rcases List.mem_append.1 hx with hx | hx
  · exact beB_byte _ x hx
  · exact xorL_byte _ _ x hx
theorem tag16_byte (key b : List Int) : ∀ x ∈ tag16 key b, Byte x := fun x hx => tagB_byte _ _ x (List.mem_of_mem_take hx)
theorem sealB_byte (key : List Int) (once : Int) (d : List Int) : ∀ x ∈ sealB key once d, Byte x := by
  intro x hx
  rcases List.mem_append.1 hx with hx | hx
  · exact bodyB_byte _ _ _ x hx
  · exact tag16_byte _ _ x hx
theorem run_load_row {P : Program} {w : World} {b : Nat} {e : TypeId} {l : List Value} (h : Row w b e l) {t : TypeId} {d : TypeDesc} (hu : P.underlying t = some d) (hd : d.isRow = true) (hi : (P.info? t).map (·.size) = some l.length) :
    (Instr.loadAt t (.pointer (some ⟨b, 0, none⟩))).run P w = .ok (.agg l.toArray) w :=
  run_loadAt_mid w b 0 t l d (fun j v hj => by simpa using h.cell hj) hu hd hi
attribute [-go_sem] Builtin.append_ Instr.loadAt
set_option maxRecDepth 100000 in
set_option maxHeartbeats 2000000 in
theorem seal_any (key : List Int) (hkb : ∀ x ∈ key, Byte x) (hkl : key.length = 32) (once : Int) (ho : U64 once) (a2 : Option Addr) (n c2 : Nat) (d : List Int) (hd : ∀ x ∈ d, Byte x) (w : World)
    (hs : Src w a2 (Ints .u8 d)) (hdl : d.length = n) (hc : n ≤ c2) (hn : n ≤ 1024) :
    Calls Tryz.prog 20 #[.agg (Ints .u8 key).toArray, .int .u64 once, .slice a2 n c2] w fun e w' => ∃ v, e = .returned (.tuple #[v, .int .i64 0]) ∧ OwnB w' w.heap.size v (sealB key once d) ∧ Below w.heap.size w w' := by
  have HKB := hid hkb
  have HKL := hid hkl
  have HO := hid ho
  have HD := hid hd
  have HDL := hid hdl
  clear hkb hkl ho hd hdl
  go_enter Tryz.func20, Tryz.ntmps20
  have hR0 : Row (w.alloc (.cells (Ints .u8 key).toArray 23)) w.heap.size 23 (Ints .u8 key) := Row.newAt rfl rfl
  have hB0 : Below w.heap.size w (w.alloc (.cells (Ints .u8 key).toArray 23)) := (Below.refl _ w).alloc (Nat.le_refl _) _
  have hnn : ¬ ((1024 : Int) < (n : Int)) := by omega
  have hsz : (w.alloc (.cells (Ints .u8 key).toArray 23)).heap.size = w.heap.size + 1 := by simp
  go_wp2
  generalize (w.alloc (.cells (Ints .u8 key).toArray 23)) = W0 at hR0 hB0 hsz ⊢
  have hR1 : Row (W0.alloc (.cells (Ints .u8 (beB once)).toArray 5)).drew w.heap.size 23 (Ints .u8 key) := (hR0.alloc _).drew
  have hE1 : Row (W0.alloc (.cells (Ints .u8 (beB once)).toArray 5)).drew (w.heap.size + 1) 5 (Ints .u8 (beB once)) := (Row.newAt hsz.symm rfl).drew
  have hB1 : Below w.heap.size w (W0.alloc (.cells (Ints .u8 (beB once)).toArray 5)).drew := (hB0.alloc (by omega) _).drew
  have hl0 := run_load_row (P := Tryz.prog) hR0.drew Tryz.underlying23 rfl (by rw [ints_len, HKL.out]; kernel_rfl)
  have hl1 := run_load_row (P := Tryz.prog) hR1 Tryz.underlying23 rfl (by rw [ints_len, HKL.out]; kernel_rfl)
  go_cut [8] (fun b wx => OwnB wx w.heap.size b (bodyB key once d) ∧ Row wx w.heap.size 23 (Ints .u8 key) ∧ Below w.heap.size w wx)
  case first =>
    have t1 := hidden_any key HKB.out HKL.out once HO.out a2 n c2 d HD.out (W0.alloc (.cells (Ints .u8 (beB once)).toArray 5)).drew (hs.below hB1 (Nat.le_refl _)) HDL.out hc hn
    have hs1 : (W0.alloc (.cells (Ints .u8 (beB once)).toArray 5)).drew.heap.size = w.heap.size + 2 := by simp; omega
    go_region_with (first
      | (go_at_call 48; refine (eight_any _ _ HO.out).mono ?_; rintro e w' ⟨rfl, rfl⟩)
      | (go_at_call 49; (with_reducible refine Calls.mono t1 ?_); rintro e w2 ⟨v2, rfl, hown2, hb2⟩; obtain ⟨a3, c3, rfl, hvl, hc3, hm3, hs3, hz3, hb3⟩ := own_src' hown2; obtain ⟨v4, w4, hrun4, hown4, hg4⟩ := run_appB w2 w.heap.size (.slice (some ⟨w.heap.size + 1, 0, none⟩) 8 8) (beB once) (own_lit (hE1.below hb2 hE1.lt) (beB_len _) (by omega) (by decide)) a3 _ c3 (hidB key once d) rfl hs3 (by rw [beB_len, hidB_len, HDL.out]; omega) (by have := hb2.size; omega) hz3 24))
    all_goals (go_simp; go_wp2_with fail; go_meet; exact ⟨hown4, (hR1.below hb2 hR1.lt).grown hg4 (by simp [Value.ownBlock]), (hB1.trans (hb2.mono (by omega))).grown hg4 (by have := hb2.size; omega) (fun j e => by simp [Value.ownBlock] at e; omega)⟩)
  case rest =>
    clear hR0 hB0 hR1 hE1 hB1 hl0 hl1
    obtain ⟨hownb, hRk, hB⟩ := hcut
    obtain ⟨ab, cb, hv, hbl, hcb, hmb, hsb, hzb, hbb⟩ := own_src' hownb
    have hblen := bodyB_len key once d
    rw [HDL.out] at hblen
    have HBL := hid hblen
    have hown0 := hid hownb
    rw [hblen] at hv hcb
    subst hv
    clear hblen hownb hbl
    go_wp2_with (first
      | (refine wpList_load_row rfl 23 (.tmp 3) rfl w.heap.size rfl 23 (Ints .u8 key).toArray (0, 0) _ hRk Tryz.underlying23 rfl (by rw [List.size_toArray, ints_len, HKL.out]; kernel_rfl) ?_)
      | (go_at_call 50; refine (tagOf_any key HKB.out HKL.out ab (8 + n) cb (bodyB key once d) (bodyB_byte _ _ _) _ hsb HBL.out hcb hzb (by omega)).mono ?_; rintro e w5 ⟨rfl, hb5⟩; have hown5 := own_kept hown0.out hb5; have hsz5 := hb5.size)
      | (refine wpList_store_row rfl 92 (.tmp 9) (.tmp 22) rfl w5.heap.size (Ints .u8 (tag16 key (bodyB key once d))).toArray rfl rfl 92 (Ints .u8 (List.replicate 16 0)).toArray (Row.newAt rfl rfl) (by rw [List.size_toArray, ints_len, tag16_len]; kernel_rfl) (by rw [List.size_toArray, List.size_toArray, ints_len, ints_len, tag16_len]; rfl) (by rw [Array.all_eq_true_iff_forall_mem]; intro u hu; exact ints_one _ _ u (by simpa using hu)) ?_; have hn5 := below_setRow ((Below.refl w5.heap.size w5).alloc (Nat.le_refl _) (.cells #[.int .u8 0, .int .u8 0, .int .u8 0, .int .u8 0, .int .u8 0, .int .u8 0, .int .u8 0, .int .u8 0, .int .u8 0, .int .u8 0, .int .u8 0, .int .u8 0, .int .u8 0, .int .u8 0, .int .u8 0, .int .u8 0] 92)) (Nat.le_refl _) (Ints .u8 (tag16 key (bodyB key once d))).toArray; have hr5 : Row ((w5.alloc (.cells #[.int .u8 0, .int .u8 0, .int .u8 0, .int .u8 0, .int .u8 0, .int .u8 0, .int .u8 0, .int .u8 0, .int .u8 0, .int .u8 0, .int .u8 0, .int .u8 0, .int .u8 0, .int .u8 0, .int .u8 0, .int .u8 0] 92)).setRow w5.heap.size (Ints .u8 (tag16 key (bodyB key once d))).toArray) w5.heap.size 92 (Ints .u8 (tag16 key (bodyB key once d))) := Row.put (old := Ints .u8 (List.replicate 16 0)) (Row.newAt rfl rfl) _; have hown6 := own_kept hown5 hn5; have hz6 := hn5.size; obtain ⟨v8, w8, hrun8, hown8, hg8⟩ := run_appB _ w.heap.size _ _ hown6 (some ⟨w5.heap.size, 0, none⟩) 16 16 (tag16 key (bodyB key once d)) (tag16_len _ _) (Src.rowAll hr5) (by rw [HBL.out]; omega) (by have := hB.size; omega) (fun h => by cases h) 24))
    refine bodyPost_ret (results_tmp2 rfl _ _ _) rfl ?_
    exact ⟨_, rfl, hown8, ((hB.trans (hb5.mono hB.size)).trans (hn5.mono (Nat.le_trans hB.size hsz5))).grown hg8 (by have := hB.size; omega) (fun j e => (hown6.lt j e).1)⟩
end Go.Proofs.YtbemljgcclaopaaGreatDoor
