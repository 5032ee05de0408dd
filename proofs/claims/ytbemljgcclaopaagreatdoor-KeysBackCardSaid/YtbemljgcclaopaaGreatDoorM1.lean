/- Maps whose keys are purposes: two strings. -/
import Derived.Test.YtbemljgcclaopaaGreatDoorM0
namespace Go.Proofs.YtbemljgcclaopaaGreatDoor
open Go.RowKit
def encP (p : ByteArray × ByteArray) : Value := .agg #[.string p.1, .string p.2]
theorem eqP (x y : ByteArray × ByteArray) (w : World) : (Op.equal 59 (encP x) (encP y)).run Tryz.prog w = .ok (decide (x = y)) w := by
  have u9 := Tryz.underlying9
  have hS : Tryz.prog.underlying 59 = some (.struct (Tryz.prog.fieldsOf 59)) := by kernel_rfl
  have hp : Tryz.prog.stoodInHeld 59 = false := by kernel_rfl
  have hf : Tryz.prog.fieldsOf 59 = (match Tryz.prog.underlying 59 with | some (.struct fs) => fs | _ => #[]) := by kernel_rfl
  unfold Op.equal Op.maxDepth encP
  rw [show (10000 : Nat) = 9999 + 1 from rfl, run_equalIn_agg w 9999 59 _ _ hS hp, hf, Tryz.underlying59]
  go_simp
  have hl : ∀ a b : ByteArray, a.toList = b.toList ↔ a = b := fun a b => by
    have := beq_toListBytes a b
    rw [beq_bytes] at this
    constructor
    · intro h; rw [h] at this; simpa using this
    · rintro rfl; rfl
  obtain ⟨a, b⟩ := x
  obtain ⟨c, d⟩ := y
  simp only [hl, Prod.mk.injEq]
  by_cases h1 : a = c <;> by_cases h2 : b = d <;> simp [h1, h2]
theorem checkP (em : Bool) (x : ByteArray × ByteArray) (w : World) : (Instr.checkKey em 10000 59 (encP x)).run Tryz.prog w = .ok () w := by
  have u9 := Tryz.underlying9
  have h1 : ∀ n s, (Instr.checkKey em (n + 1) 9 (.string s)).run Tryz.prog w = .ok () w := fun n s => by simp [Instr.checkKey, run_underlying u9]
  have h2 : ∀ m, (∀ s, (Instr.checkKey em m 9 (.string s)).run Tryz.prog w = .ok () w) → (Instr.checkKey em (m + 1) 59 (encP x)).run Tryz.prog w = .ok () w := fun m hm => by
    rw [Instr.checkKey]
    have p0 : (part 9 #[Value.string x.1, Value.string x.2] 0).run Tryz.prog w = .ok (.string x.1) w := by simp [part, isAgg, run_underlying u9]
    have p1 : (part 9 #[Value.string x.1, Value.string x.2] 1).run Tryz.prog w = .ok (.string x.2) w := by simp [part, isAgg, run_underlying u9]
    simp [encP, Sem.run_bind, run_underlying Tryz.underlying59, hm, p0, p1]
  exact h2 9999 (fun s => h1 9998 s)
theorem sameP (x : ByteArray × ByteArray) : Instr.sameBits 10000 (encP x) (encP x) = true := by
  have h : ∀ n, Instr.sameBits (n + 1) (encP x) (encP x) = true := fun n => by
    rw [encP, Instr.sameBits]
    have : ∀ s : ByteArray, Instr.sameBits n (.string s) (.string s) = true := fun s => by cases n <;> simp [Instr.sameBits, beq_bytes]
    simp [this]
  exact h 9999
theorem askP (x : ByteArray × ByteArray) (w : World) : ∀ (ks : List (ByteArray × ByteArray)) (es : List MapEntry) (i : Nat), es.map (·.key) = ks.map encP → (Instr.findAsking 59 (encP x) es i).run Tryz.prog w = .ok (fnd x ks es i) w
  | [], [], _, _ => by simp [Instr.findAsking, fnd]
  | [], e :: es, _, h => by simp at h
  | k :: ks, [], _, h => by simp at h
  | k :: ks, e :: es, i, h => by
    simp only [List.map_cons, List.cons.injEq] at h
    simp only [Instr.findAsking, fnd, Sem.run_bind, h.1, eqP, Result.andThen_ok]
    by_cases hx : x = k
    · simp [hx]
    · simp [hx, askP x w ks es (i + 1) h.2]
theorem keyOk_pair : KeyOk Tryz.prog 59 encP where
  inj x y h := by obtain ⟨a, b⟩ := x; obtain ⟨c, d⟩ := y; simp [encP] at h; simp [h]
  check := checkP
  stays x w := by simp [Instr.keyThatStays, sameP]
  find x ks es w h := by
    unfold Instr.findKey
    simp only [Sem.run_bind, run_underlying Tryz.underlying59, Result.andThen_ok]
    cases es with
    | nil => cases ks with
      | nil => simp [Instr.findNow, fnd]
      | cons k ks => simp at h
    | cons e es => cases ks with
      | nil => simp at h
      | cons k ks =>
        have := askP x w (k :: ks) (e :: es) 0 h
        simp only [List.map_cons, List.cons.injEq] at h
        simp only [Instr.findNow, Instr.sameNow]
        exact this
end Go.Proofs.YtbemljgcclaopaaGreatDoor
