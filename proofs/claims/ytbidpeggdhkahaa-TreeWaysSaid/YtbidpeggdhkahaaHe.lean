/-
  H1: proofs (certificates) as plain data; how they lie in memory; what a checker says of them. No program in sight.
  He: the tests '==' and '!=' of places and keys (structs of numbers).
-/
import Derived.Test.YtbidpeggdhkahaaMp
import Derived.Test.YtbidpeggdhkahaaI0
import Derived.Test.YtbidpeggdhkahaaA3
import Derived.Laws.StructEq
set_option linter.unusedSimpArgs false
set_option linter.unusedVariables false
namespace Go.Proofs.Ytbidpeggdhkahaa
open Go.RowKit

theorem plc_fields : (Try.prog.fieldsOf 57).toList.map (fun f => (f.name == "_", f.type, f.offset)) = [(false, 3, 0), (false, 3, 1), (false, 3, 2)] := by kernel_rfl
theorem plc_held : Try.prog.stoodInHeld 57 = false := by kernel_rfl
theorem plc_under : Try.prog.underlying 57 = some (.struct (Try.prog.fieldsOf 57)) := by kernel_rfl
theorem plc_guard : Try.prog.eqGuardType Try.prog.depth 57 = false := by kernel_rfl
/-- The test of fields, by their types and places alone. -/
def eqFs (d : Nat) (xs ys : Array Value) : List (Bool × TypeId × Nat) → Sem Bool
  | [] => pure true
  | f :: fs =>
    if f.1 = true then eqFs d xs ys fs else do
      let a ← part f.2.1 xs f.2.2
      let b ← part f.2.1 ys f.2.2
      let r ← Op.equalIn d f.2.1 a b
      if (!r) = true then pure false else eqFs d xs ys fs
theorem eqFields_eq (d : Nat) (xs ys : Array Value) (fs : List Field) : Op.eqFields d xs ys fs = eqFs d xs ys (fs.map fun f => (f.name == "_", f.type, f.offset)) := by
  induction fs with
  | nil => rfl
  | cons f fs ih =>
    simp only [Op.eqFields, List.map_cons, eqFs, ih]
    by_cases h : f.name = "_" <;> simp [h]
theorem partInt (cs : Array Value) (n : Nat) (v : Int) (h : cs[n]? = some (.int .i64 v)) (w : World) : (part 3 cs n).run Try.prog w = .ok (.int .i64 v) w := by
  unfold part
  simp [go_sem, h]
theorem eqInt (d : Nat) (a b : Int) (w : World) : (Op.equalIn (d + 1) 3 (.int .i64 a) (.int .i64 b)).run Try.prog w = .ok (a == b) w := run_equalIn_int w d 3 .i64 .i64 a b Try.underlying3
theorem partPlc (a b x y z u v : Value) (w : World) : (part 57 #[a, b, x, y, z, u, v] 2).run Try.prog w = .ok (.agg #[x, y, z]) w := by
  unfold part
  simp [go_sem]
/-- One field more: equal so far. -/
theorem eqFs_int (d : Nat) (xs ys : Array Value) (n : Nat) (a b : Int) (fs : List (Bool × TypeId × Nat)) (ha : xs[n]? = some (.int .i64 a)) (hb : ys[n]? = some (.int .i64 b)) (w : World) :
    (eqFs (d + 1) xs ys ((false, 3, n) :: fs)).run Try.prog w = if a = b then (eqFs (d + 1) xs ys fs).run Try.prog w else .ok false w := by
  simp only [eqFs, Bool.false_eq_true, if_false, Sem.run_bind]
  rw [partInt _ n a ha]; simp only [Result.andThen_ok]
  rw [partInt _ n b hb]; simp only [Result.andThen_ok]
  rw [eqInt]; simp only [Result.andThen_ok]
  by_cases h : a = b
  · simp [h]
  · simp [h]
theorem eqPlc (d : Nat) (a b : Plc) (w : World) : (Op.equalIn (d + 2) 57 (plV a) (plV b)).run Try.prog w = .ok (decide (a = b)) w := by
  unfold plV
  rw [run_equalIn_struct w (d + 1) 57 _ _ plc_under plc_held, eqFields_eq, plc_fields]
  obtain ⟨a1, a2, a3⟩ := a
  obtain ⟨b1, b2, b3⟩ := b
  rw [eqFs_int _ _ _ 0 a1 b1 _ rfl rfl, eqFs_int _ _ _ 1 a2 b2 _ rfl rfl, eqFs_int _ _ _ 2 a3 b3 _ rfl rfl]
  by_cases h1 : a1 = b1 <;> by_cases h2 : a2 = b2 <;> by_cases h3 : a3 = b3 <;> simp [h1, h2, h3, eqFs]
theorem eqKy {T : TypeId} (hf : (Try.prog.fieldsOf T).toList.map (fun f => (f.name == "_", f.type, f.offset)) = [(false, 3, 0), (false, 3, 1), (false, 57, 2), (false, 3, 5), (false, 3, 6)]) (hh : Try.prog.stoodInHeld T = false)
    (hu : Try.prog.underlying T = some (.struct (Try.prog.fieldsOf T))) (d : Nat) (a b : Ky) (w : World) : (Op.equalIn (d + 3) T (kyV a) (kyV b)).run Try.prog w = .ok (decide (a = b)) w := by
  unfold kyV
  rw [run_equalIn_struct w (d + 2) T _ _ hu hh, eqFields_eq, hf]
  obtain ⟨a1, a2, ap, a6, a7⟩ := a
  obtain ⟨b1, b2, bp, b6, b7⟩ := b
  rw [eqFs_int _ _ _ 0 a1 b1 _ rfl rfl, eqFs_int _ _ _ 1 a2 b2 _ rfl rfl]
  by_cases h1 : a1 = b1
  · by_cases h2 : a2 = b2
    · subst h1
      subst h2
      rw [if_pos rfl, if_pos rfl]
      simp only [eqFs, Bool.false_eq_true, if_false, Sem.run_bind]
      rw [partPlc]; simp only [Result.andThen_ok]
      rw [partPlc]; simp only [Result.andThen_ok]
      have := eqPlc d ap bp w
      unfold plV at this
      rw [this]; simp only [Result.andThen_ok]
      by_cases h3 : ap = bp
      · subst h3
        simp only [decide_true, Bool.not_true, Bool.false_eq_true, if_false, Sem.run_bind]
        rw [partInt _ 5 a6 rfl]; simp only [Result.andThen_ok]
        rw [partInt _ 5 b6 rfl]; simp only [Result.andThen_ok]
        rw [eqInt]; simp only [Result.andThen_ok]
        by_cases h4 : a6 = b6
        · subst h4
          simp only [beq_self_eq_true, Bool.not_true, Bool.false_eq_true, if_false, Sem.run_bind]
          rw [partInt _ 6 a7 rfl]; simp only [Result.andThen_ok]
          rw [partInt _ 6 b7 rfl]; simp only [Result.andThen_ok]
          rw [eqInt]; simp only [Result.andThen_ok]
          by_cases h5 : a7 = b7
          · subst h5; simp
          · simp [h5]
        · simp [h4]
      · simp [h3]
    · simp [h2]
  · simp [h1]
theorem run_plc_eql (a b : Plc) (w : World) : (binOp .eql 57 (plV a) (plV b)).run Try.prog w = .ok (.bool (decide (a = b))) w := by
  have := eqPlc 9998 a b w
  unfold plV at this ⊢
  rw [run_eql_struct, this]; rfl
theorem run_plc_neq (a b : Plc) (w : World) : (binOp .neq 57 (plV a) (plV b)).run Try.prog w = .ok (.bool (!decide (a = b))) w := by
  have := eqPlc 9998 a b w
  unfold plV at this ⊢
  rw [run_neq_struct, this]; rfl
end Go.Proofs.Ytbidpeggdhkahaa
