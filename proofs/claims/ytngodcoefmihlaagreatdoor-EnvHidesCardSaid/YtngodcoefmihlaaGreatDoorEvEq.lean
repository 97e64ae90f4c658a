/-
  A number told, held against the same: they are equal, if the number is no NaN. No condition besides.
-/
import Derived.Test.YtngodcoefmihlaaGreatDoorEvAwake
import Derived.Laws.StructEq
namespace Go.Proofs.YtngodcoefmihlaaGreatDoor
open Go.RowKit

theorem eqFieldsCons {P : Program} {w : World} {d : Nat} {xs ys : Array Value} {f : Field} {fs : List Field} (a b : Value) (hn : (f.name == "_") = false) (ha : (part f.type xs f.offset).run P w = .ok a w) (hb : (part f.type ys f.offset).run P w = .ok b w)
    (he : (Op.equalIn d f.type a b).run P w = .ok true w) : (Op.eqFields d xs ys (f :: fs)).run P w = (Op.eqFields d xs ys fs).run P w := by
  have hn' : f.name ≠ "_" := by simpa using hn
  simp only [Op.eqFields, hn', ne_eq, not_false_eq_true, if_true, Sem.run_bind, ha, hb, he, Result.andThen_ok, Bool.not_true, Bool.false_eq_true, if_false]
theorem eqFieldsNil {P : Program} {w : World} {d : Nat} {xs ys : Array Value} : (Op.eqFields d xs ys []).run P w = .ok true w := by simp [Op.eqFields]
theorem equalIn_float (d : Nat) (n : Nat) (h : FloatKind.f64.format.order n n = some .eq) (w : World) : (Op.equalIn (d + 1) 23 (.float .f64 n) (.float .f64 n)).run Tryz.prog w = .ok true w := by
  simp [Op.equalIn, run_underlying Tryz.underlying23, Op.floatEq, h]
theorem equalIn_valN (d : Nat) (n : Nat) (h : FloatKind.f64.format.order n n = some .eq) (w : World) : (Op.equalIn (d + 1 + 1) 35 (val 3 false n ⟨#[]⟩ 0) (val 3 false n ⟨#[]⟩ 0)).run Tryz.prog w = .ok true w := by
  have hS : Tryz.prog.underlying 35 = some (.struct (Tryz.prog.fieldsOf 35)) := by kernel_rfl
  have hp : Tryz.prog.stoodInHeld 35 = false := by kernel_rfl
  rw [run_equalIn_struct w (d + 1) _ _ _ hS hp]
  simp only [Program.fieldsOf, Tryz.underlying35]
  refine (eqFieldsCons (.int .i64 3) (.int .i64 3) (by decide) (by kernel_rfl) (by kernel_rfl) (by kernel_rfl)).trans ?_
  refine (eqFieldsCons (.bool false) (.bool false) (by decide) (by kernel_rfl) (by kernel_rfl) (by kernel_rfl)).trans ?_
  refine (eqFieldsCons (.float .f64 n) (.float .f64 n) (by decide) (by kernel_rfl) (by kernel_rfl) ?_).trans ?_
  · dsimp only
    exact equalIn_float d n h w
  refine (eqFieldsCons (.string ⟨#[]⟩) (.string ⟨#[]⟩) (by decide) (by kernel_rfl) (by kernel_rfl) (by kernel_rfl)).trans ?_
  refine (eqFieldsCons (.int .i64 0) (.int .i64 0) (by decide) (by kernel_rfl) (by kernel_rfl) (by kernel_rfl)).trans ?_
  exact eqFieldsNil
theorem equalIn_doneN (d : Nat) (n : Nat) (h : FloatKind.f64.format.order n n = some .eq) (w : World) : (Op.equalIn (d + 1 + 1 + 1) 37 (doneN 3 false n ⟨#[]⟩ 0) (doneN 3 false n ⟨#[]⟩ 0)).run Tryz.prog w = .ok true w := by
  have hS : Tryz.prog.underlying 37 = some (.struct (Tryz.prog.fieldsOf 37)) := by kernel_rfl
  have hp : Tryz.prog.stoodInHeld 37 = false := by kernel_rfl
  rw [run_equalIn_struct w (d + 1 + 1) _ _ _ hS hp]
  simp only [Program.fieldsOf, Tryz.underlying37]
  refine (eqFieldsCons (.int .i64 0) (.int .i64 0) (by decide) (by kernel_rfl) (by kernel_rfl) (by kernel_rfl)).trans ?_
  refine (eqFieldsCons (val 3 false n ⟨#[]⟩ 0) (val 3 false n ⟨#[]⟩ 0) (by decide) (by kernel_rfl) (by kernel_rfl) ?_).trans ?_
  · dsimp only
    exact equalIn_valN d n h w
  refine (eqFieldsCons (.string ⟨#[]⟩) (.string ⟨#[]⟩) (by decide) (by kernel_rfl) (by kernel_rfl) (by kernel_rfl)).trans ?_
  exact eqFieldsNil
theorem eq_number (n : Nat) (h : FloatKind.f64.format.order n n = some .eq) (w : World) : (binOp .eql 37 (.agg #[.int .i64 0, .int .i64 3, .bool false, .float .f64 n, .string ⟨#[]⟩, .int .i64 0, .string ⟨#[]⟩]) (.agg #[.int .i64 0, .int .i64 3, .bool false, .float .f64 n, .string ⟨#[]⟩, .int .i64 0, .string ⟨#[]⟩])).run Tryz.prog w = .ok (.bool true) w := by
  rw [run_eql_struct, show (10000 : Nat) = 9997 + 1 + 1 + 1 from rfl, equalIn_doneN 9997 n h w]
  rfl
end Go.Proofs.YtngodcoefmihlaaGreatDoor
