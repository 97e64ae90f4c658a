/-
  Two ends held against each other: the same are equal. No condition.
-/
import Derived.Test.YthdccijielekcaaGreatDoorOpBin
import Derived.Laws.StructEq
namespace Go.Proofs.YthdccijielekcaaGreatDoor
open Go.RowKit

theorem eq_doneL (w : World) : (binOp .eql 33 doneL doneL).run Tryz.prog w = .ok (.bool true) w := by kernel_rfl
theorem eqFields_cons {P : Program} {w : World} {d : Nat} {xs ys : Array Value} {f : Field} {fs : List Field} (a b : Value) (hn : (f.name == "_") = false) (ha : (part f.type xs f.offset).run P w = .ok a w) (hb : (part f.type ys f.offset).run P w = .ok b w)
    (he : (Op.equalIn d f.type a b).run P w = .ok true w) : (Op.eqFields d xs ys (f :: fs)).run P w = (Op.eqFields d xs ys fs).run P w := by
  have hn' : f.name ≠ "_" := by simpa using hn
  simp only [Op.eqFields, hn', ne_eq, not_false_eq_true, if_true, Sem.run_bind, ha, hb, he, Result.andThen_ok, Bool.not_true, Bool.false_eq_true, if_false]
theorem eqFields_nil {P : Program} {w : World} {d : Nat} {xs ys : Array Value} : (Op.eqFields d xs ys []).run P w = .ok true w := by simp [Op.eqFields]
theorem equalIn_text (d : Nat) (s : ByteArray) (w : World) : (Op.equalIn (d + 1) 9 (.string s) (.string s)).run Tryz.prog w = .ok true w := by
  rw [run_equalIn_string w d _ s s Tryz.underlying9]
  simp
theorem equalIn_val (d : Nat) (s : ByteArray) (w : World) : (Op.equalIn (d + 1 + 1) 31 (val 4 false 0 s 0) (val 4 false 0 s 0)).run Tryz.prog w = .ok true w := by
  have hS : Tryz.prog.underlying 31 = some (.struct (Tryz.prog.fieldsOf 31)) := by kernel_rfl
  have hp : Tryz.prog.stoodInHeld 31 = false := by kernel_rfl
  rw [run_equalIn_struct w (d + 1) _ _ _ hS hp]
  simp only [Program.fieldsOf, Tryz.underlying31]
  refine (eqFields_cons (.int .i64 4) (.int .i64 4) (by decide) (by kernel_rfl) (by kernel_rfl) (by kernel_rfl)).trans ?_
  refine (eqFields_cons (.bool false) (.bool false) (by decide) (by kernel_rfl) (by kernel_rfl) (by kernel_rfl)).trans ?_
  refine (eqFields_cons (.float .f64 0) (.float .f64 0) (by decide) (by kernel_rfl) (by kernel_rfl) (by kernel_rfl)).trans ?_
  refine (eqFields_cons (.string s) (.string s) (by decide) (by kernel_rfl) (by kernel_rfl) ?_).trans ?_
  · dsimp only
    exact equalIn_text d s w
  refine (eqFields_cons (.int .i64 0) (.int .i64 0) (by decide) (by kernel_rfl) (by kernel_rfl) (by kernel_rfl)).trans ?_
  exact eqFields_nil
theorem equalIn_done (d : Nat) (s : ByteArray) (w : World) : (Op.equalIn (d + 1 + 1 + 1) 33 (doneV 0 4 false 0 s 0 ⟨#[]⟩) (doneV 0 4 false 0 s 0 ⟨#[]⟩)).run Tryz.prog w = .ok true w := by
  have hS : Tryz.prog.underlying 33 = some (.struct (Tryz.prog.fieldsOf 33)) := by kernel_rfl
  have hp : Tryz.prog.stoodInHeld 33 = false := by kernel_rfl
  rw [run_equalIn_struct w (d + 1 + 1) _ _ _ hS hp]
  simp only [Program.fieldsOf, Tryz.underlying33]
  refine (eqFields_cons (.int .i64 0) (.int .i64 0) (by decide) (by kernel_rfl) (by kernel_rfl) (by kernel_rfl)).trans ?_
  refine (eqFields_cons (val 4 false 0 s 0) (val 4 false 0 s 0) (by decide) (by kernel_rfl) (by kernel_rfl) ?_).trans ?_
  · dsimp only
    exact equalIn_val d s w
  refine (eqFields_cons (.string ⟨#[]⟩) (.string ⟨#[]⟩) (by decide) (by kernel_rfl) (by kernel_rfl) (by kernel_rfl)).trans ?_
  exact eqFields_nil
theorem eq_text (s : ByteArray) (w : World) : (binOp .eql 33 (doneV 0 4 false 0 s 0 ⟨#[]⟩) (doneV 0 4 false 0 s 0 ⟨#[]⟩)).run Tryz.prog w = .ok (.bool true) w := by
  rw [run_eql_struct, show (10000 : Nat) = 9997 + 1 + 1 + 1 from rfl, equalIn_done 9997 s w]
  rfl
end Go.Proofs.YthdccijielekcaaGreatDoor
