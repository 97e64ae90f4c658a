/-
  quilllaw15.EnvHides answers true for every input, and leaves its arguments as they were (the tied card). No condition beyond the card's own.
-/
import Derived.Test.YtngodcoefmihlaaGreatDoorEnvHidesMain
namespace Go.Proofs.YtngodcoefmihlaaGreatDoor.envHides
open Go.ChangeShapes Go.WideShapes Go.ChangeAt Go.RowKit

theorem card_wf : Rows.envHidesRow.wfByText (OpenSpec.ofChange Rows.envHidesSpec) = true := by kernel_rfl
theorem card_main : Tryz.pinned.checked.prog.mainIs = some (Rows.envHidesCard.stood.harness.1, Rows.envHidesCard.stood.harness.2.toList) := by kernel_rfl
theorem no_goes {P : Program} (h : P.funcs.any Func.goes = false) (f : FuncId) : P.goes f = false := by
  have each : ∀ g : Nat, (P.funcs[g]?).any Func.goes = false := fun g => by
    cases e : P.funcs[g]? with
    | none => rfl
    | some fn =>
      have hm : fn ∈ P.funcs := Array.mem_of_getElem? e
      have := Array.any_eq_false'.1 h fn hm
      simpa using this
  unfold Program.goes
  rw [h, Bool.and_false, Bool.or_false]
  exact List.any_eq_false.2 fun g _ => by simp [each g]
theorem goes_none : Tryz.prog.funcs.any Func.goes = false := by kernel_rfl
theorem card_goes : false = Rows.envHidesRow.goesBy Tryz.pinned.checked.prog := by
  have h : ∀ f, Tryz.pinned.checked.prog.goes f = false := no_goes goes_none
  unfold OpenClaim.goesBy Program.goesAt Program.goesFrom
  cases Tryz.pinned.checked.prog.funcNamed Rows.envHidesRow.func with
  | none => rfl
  | some f => simp [h f, Rows.envHidesRow]
theorem card : Rows.EnvHidesCardSaid :=
  Claim7.holds_tied_plain_at .later [] _ _ _ _ said (fun _ h => by cases h) card_wf (fun _ h => by cases h) envHides_row_tie rfl ⟨rfl, rfl⟩ card_main rfl plain card_goes
#print axioms card
end Go.Proofs.YtngodcoefmihlaaGreatDoor.envHides
