/-
  Closed facts of the row of NumtextFew, part 2: the kernel reckons each. No condition.
-/
import Derived.Test.YtdpbpdhamekcdaaGreatDoorRows
import Derived.Test.YtdpbpdhamekcdaaGreatDoorCards
import Derived.JoinedOf
import Derived.ProofKit
import Derived.KernelRfl
namespace Go.Proofs.YtdpbpdhamekcdaaGreatDoor.numtextFew
open Go.ChangeShapes Go.WideShapes Go.ChangeAt Go.RowKit
theorem fact16 : ((Rows.numtextFewRow.loops == (Tryz.f10.params.toList ++ Rows.numtextFewSpec.plain.varTypes Tryz.prog).any (Tryz.prog.loopsFrom ·))) = true := by kernel_rfl
theorem fact17 : ((Rows.numtextFewRow.wideKeys == (Tryz.f10.params.toList ++ Rows.numtextFewSpec.plain.varTypes Tryz.prog ++ Tryz.f10.resultTypes.toList).any (Tryz.prog.wideKeysFrom ·))) = true := by kernel_rfl
theorem fact18 : (Rows.numtextFewSpec.vars.all (Tryz.prog.varReadable ·)) = true := by kernel_rfl
theorem fact19 : (Tryz.f10.resultTypes.all (fun t => Tryz.prog.readableRec t && decide (t < Tryz.prog.types.size))) = true := by kernel_rfl
theorem fact20 : ((Rows.numtextFewRow.ifacesOut == Tryz.f10.resultTypes.toList.any (Tryz.prog.ifacesRec ·))) = true := by kernel_rfl
theorem fact21 : ((Rows.numtextFewRow.loopsOut == Tryz.f10.resultTypes.toList.any (Tryz.prog.loopsFrom ·))) = true := by kernel_rfl
theorem fact22 : ((Rows.numtextFewRow.plainKeys == Tryz.prog.plainKeys)) = true := by kernel_rfl
theorem fact23 : (Rows.numtextFewRow.shortTexts.isNone) = true := by kernel_rfl
theorem fact24 : (Tryz.prog.stopsHeard) = true := by kernel_rfl
theorem fact25 : (Tryz.prog.mayEnter) = true := by kernel_rfl
theorem fact26 : ((Rows.numtextFewRow.lifted == Tryz.prog.liftsFinal)) = true := by kernel_rfl
theorem fact27 : ((Tryz.prog.make == some Rows.numtextFewRow.make)) = true := by kernel_rfl
theorem fact28 : ((Rows.numtextFewRow.kinds == (if Rows.numtextFewRow.domain.isEmpty then [] else Tryz.f10.params.toList.map fun t => match Tryz.prog.underlying t with | some (.int k) => some k | _ => none))) = true := by kernel_rfl
theorem fact29 : ((Rows.numtextFewRow.pinned == Rows.numtextFewRow.pinnedBy)) = true := by kernel_rfl
theorem fact30 : ((Rows.numtextFewRow.veiled == (Tryz.f10.params.toList ++ Rows.numtextFewSpec.plain.varTypes Tryz.prog ++ Tryz.f10.resultTypes.toList).any (Tryz.prog.veiledRec ·))) = true := by kernel_rfl
theorem fact31 : (Rows.numtextFewRow.veiledFits Tryz.prog Tryz.f10.params.toList (Tryz.f10.params.toList ++ Rows.numtextFewSpec.plain.varTypes Tryz.prog ++ Tryz.f10.resultTypes.toList)) = true := by kernel_rfl
end Go.Proofs.YtdpbpdhamekcdaaGreatDoor.numtextFew
