/-
  Closed facts of the row of HeapNobody, part 2: the kernel reckons each. No condition.
-/
import Derived.Test.YthdccijielekcaaGreatDoorRows
import Derived.Test.YthdccijielekcaaGreatDoorCards
import Derived.JoinedOf
import Derived.ProofKit
import Derived.KernelRfl
namespace Go.Proofs.YthdccijielekcaaGreatDoor.heapNobody
open Go.ChangeShapes Go.WideShapes Go.ChangeAt Go.RowKit
theorem fact16 : ((Rows.heapNobodyRow.loops == (Tryz.f4.params.toList ++ Rows.heapNobodySpec.plain.varTypes Tryz.prog).any (Tryz.prog.loopsFrom ·))) = true := by kernel_rfl
theorem fact17 : ((Rows.heapNobodyRow.wideKeys == (Tryz.f4.params.toList ++ Rows.heapNobodySpec.plain.varTypes Tryz.prog ++ Tryz.f4.resultTypes.toList).any (Tryz.prog.wideKeysFrom ·))) = true := by kernel_rfl
theorem fact18 : (Rows.heapNobodySpec.vars.all (Tryz.prog.varReadable ·)) = true := by kernel_rfl
theorem fact19 : (Tryz.f4.resultTypes.all (fun t => Tryz.prog.readableRec t && decide (t < Tryz.prog.types.size))) = true := by kernel_rfl
theorem fact20 : ((Rows.heapNobodyRow.ifacesOut == Tryz.f4.resultTypes.toList.any (Tryz.prog.ifacesRec ·))) = true := by kernel_rfl
theorem fact21 : ((Rows.heapNobodyRow.loopsOut == Tryz.f4.resultTypes.toList.any (Tryz.prog.loopsFrom ·))) = true := by kernel_rfl
theorem fact22 : ((Rows.heapNobodyRow.plainKeys == Tryz.prog.plainKeys)) = true := by kernel_rfl
theorem fact23 : (Rows.heapNobodyRow.shortTexts.isNone) = true := by kernel_rfl
theorem fact24 : (Tryz.prog.stopsHeard) = true := by kernel_rfl
theorem fact25 : (Tryz.prog.mayEnter) = true := by kernel_rfl
theorem fact26 : ((Rows.heapNobodyRow.lifted == Tryz.prog.liftsFinal)) = true := by kernel_rfl
theorem fact27 : ((Tryz.prog.make == some Rows.heapNobodyRow.make)) = true := by kernel_rfl
theorem fact28 : ((Rows.heapNobodyRow.kinds == (if Rows.heapNobodyRow.domain.isEmpty then [] else Tryz.f4.params.toList.map fun t => match Tryz.prog.underlying t with | some (.int k) => some k | _ => none))) = true := by kernel_rfl
theorem fact29 : ((Rows.heapNobodyRow.pinned == Rows.heapNobodyRow.pinnedBy)) = true := by kernel_rfl
theorem fact30 : ((Rows.heapNobodyRow.veiled == (Tryz.f4.params.toList ++ Rows.heapNobodySpec.plain.varTypes Tryz.prog ++ Tryz.f4.resultTypes.toList).any (Tryz.prog.veiledRec ·))) = true := by kernel_rfl
theorem fact31 : (Rows.heapNobodyRow.veiledFits Tryz.prog Tryz.f4.params.toList (Tryz.f4.params.toList ++ Rows.heapNobodySpec.plain.varTypes Tryz.prog ++ Tryz.f4.resultTypes.toList)) = true := by kernel_rfl
end Go.Proofs.YthdccijielekcaaGreatDoor.heapNobody
