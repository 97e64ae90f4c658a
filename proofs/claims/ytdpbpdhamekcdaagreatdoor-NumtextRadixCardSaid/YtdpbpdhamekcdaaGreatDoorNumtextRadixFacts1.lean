/-
  Closed facts of the row of NumtextRadix, part 2: the kernel reckons each. No condition.
-/
import Derived.Test.YtdpbpdhamekcdaaGreatDoorRows
import Derived.Test.YtdpbpdhamekcdaaGreatDoorCards
import Derived.JoinedOf
import Derived.ProofKit
import Derived.KernelRfl
namespace Go.Proofs.YtdpbpdhamekcdaaGreatDoor.numtextRadix
open Go.ChangeShapes Go.WideShapes Go.ChangeAt Go.RowKit
theorem fact16 : ((Rows.numtextRadixRow.loops == (Tryz.f8.params.toList ++ Rows.numtextRadixSpec.plain.varTypes Tryz.prog).any (Tryz.prog.loopsFrom ·))) = true := by kernel_rfl
theorem fact17 : ((Rows.numtextRadixRow.wideKeys == (Tryz.f8.params.toList ++ Rows.numtextRadixSpec.plain.varTypes Tryz.prog ++ Tryz.f8.resultTypes.toList).any (Tryz.prog.wideKeysFrom ·))) = true := by kernel_rfl
theorem fact18 : (Rows.numtextRadixSpec.vars.all (Tryz.prog.varReadable ·)) = true := by kernel_rfl
theorem fact19 : (Tryz.f8.resultTypes.all (fun t => Tryz.prog.readableRec t && decide (t < Tryz.prog.types.size))) = true := by kernel_rfl
theorem fact20 : ((Rows.numtextRadixRow.ifacesOut == Tryz.f8.resultTypes.toList.any (Tryz.prog.ifacesRec ·))) = true := by kernel_rfl
theorem fact21 : ((Rows.numtextRadixRow.loopsOut == Tryz.f8.resultTypes.toList.any (Tryz.prog.loopsFrom ·))) = true := by kernel_rfl
theorem fact22 : ((Rows.numtextRadixRow.plainKeys == Tryz.prog.plainKeys)) = true := by kernel_rfl
theorem fact23 : (Rows.numtextRadixRow.shortTexts.isNone) = true := by kernel_rfl
theorem fact24 : (Tryz.prog.stopsHeard) = true := by kernel_rfl
theorem fact25 : (Tryz.prog.mayEnter) = true := by kernel_rfl
theorem fact26 : ((Rows.numtextRadixRow.lifted == Tryz.prog.liftsFinal)) = true := by kernel_rfl
theorem fact27 : ((Tryz.prog.make == some Rows.numtextRadixRow.make)) = true := by kernel_rfl
theorem fact28 : ((Rows.numtextRadixRow.kinds == (if Rows.numtextRadixRow.domain.isEmpty then [] else Tryz.f8.params.toList.map fun t => match Tryz.prog.underlying t with | some (.int k) => some k | _ => none))) = true := by kernel_rfl
theorem fact29 : ((Rows.numtextRadixRow.pinned == Rows.numtextRadixRow.pinnedBy)) = true := by kernel_rfl
theorem fact30 : ((Rows.numtextRadixRow.veiled == (Tryz.f8.params.toList ++ Rows.numtextRadixSpec.plain.varTypes Tryz.prog ++ Tryz.f8.resultTypes.toList).any (Tryz.prog.veiledRec ·))) = true := by kernel_rfl
theorem fact31 : (Rows.numtextRadixRow.veiledFits Tryz.prog Tryz.f8.params.toList (Tryz.f8.params.toList ++ Rows.numtextRadixSpec.plain.varTypes Tryz.prog ++ Tryz.f8.resultTypes.toList)) = true := by kernel_rfl
end Go.Proofs.YtdpbpdhamekcdaaGreatDoor.numtextRadix
