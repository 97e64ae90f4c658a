/-
  Closed facts of the row of NumtextFixed, part 1: the kernel reckons each. No condition.
-/
import Derived.Test.YtdpbpdhamekcdaaGreatDoorRows
import Derived.Test.YtdpbpdhamekcdaaGreatDoorCards
import Derived.JoinedOf
import Derived.ProofKit
import Derived.KernelRfl
namespace Go.Proofs.YtdpbpdhamekcdaaGreatDoor.numtextFixed
open Go.ChangeShapes Go.WideShapes Go.ChangeAt Go.RowKit
theorem fact0 : (Rows.numtextFixedRow.wf (OpenSpec.ofChange Rows.numtextFixedSpec)) = true := by kernel_rfl
theorem fact1 : (laidOutB Tryz.prog) = true := by kernel_rfl
theorem fact2 : (mapsRowed Tryz.prog) = true := by kernel_rfl
theorem fact3 : (Tryz.f9.params.all (Tryz.prog.readableRec ·)) = true := by kernel_rfl
theorem fact4 : (namedTie Tryz.prog Rows.numtextFixedRow.named Rows.numtextFixedSpec.vars) = true := by kernel_rfl
theorem fact5 : ((Rows.numtextFixedRow.stops == [])) = true := by kernel_rfl
theorem fact6 : ((Tryz.prog.stops == [])) = true := by kernel_rfl
theorem fact7 : ((Rows.numtextFixedRow.knobs == [])) = true := by kernel_rfl
theorem fact8 : ((Tryz.prog.stopKnobs == [])) = true := by kernel_rfl
theorem fact9 : ((Rows.numtextFixedRow.inPlace == Tryz.prog.inPlace 9)) = true := by kernel_rfl
theorem fact10 : ((Rows.numtextFixedRow.unfollowed == Tryz.prog.unfollowed 9)) = true := by kernel_rfl
theorem fact11 : ((Rows.numtextFixedRow.recurses == Tryz.prog.recurses 9)) = true := by kernel_rfl
theorem fact12 : ((Rows.numtextFixedRow.named == Tryz.prog.varsNamed 9)) = true := by kernel_rfl
theorem fact13 : ((Rows.numtextFixedRow.maps == (Tryz.f9.params.toList ++ Rows.numtextFixedSpec.plain.varTypes Tryz.prog).any (Tryz.prog.mapsRec ·))) = true := by kernel_rfl
theorem fact14 : ((Rows.numtextFixedRow.ifaces == (Tryz.f9.params.toList ++ Rows.numtextFixedSpec.plain.varTypes Tryz.prog).any (Tryz.prog.ifacesRec ·))) = true := by kernel_rfl
theorem fact15 : ((Rows.numtextFixedRow.mapsOut == Tryz.prog.mapsAmong Tryz.f9.resultTypes.toList)) = true := by kernel_rfl
end Go.Proofs.YtdpbpdhamekcdaaGreatDoor.numtextFixed
