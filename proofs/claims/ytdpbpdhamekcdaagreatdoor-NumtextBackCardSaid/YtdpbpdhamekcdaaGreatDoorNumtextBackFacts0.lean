/-
  Closed facts of the row of NumtextBack, part 1: the kernel reckons each. No condition.
-/
import Derived.Test.YtdpbpdhamekcdaaGreatDoorRows
import Derived.Test.YtdpbpdhamekcdaaGreatDoorCards
import Derived.JoinedOf
import Derived.ProofKit
import Derived.KernelRfl
namespace Go.Proofs.YtdpbpdhamekcdaaGreatDoor.numtextBack
open Go.ChangeShapes Go.WideShapes Go.ChangeAt Go.RowKit
theorem fact0 : (Rows.numtextBackRow.wf (OpenSpec.ofChange Rows.numtextBackSpec)) = true := by kernel_rfl
theorem fact1 : (laidOutB Tryz.prog) = true := by kernel_rfl
theorem fact2 : (mapsRowed Tryz.prog) = true := by kernel_rfl
theorem fact3 : (Tryz.f5.params.all (Tryz.prog.readableRec ·)) = true := by kernel_rfl
theorem fact4 : (namedTie Tryz.prog Rows.numtextBackRow.named Rows.numtextBackSpec.vars) = true := by kernel_rfl
theorem fact5 : ((Rows.numtextBackRow.stops == [])) = true := by kernel_rfl
theorem fact6 : ((Tryz.prog.stops == [])) = true := by kernel_rfl
theorem fact7 : ((Rows.numtextBackRow.knobs == [])) = true := by kernel_rfl
theorem fact8 : ((Tryz.prog.stopKnobs == [])) = true := by kernel_rfl
theorem fact9 : ((Rows.numtextBackRow.inPlace == Tryz.prog.inPlace 5)) = true := by kernel_rfl
theorem fact10 : ((Rows.numtextBackRow.unfollowed == Tryz.prog.unfollowed 5)) = true := by kernel_rfl
theorem fact11 : ((Rows.numtextBackRow.recurses == Tryz.prog.recurses 5)) = true := by kernel_rfl
theorem fact12 : ((Rows.numtextBackRow.named == Tryz.prog.varsNamed 5)) = true := by kernel_rfl
theorem fact13 : ((Rows.numtextBackRow.maps == (Tryz.f5.params.toList ++ Rows.numtextBackSpec.plain.varTypes Tryz.prog).any (Tryz.prog.mapsRec ·))) = true := by kernel_rfl
theorem fact14 : ((Rows.numtextBackRow.ifaces == (Tryz.f5.params.toList ++ Rows.numtextBackSpec.plain.varTypes Tryz.prog).any (Tryz.prog.ifacesRec ·))) = true := by kernel_rfl
theorem fact15 : ((Rows.numtextBackRow.mapsOut == Tryz.prog.mapsAmong Tryz.f5.resultTypes.toList)) = true := by kernel_rfl
end Go.Proofs.YtdpbpdhamekcdaaGreatDoor.numtextBack
