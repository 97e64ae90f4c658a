/-
  Closed facts of the row of NumtextRadix, part 1: the kernel reckons each. No condition.
-/
import Derived.Test.YtdpbpdhamekcdaaGreatDoorRows
import Derived.Test.YtdpbpdhamekcdaaGreatDoorCards
import Derived.JoinedOf
import Derived.ProofKit
import Derived.KernelRfl
namespace Go.Proofs.YtdpbpdhamekcdaaGreatDoor.numtextRadix
open Go.ChangeShapes Go.WideShapes Go.ChangeAt Go.RowKit
theorem fact0 : (Rows.numtextRadixRow.wf (OpenSpec.ofChange Rows.numtextRadixSpec)) = true := by kernel_rfl
theorem fact1 : (laidOutB Tryz.prog) = true := by kernel_rfl
theorem fact2 : (mapsRowed Tryz.prog) = true := by kernel_rfl
theorem fact3 : (Tryz.f8.params.all (Tryz.prog.readableRec ·)) = true := by kernel_rfl
theorem fact4 : (namedTie Tryz.prog Rows.numtextRadixRow.named Rows.numtextRadixSpec.vars) = true := by kernel_rfl
theorem fact5 : ((Rows.numtextRadixRow.stops == [])) = true := by kernel_rfl
theorem fact6 : ((Tryz.prog.stops == [])) = true := by kernel_rfl
theorem fact7 : ((Rows.numtextRadixRow.knobs == [])) = true := by kernel_rfl
theorem fact8 : ((Tryz.prog.stopKnobs == [])) = true := by kernel_rfl
theorem fact9 : ((Rows.numtextRadixRow.inPlace == Tryz.prog.inPlace 8)) = true := by kernel_rfl
theorem fact10 : ((Rows.numtextRadixRow.unfollowed == Tryz.prog.unfollowed 8)) = true := by kernel_rfl
theorem fact11 : ((Rows.numtextRadixRow.recurses == Tryz.prog.recurses 8)) = true := by kernel_rfl
theorem fact12 : ((Rows.numtextRadixRow.named == Tryz.prog.varsNamed 8)) = true := by kernel_rfl
theorem fact13 : ((Rows.numtextRadixRow.maps == (Tryz.f8.params.toList ++ Rows.numtextRadixSpec.plain.varTypes Tryz.prog).any (Tryz.prog.mapsRec ·))) = true := by kernel_rfl
theorem fact14 : ((Rows.numtextRadixRow.ifaces == (Tryz.f8.params.toList ++ Rows.numtextRadixSpec.plain.varTypes Tryz.prog).any (Tryz.prog.ifacesRec ·))) = true := by kernel_rfl
theorem fact15 : ((Rows.numtextRadixRow.mapsOut == Tryz.prog.mapsAmong Tryz.f8.resultTypes.toList)) = true := by kernel_rfl
end Go.Proofs.YtdpbpdhamekcdaaGreatDoor.numtextRadix
