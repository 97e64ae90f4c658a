/-
  Closed facts of the row of SnapshotNobody, part 1: the kernel reckons each. No condition.
-/
import Derived.Test.YtpafbjghlgjfcaaGreatDoorRows
import Derived.Test.YtpafbjghlgjfcaaGreatDoorCards
import Derived.JoinedOf
import Derived.ProofKit
import Derived.KernelRfl
namespace Go.Proofs.YtpafbjghlgjfcaaGreatDoor.snapshotNobody
open Go.ChangeShapes Go.WideShapes Go.ChangeAt Go.RowKit
theorem fact0 : (Rows.snapshotNobodyRow.wf (OpenSpec.ofChange Rows.snapshotNobodySpec)) = true := by kernel_rfl
theorem fact1 : (laidOutB Tryz.prog) = true := by kernel_rfl
theorem fact2 : (mapsRowed Tryz.prog) = true := by kernel_rfl
theorem fact3 : (Tryz.f3.params.all (Tryz.prog.readableRec ·)) = true := by kernel_rfl
theorem fact4 : (namedTie Tryz.prog Rows.snapshotNobodyRow.named Rows.snapshotNobodySpec.vars) = true := by kernel_rfl
theorem fact5 : ((Rows.snapshotNobodyRow.stops == [])) = true := by kernel_rfl
theorem fact6 : ((Tryz.prog.stops == [])) = true := by kernel_rfl
theorem fact7 : ((Rows.snapshotNobodyRow.knobs == [])) = true := by kernel_rfl
theorem fact8 : ((Tryz.prog.stopKnobs == [])) = true := by kernel_rfl
theorem fact9 : ((Rows.snapshotNobodyRow.inPlace == Tryz.prog.inPlace 3)) = true := by kernel_rfl
theorem fact10 : ((Rows.snapshotNobodyRow.unfollowed == Tryz.prog.unfollowed 3)) = true := by kernel_rfl
theorem fact11 : ((Rows.snapshotNobodyRow.recurses == Tryz.prog.recurses 3)) = true := by kernel_rfl
theorem fact12 : ((Rows.snapshotNobodyRow.named == Tryz.prog.varsNamed 3)) = true := by kernel_rfl
theorem fact13 : ((Rows.snapshotNobodyRow.maps == (Tryz.f3.params.toList ++ Rows.snapshotNobodySpec.plain.varTypes Tryz.prog).any (Tryz.prog.mapsRec ·))) = true := by kernel_rfl
theorem fact14 : ((Rows.snapshotNobodyRow.ifaces == (Tryz.f3.params.toList ++ Rows.snapshotNobodySpec.plain.varTypes Tryz.prog).any (Tryz.prog.ifacesRec ·))) = true := by kernel_rfl
theorem fact15 : ((Rows.snapshotNobodyRow.mapsOut == Tryz.prog.mapsAmong Tryz.f3.resultTypes.toList)) = true := by kernel_rfl
end Go.Proofs.YtpafbjghlgjfcaaGreatDoor.snapshotNobody
