/-
  Closed facts of the row of SnapshotShows, part 1: the kernel reckons each. No condition.
-/
import Derived.Test.YtelgobelbeabaaaGreatDoorRows
import Derived.Test.YtelgobelbeabaaaGreatDoorCards
import Derived.JoinedOf
import Derived.ProofKit
import Derived.KernelRfl
namespace Go.Proofs.YtelgobelbeabaaaGreatDoor.snapshotShows
open Go.ChangeShapes Go.WideShapes Go.ChangeAt Go.RowKit
theorem fact0 : (Rows.snapshotShowsUptoRow.wf (OpenSpec.ofChange Rows.snapshotShowsSpec)) = true := by kernel_rfl
theorem fact1 : (laidOutB Tryz.prog) = true := by kernel_rfl
theorem fact2 : (mapsRowed Tryz.prog) = true := by kernel_rfl
theorem fact3 : (Tryz.f3.params.all (Tryz.prog.readableRec ·)) = true := by kernel_rfl
theorem fact4 : (namedTie Tryz.prog Rows.snapshotShowsUptoRow.named Rows.snapshotShowsSpec.vars) = true := by kernel_rfl
theorem fact5 : ((Rows.snapshotShowsUptoRow.stops == [])) = true := by kernel_rfl
theorem fact6 : ((Tryz.prog.stops == [])) = true := by kernel_rfl
theorem fact7 : ((Rows.snapshotShowsUptoRow.knobs == [])) = true := by kernel_rfl
theorem fact8 : ((Tryz.prog.stopKnobs == [])) = true := by kernel_rfl
theorem fact9 : ((Rows.snapshotShowsUptoRow.inPlace == Tryz.prog.inPlace 3)) = true := by kernel_rfl
theorem fact10 : ((Rows.snapshotShowsUptoRow.unfollowed == Tryz.prog.unfollowed 3)) = true := by kernel_rfl
theorem fact11 : ((Rows.snapshotShowsUptoRow.recurses == Tryz.prog.recurses 3)) = true := by kernel_rfl
theorem fact12 : ((Rows.snapshotShowsUptoRow.named == Tryz.prog.varsNamed 3)) = true := by kernel_rfl
theorem fact13 : ((Rows.snapshotShowsUptoRow.maps == (Tryz.f3.params.toList ++ Rows.snapshotShowsSpec.plain.varTypes Tryz.prog).any (Tryz.prog.mapsRec ·))) = true := by kernel_rfl
theorem fact14 : ((Rows.snapshotShowsUptoRow.ifaces == (Tryz.f3.params.toList ++ Rows.snapshotShowsSpec.plain.varTypes Tryz.prog).any (Tryz.prog.ifacesRec ·))) = true := by kernel_rfl
theorem fact15 : ((Rows.snapshotShowsUptoRow.mapsOut == Tryz.prog.mapsAmong Tryz.f3.resultTypes.toList)) = true := by kernel_rfl
end Go.Proofs.YtelgobelbeabaaaGreatDoor.snapshotShows
