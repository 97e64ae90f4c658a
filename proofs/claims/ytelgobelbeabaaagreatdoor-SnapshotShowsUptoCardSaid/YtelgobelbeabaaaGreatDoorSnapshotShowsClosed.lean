/-
  The closed facts of the row of SnapshotShows, joined. No condition.
-/
import Derived.Test.YtelgobelbeabaaaGreatDoorSnapshotShowsFacts0
import Derived.Test.YtelgobelbeabaaaGreatDoorSnapshotShowsFacts1
namespace Go.Proofs.YtelgobelbeabaaaGreatDoor.snapshotShows
open Go.ChangeShapes Go.WideShapes Go.ChangeAt Go.RowKit
theorem and_t {a b : Bool} (ha : a = true) (hb : b = true) : (a && b) = true := by rw [ha, hb]; rfl
set_option maxRecDepth 100000 in
theorem closed : joinedFacts Tryz.prog 3 Tryz.f3 Rows.snapshotShowsSpec Rows.snapshotShowsUptoRow = true := by
  unfold joinedFacts
  exact (and_t (and_t (and_t (and_t (and_t (and_t (and_t (and_t (and_t (and_t (and_t (and_t (and_t (and_t (and_t (and_t (and_t (and_t (and_t (and_t (and_t (and_t (and_t (and_t (and_t (and_t (and_t (and_t (and_t (and_t (and_t fact0 fact1) fact2) fact3) fact4) fact5) fact6) fact7) fact8) fact9) fact10) fact11) fact12) fact13) fact14) fact15) fact16) fact17) fact18) fact19) fact20) fact21) fact22) fact23) fact24) fact25) fact26) fact27) fact28) fact29) fact30) fact31)
end Go.Proofs.YtelgobelbeabaaaGreatDoor.snapshotShows
