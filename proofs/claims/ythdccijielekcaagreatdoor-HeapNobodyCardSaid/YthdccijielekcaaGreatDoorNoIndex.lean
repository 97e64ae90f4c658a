/-
  Whether two small texts are an array's indexes. No condition.
-/
import Derived.Test.YthdccijielekcaaGreatDoorNoUnits
namespace Go.Proofs.YthdccijielekcaaGreatDoor
open Go.RowKit

theorem Index_len (w : World) : Calls Tryz.prog 61 #[.string lenW] w fun e w' => e = .returned (.tuple #[.int .u32 0, .bool false]) ∧ Below w.heap.size w w' := by
  go_enter Tryz.func61, Tryz.ntmps61
  go_wp2_with (go_at_call 128; refine (Units_len _).mono ?_; rintro e w' ⟨g, c, rfl, hc, hb⟩; have u0 := hc 0 _ rfl; clear hc)
  go_rounds 1
  go_returns
  exact ⟨rfl, hb⟩
theorem Index_four (w : World) : Calls Tryz.prog 61 #[.string fourW] w fun e w' => e = .returned (.tuple #[.int .u32 4, .bool true]) ∧ Below w.heap.size w w' := by
  go_enter Tryz.func61, Tryz.ntmps61
  go_wp2_with (go_at_call 128; refine (Units_four _).mono ?_; rintro e w' ⟨g, c, rfl, hc, hb⟩; have u0 := hc 0 _ rfl; clear hc)
  go_rounds 2
  go_returns
  exact ⟨rfl, hb⟩
end Go.Proofs.YthdccijielekcaaGreatDoor
