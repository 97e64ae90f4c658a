/-
  A heap that nobody made: Take. Condition: the heap is such a one.
-/
import Derived.Test.YthdccijielekcaaGreatDoorNoHeap
namespace Go.Proofs.YthdccijielekcaaGreatDoor
open Go.RowKit
variable {w : World} {p : Option Addr}

theorem no_Take (n : Int) (h : NoHeap w p) : Calls Tryz.prog 25 #[.pointer p, .int .i64 n] w fun e w' => e = .returned (.bool false) ∧ Below w.heap.size w w' := by
  have HI := fun w h => @no_is w p h
  have hb0 := Below.refl w.heap.size w
  have HB := Lib.hid h
  clear h
  go_enter Tryz.func25, Tryz.ntmps25
  go_wp2_with fail
  go_quiet ((go_at_call 53; exact Calls.quiet_of_same ((HI _ (HB.out.below (below_drawn hb0))).mono fun _ _ hh => ⟨hh.1, hh.2.symm⟩)))
  go_wp2_with fail
  all_goals go_ret
  all_goals exact ⟨rfl, below_drawn hb0⟩
end Go.Proofs.YthdccijielekcaaGreatDoor
