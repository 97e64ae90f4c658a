/-
  A heap that nobody made: Own, Property, Keys. Condition: the heap is such a one.
-/
import Derived.Test.YthdccijielekcaaGreatDoorNoHeap
namespace Go.Proofs.YthdccijielekcaaGreatDoor
open Go.RowKit
variable {w : World} {p : Option Addr}

theorem no_Keys (o : Int) (h : NoHeap w p) : Calls Tryz.prog 27 #[.pointer p, .int .i64 o] w fun e w' => e = .returned (.slice none 0 0) ∧ Below w.heap.size w w' := by
  have HI := fun w h => @no_there w p o h
  have hmm := @run_makeMap Tryz.prog
  go_enter Tryz.func27, Tryz.ntmps27
  go_wp2_with fail
  refine wp_loop_rounds 1 ?_
  rw [rounds_succ]
  go_wp2_with (go_at_call 56; refine (HI _ (h.alloc _)).mono ?_; rintro e w' ⟨rfl, rfl⟩)
  go_ret
  exact ⟨rfl, by go_grown⟩
end Go.Proofs.YthdccijielekcaaGreatDoor
