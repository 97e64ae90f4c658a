/-
  A machine that nobody made (nil, or all at nought): it has no heap, and of it nothing is told. No condition.
-/
import Derived.Test.YtpafbjghlgjfcaaGreatDoorBase
namespace Go.Proofs.YtpafbjghlgjfcaaGreatDoor
open Go.RowKit

theorem Machine_Heap_nil (w : World) : Calls Tryz.prog 7 #[.pointer none] w fun e w' => e = .returned (.pointer none) ∧ w = w' := by
  go_enter Tryz.func7, Tryz.ntmps7
  go_wp2
  go_ret
  exact ⟨rfl, rfl⟩
theorem Machine_Heap_at (g : Nat) (p : Option Addr) (w : World) (h : w.cell? ⟨g, 6, none⟩ = some (.pointer p)) : Calls Tryz.prog 7 #[.pointer (some ⟨g, 0, none⟩)] w fun e w' => e = .returned (.pointer p) ∧ w = w' := by
  cases p
  all_goals
    go_enter Tryz.func7, Tryz.ntmps7
    go_wp2
    go_ret
    exact ⟨rfl, rfl⟩

theorem snapshot_Of_nil (v : Value) (w : World) : Calls Tryz.prog 4 #[.pointer none, v] w fun e w' => e = .returned (.string ⟨#[]⟩) ∧ w = w' := by
  go_enter Tryz.func4, Tryz.ntmps4
  go_wp2_with (go_at_call 7; refine (Machine_Heap_nil _).mono ?_; rintro e w' ⟨rfl, rfl⟩)
  go_ret
  exact ⟨rfl, rfl⟩
theorem snapshot_Of_none (g : Nat) (v : Value) (w : World) (h : w.cell? ⟨g, 6, none⟩ = some (.pointer none)) : Calls Tryz.prog 4 #[.pointer (some ⟨g, 0, none⟩), v] w fun e w' => e = .returned (.string ⟨#[]⟩) ∧ w = w' := by
  go_enter Tryz.func4, Tryz.ntmps4
  go_wp2_with (go_at_call 7; refine (Machine_Heap_at g _ _ h).mono ?_; rintro e w' ⟨rfl, rfl⟩)
  go_ret
  exact ⟨rfl, rfl⟩
end Go.Proofs.YtpafbjghlgjfcaaGreatDoor
