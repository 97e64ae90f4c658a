/-
  Contracts of a made machine's small questions: is it made, is it done, its heap; the end of all, and a value told. Condition: the machine's own cells are as said.
-/
import Derived.Test.YtngodcoefmihlaaGreatDoorMachNew
namespace Go.Proofs.YtngodcoefmihlaaGreatDoor
open Go.RowKit

variable {m : Nat} {f c ch d left : Int} {over : Bool} {heap : Nat} {envs codes natives body known draws : Value} {drawn calls : Int} {w : World}

theorem Machine_is (H : MachAt w m f c ch d left over heap envs codes natives body known draws drawn calls) :
    Calls Tryz.prog 55 #[.pointer (some ⟨m, 0, none⟩)] w fun e w' => e = .returned (.bool true) ∧ w = w' := by
  have q6 : w.cell? ⟨m, 6, none⟩ = some (.pointer (some ⟨heap, 0, none⟩)) := HasB.cell H 6
  clear H
  go_enter Tryz.func55, Tryz.ntmps55
  go_wp2
  go_ret
  exact ⟨rfl, rfl⟩
theorem Machine_Heap (H : MachAt w m f c ch d left over heap envs codes natives body known draws drawn calls) :
    Calls Tryz.prog 100 #[.pointer (some ⟨m, 0, none⟩)] w fun e w' => e = .returned (.pointer (some ⟨heap, 0, none⟩)) ∧ w = w' := by
  have HI := Machine_is H
  have q6 : w.cell? ⟨m, 6, none⟩ = some (.pointer (some ⟨heap, 0, none⟩)) := HasB.cell H 6
  clear H
  go_enter Tryz.func100, Tryz.ntmps100
  go_wp2_with (go_at_call 55; refine HI.mono ?_; rintro e w' ⟨rfl, rfl⟩)
  go_ret
  exact ⟨rfl, rfl⟩
theorem Machine_done (H : MachAt w m f c ch d left over heap envs codes natives body known draws drawn calls) :
    Calls Tryz.prog 59 #[.pointer (some ⟨m, 0, none⟩)] w fun e w' => e = .returned (.bool over) ∧ w = w' := by
  have HI := Machine_is H
  have q5 : w.cell? ⟨m, 5, none⟩ = some (.bool over) := HasB.cell H 5
  clear H
  go_enter Tryz.func59, Tryz.ntmps59
  go_wp2_with (go_at_call 55; refine HI.mono ?_; rintro e w' ⟨rfl, rfl⟩)
  go_ret
  exact ⟨rfl, rfl⟩
end Go.Proofs.YtngodcoefmihlaaGreatDoor
