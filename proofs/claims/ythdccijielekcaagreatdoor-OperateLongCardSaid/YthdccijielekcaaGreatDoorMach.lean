/-
  Contracts of a made machine's small questions: is it made, is it done, its heap; the end of all, and a value told. Condition: the machine's own cells are as said.
-/
import Derived.Test.YthdccijielekcaaGreatDoorMachNew
namespace Go.Proofs.YthdccijielekcaaGreatDoor
open Go.RowKit

variable {m : Nat} {f c ch d left : Int} {over : Bool} {heap : Nat} {envs codes natives body known draws : Value} {drawn calls : Int} {w : World}

theorem Machine_is (H : MachAt w m f c ch d left over heap envs codes natives body known draws drawn calls) :
    Calls Tryz.prog 51 #[.pointer (some ⟨m, 0, none⟩)] w fun e w' => e = .returned (.bool true) ∧ w = w' := by
  have q6 : w.cell? ⟨m, 6, none⟩ = some (.pointer (some ⟨heap, 0, none⟩)) := HasB.cell H 6
  clear H
  go_enter Tryz.func51, Tryz.ntmps51
  go_wp2
  go_ret
  exact ⟨rfl, rfl⟩
theorem Machine_Heap (H : MachAt w m f c ch d left over heap envs codes natives body known draws drawn calls) :
    Calls Tryz.prog 103 #[.pointer (some ⟨m, 0, none⟩)] w fun e w' => e = .returned (.pointer (some ⟨heap, 0, none⟩)) ∧ w = w' := by
  have HI := Machine_is H
  have q6 : w.cell? ⟨m, 6, none⟩ = some (.pointer (some ⟨heap, 0, none⟩)) := HasB.cell H 6
  clear H
  go_enter Tryz.func103, Tryz.ntmps103
  go_wp2_with (go_at_call 51; refine HI.mono ?_; rintro e w' ⟨rfl, rfl⟩)
  go_ret
  exact ⟨rfl, rfl⟩
theorem Machine_done (H : MachAt w m f c ch d left over heap envs codes natives body known draws drawn calls) :
    Calls Tryz.prog 77 #[.pointer (some ⟨m, 0, none⟩)] w fun e w' => e = .returned (.bool over) ∧ w = w' := by
  have HI := Machine_is H
  have q5 : w.cell? ⟨m, 5, none⟩ = some (.bool over) := HasB.cell H 5
  clear H
  go_enter Tryz.func77, Tryz.ntmps77
  go_wp2_with (go_at_call 51; refine HI.mono ?_; rintro e w' ⟨rfl, rfl⟩)
  go_ret
  exact ⟨rfl, rfl⟩
end Go.Proofs.YthdccijielekcaaGreatDoor
