/-
  Contracts of a made machine's small questions: is it made, is it done, its heap; the end of all, and a value told. Condition: the machine's own cells are as said.
-/
import Derived.Test.YtpafbjghlgjfcaaGreatDoorMachNew
namespace Go.Proofs.YtpafbjghlgjfcaaGreatDoor
open Go.RowKit

variable {m : Nat} {f c ch d left : Int} {over : Bool} {heap : Nat} {envs codes natives body known draws : Value} {drawn calls : Int} {w : World}

theorem Machine_is (H : MachAt w m f c ch d left over heap envs codes natives body known draws drawn calls) :
    Calls Tryz.prog 18 #[.pointer (some ⟨m, 0, none⟩)] w fun e w' => e = .returned (.bool true) ∧ w = w' := by
  have q6 : w.cell? ⟨m, 6, none⟩ = some (.pointer (some ⟨heap, 0, none⟩)) := HasB.cell H 6
  clear H
  go_enter Tryz.func18, Tryz.ntmps18
  go_wp2
  go_ret
  exact ⟨rfl, rfl⟩
theorem Machine_Heap (H : MachAt w m f c ch d left over heap envs codes natives body known draws drawn calls) :
    Calls Tryz.prog 7 #[.pointer (some ⟨m, 0, none⟩)] w fun e w' => e = .returned (.pointer (some ⟨heap, 0, none⟩)) ∧ w = w' := by
  have HI := Machine_is H
  have q6 : w.cell? ⟨m, 6, none⟩ = some (.pointer (some ⟨heap, 0, none⟩)) := HasB.cell H 6
  clear H
  go_enter Tryz.func7, Tryz.ntmps7
  go_wp2_with (go_at_call 18; refine HI.mono ?_; rintro e w' ⟨rfl, rfl⟩)
  go_ret
  exact ⟨rfl, rfl⟩
theorem Machine_done (H : MachAt w m f c ch d left over heap envs codes natives body known draws drawn calls) :
    Calls Tryz.prog 38 #[.pointer (some ⟨m, 0, none⟩)] w fun e w' => e = .returned (.bool over) ∧ w = w' := by
  have HI := Machine_is H
  have q5 : w.cell? ⟨m, 5, none⟩ = some (.bool over) := HasB.cell H 5
  clear H
  go_enter Tryz.func38, Tryz.ntmps38
  go_wp2_with (go_at_call 18; refine HI.mono ?_; rintro e w' ⟨rfl, rfl⟩)
  go_ret
  exact ⟨rfl, rfl⟩
end Go.Proofs.YtpafbjghlgjfcaaGreatDoor
