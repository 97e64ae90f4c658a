/-
  quilllaw14.Text: a text of an even number of bytes. Condition: the text is one that Go can hold.
-/
import Derived.Test.YtngodcoefmihlaaGreatDoorBase
namespace Go.Proofs.YtngodcoefmihlaaGreatDoor
open Go.RowKit

theorem law14_Text (s : ByteArray) (w : World) (hs : s.size ≤ maxLen) : Calls Tryz.prog 35 #[.string s] w fun e w' => e = .returned (.string (s.extract 0 (s.size / 2 * 2))) ∧ w = w' := by
  unfold maxLen at hs
  go_enter Tryz.func35, Tryz.ntmps35
  go_wp2
  go_ret
  exact ⟨rfl, rfl⟩
end Go.Proofs.YtngodcoefmihlaaGreatDoor
