/-
  The walk of quilllaw11.ValueMakes: whatever truth, number and text are handed in, it answers true. Condition: the text is one that Go can hold.
-/
import Derived.Test.YtcidelejgpnloaaGreatDoorBits
import Derived.Test.YtcidelejgpnloaaGreatDoorAwake11
namespace Go.Proofs.YtcidelejgpnloaaGreatDoor
open Go.RowKit

set_option maxRecDepth 100000 in
set_option maxHeartbeats 1000000 in
theorem law_ValueMakes (b : Bool) (x : Nat) (s : ByteArray) (w : World) (hs : s.size ≤ maxLen) :
    Calls Tryz.prog 4 #[.bool b, .float .f64 x, .string s] w fun e w' => e = .returned (.bool true) ∧ Below w.heap.size w w' := by
  have hs' : s.size ≤ 9223372036854775807 := by unfold maxLen at hs; exact hs
  go_enter Tryz.func4, Tryz.ntmps4
  go_wp2_with fail
  refine (value_Bool b _).mono ?_
  rintro e w1 ⟨rfl, hb⟩
  go_wp2_with fail
  refine (ref_Bool b _).mono ?_
  rintro e w2 ⟨rfl, k⟩
  replace hb := below_step hb k; clear k
  go_wp2_with fail
  refine (ref_Bits_self _ _ _ _ _ _).mono ?_
  rintro e w3 ⟨rfl, k⟩
  replace hb := below_step hb k; clear k
  go_wp2_with fail
  refine (value_Number x _).mono ?_
  rintro e w4 ⟨rfl, k⟩
  replace hb := below_step hb k; clear k
  go_wp2_with fail
  refine (ref_Number x _).mono ?_
  rintro e w5 ⟨rfl, k⟩
  replace hb := below_step hb k; clear k
  go_wp2_with fail
  refine (ref_Bits_self _ _ _ _ _ _).mono ?_
  rintro e w6 ⟨rfl, k⟩
  replace hb := below_step hb k; clear k
  go_wp2_with fail
  refine (value_String s _ hs).mono ?_
  rintro e w7 ⟨rfl, k⟩
  replace hb := below_step hb k; clear k
  go_wp2_with fail
  refine (ref_String s _ hs).mono ?_
  rintro e w8 ⟨rfl, k⟩
  replace hb := below_step hb k; clear k
  go_wp2_with fail
  refine (ref_Bits_self _ _ _ _ _ _).mono ?_
  rintro e w9 ⟨rfl, k⟩
  replace hb := below_step hb k; clear k
  go_wp2_with fail
  refine (value_Object _ _).mono ?_
  rintro e w10 ⟨rfl, k⟩
  replace hb := below_step hb k; clear k
  go_wp2_with fail
  refine (ref_Object _ _).mono ?_
  rintro e w11 ⟨rfl, k⟩
  replace hb := below_step hb k; clear k
  go_wp2_with fail
  refine (ref_Bits_self _ _ _ _ _ _).mono ?_
  rintro e w12 ⟨rfl, k⟩
  replace hb := below_step hb k; clear k
  go_wp2_with fail
  refine (awake11 _).mono ?_
  rintro e w13 ⟨rfl, k⟩
  replace hb := below_step hb k; clear k
  go_wp2
  go_ret
  exact ⟨rfl, hb⟩
end Go.Proofs.YtcidelejgpnloaaGreatDoor
