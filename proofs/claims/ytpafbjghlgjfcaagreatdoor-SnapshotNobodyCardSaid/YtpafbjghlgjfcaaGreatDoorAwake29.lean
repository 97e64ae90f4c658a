/-
  Contract of the law's own question (quilllaw29.awake): it answers yes. No condition.
-/
import Derived.Test.YtpafbjghlgjfcaaGreatDoorOf
namespace Go.Proofs.YtpafbjghlgjfcaaGreatDoor
open Go.RowKit

theorem told_is : (joined [⟨#[114, 111, 111, 116, 115]⟩, ⟨#[35, 48]⟩] ++ joined [⟨#[10]⟩] ++ told) = [114, 111, 111, 116, 115, 32, 35, 48, 10, 35, 48, 32, 79, 98, 106, 101, 99, 116, 32, 110, 117, 108, 108, 10] := by kernel_rfl

set_option maxRecDepth 100000 in
theorem awake29 (w : World) : Calls Tryz.prog 6 #[] w fun e w' => e = .returned (.bool true) ∧ Below w.heap.size w w' := by
  go_enter Tryz.func6, Tryz.ntmps6
  go_wp2_with fail
  refine (machine_New 0 9 0 0 w (by decide) (by decide) (by decide) (by decide) (by decide) (by decide) (by decide)).mono ?_
  rintro e w1 ⟨m, h, v, rfl, hM, hH, hown, hlh, hlm, hb⟩
  go_wp2_with fail
  refine (Machine_Alloc 1 0 9 0 hM hH (by omega) (.inl rfl) (by decide) (by decide) (by decide) (by decide)).mono ?_
  rintro e w2 ⟨rfl, hO, hB⟩
  have hM2 := hB.hasB hM (by omega)
  have hb2 : Below w.heap.size w w2 := But.below hB hb (by omega) hb.size
  have hs1 := hb.size
  have hs2 := hb2.size
  clear hM hH hown hb hB
  go_wp2_with fail
  refine (snapshot_Of_one (w2.heap.size + 1) ((w2.alloc (.cells #[.int .i64 0, .int .i64 0, .bool false, .float .f64 0, .string ⟨#[]⟩, .int .i64 0, .string ⟨#[]⟩] 71)).alloc (.cells #[.int .i64 5, .bool false, .float .f64 0, .string ⟨#[]⟩, .int .i64 0] 56)) (HasB.alloc (HasB.alloc hM2 _) _) (OneObj.below hO (((Below.refl _ w2).alloc (Nat.le_refl _) _).alloc (by simp) _)) (HasB.newAt (by simp))).mono ?_
  rintro e w3 ⟨rfl, k⟩
  have hb3 : Below w.heap.size w w3 := below_via k ((hb2.alloc hs2 _).alloc (by simp; omega) _) (by simp; omega)
  clear k
  rw [told_is]
  go_wp2_with fail
  go_ret
  exact ⟨rfl, hb3⟩
end Go.Proofs.YtpafbjghlgjfcaaGreatDoor
