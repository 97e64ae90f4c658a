/-
  The length's number of nought and of what it is turned into; the key of lengths. No condition.
-/
import Derived.Test.YthdccijielekcaaGreatDoorNoIndex
import Derived.Test.YthdccijielekcaaGreatDoorWide
import Derived.Deep.Cut
namespace Go.Proofs.YthdccijielekcaaGreatDoor
open Go.RowKit
theorem frombits_at (n : Nat) (w : World) : (callFunc 157 #[.int .u64 (n : Int)]).run Tryz.prog w = .ok (.value (.float .f64 n)) w := run_Float64frombits n w
theorem frombits_0 (w : World) : (callFunc 157 #[.int .u64 0]).run Tryz.prog w = .ok (.value (.float .f64 0)) w := frombits_at 0 w
theorem frombits_B (w : World) : (callFunc 157 #[.int .u64 4751297606875873280]).run Tryz.prog w = .ok (.value (.float .f64 4751297606875873280)) w := frombits_at 4751297606875873280 w
theorem frombits_H (w : World) : (callFunc 157 #[.int .u64 4602678819172646912]).run Tryz.prog w = .ok (.value (.float .f64 4602678819172646912)) w := frombits_at 4602678819172646912 w
theorem run_archTrunc_0 (w : World) : (callFunc 198 #[.float .f64 0]).run Tryz.prog w = .ok (.value (.float .f64 0)) w := by
  rw [run_callFunc_extern Tryz.func198 (by kernel_rfl) (by kernel_rfl) (by kernel_rfl) (e := Extern.MathFloor.toIntegral "math.archTrunc" .zero) (by kernel_rfl)]; rfl
theorem conv_f0 (w : World) : (convert 29 118 (.float .f64 0)).run Tryz.prog w = .ok (.int .u32 0) w := by kernel_rfl
theorem bits1 : bits .andNot .u64 0 9223372036854775808 = 0 := by kernel_rfl
theorem bits2 : bits .andNot .u64 4751297606875873280 9223372036854775808 = 4751297606875873280 := by kernel_rfl
theorem bits3 : bits .and .u64 0 9223372036854775808 = 0 := by kernel_rfl
theorem bits4 : bits .or .u64 0 0 = 0 := by kernel_rfl
theorem bits5 : bits .and .u64 1055 2047 = 1055 := by kernel_rfl
theorem bits6 : bits .andNot .u64 4751297606875873280 9218868437227405312 = 0 := by kernel_rfl
theorem bits7 : bits .or .u64 0 4602678819172646912 = 4602678819172646912 := by kernel_rfl
attribute [local go_sem] run_archTrunc_0 conv_f0 run_Float64bits frombits_0 frombits_B frombits_H bits1 bits2 bits3 bits4 bits5 bits6 bits7

theorem Heap_length (w : World) : Calls Tryz.prog 59 #[] w fun e w' => e = .returned (.string lenW) ∧ Below w.heap.size w w' := by
  go_enter Tryz.func59, Tryz.ntmps59
  go_wp2_with (go_at_call 90; refine (ustr_Wide ⟨#[108, 101, 110, 103, 116, 104]⟩ _ (by decide)).mono ?_; rintro e w' ⟨rfl, k⟩)
  go_ret
  exact ⟨rfl, k⟩
theorem nan0 : nanB 0 = false := by kernel_rfl
theorem nanBB : nanB 4751297606875873280 = false := by kernel_rfl
theorem math_IsNaN_0 (w : World) : Calls Tryz.prog 102 #[.float .f64 0] w fun e w' => e = .returned (.bool false) ∧ w = w' := by
  have h := math_IsNaN 0 w
  rw [nan0] at h
  exact h
theorem math_IsNaN_B (w : World) : Calls Tryz.prog 102 #[.float .f64 4751297606875873280] w fun e w' => e = .returned (.bool false) ∧ w = w' := by
  have h := math_IsNaN 4751297606875873280 w
  rw [nanBB] at h
  exact h
set_option maxRecDepth 100000 in
theorem math_Abs_0 (w : World) : Calls Tryz.prog 195 #[.float .f64 0] w fun e w' => e = .returned (.float .f64 0) ∧ w = w' := by
  go_enter Tryz.func195, Tryz.ntmps195
  go_wp2
  go_ret
  exact ⟨rfl, rfl⟩
set_option maxRecDepth 100000 in
theorem math_Abs_B (w : World) : Calls Tryz.prog 195 #[.float .f64 4751297606875873280] w fun e w' => e = .returned (.float .f64 4751297606875873280) ∧ w = w' := by
  go_enter Tryz.func195, Tryz.ntmps195
  go_wp2
  go_ret
  exact ⟨rfl, rfl⟩
set_option maxRecDepth 100000 in
theorem math_Copysign_0 (w : World) : Calls Tryz.prog 236 #[.float .f64 0, .float .f64 0] w fun e w' => e = .returned (.float .f64 0) ∧ w = w' := by
  go_enter Tryz.func236, Tryz.ntmps236
  go_wp2
  go_ret
  exact ⟨rfl, rfl⟩
set_option maxRecDepth 100000 in
theorem math_IsInf_0 (w : World) : Calls Tryz.prog 165 #[.float .f64 0, .int .i64 0] w fun e w' => e = .returned (.bool false) ∧ w = w' := by
  go_enter Tryz.func165, Tryz.ntmps165
  go_wp2_with (first | (go_at_call 195; (with_reducible refine (math_Abs_0 _).mono ?_); rintro e w' ⟨rfl, rfl⟩))
  go_ret
  exact ⟨rfl, rfl⟩
set_option maxRecDepth 100000 in
theorem math_IsInf_B (w : World) : Calls Tryz.prog 165 #[.float .f64 4751297606875873280, .int .i64 0] w fun e w' => e = .returned (.bool false) ∧ w = w' := by
  go_enter Tryz.func165, Tryz.ntmps165
  go_wp2_with (first | (go_at_call 195; (with_reducible refine (math_Abs_B _).mono ?_); rintro e w' ⟨rfl, rfl⟩))
  go_ret
  exact ⟨rfl, rfl⟩
set_option maxRecDepth 100000 in
theorem math_trunc_0 (w : World) : Calls Tryz.prog 199 #[.float .f64 0] w fun e w' => e = .returned (.float .f64 0) ∧ w = w' := by
  go_enter Tryz.func199, Tryz.ntmps199
  go_wp2_with (first | (go_at_call 195; (with_reducible refine (math_Abs_0 _).mono ?_); rintro e w' ⟨rfl, rfl⟩) | (go_at_call 236; (with_reducible refine (math_Copysign_0 _).mono ?_); rintro e w' ⟨rfl, rfl⟩))
  go_ret
  exact ⟨rfl, rfl⟩
set_option maxRecDepth 100000 in
theorem math_Trunc_0 (w : World) : Calls Tryz.prog 167 #[.float .f64 0] w fun e w' => e = .returned (.float .f64 0) ∧ w = w' := by
  go_enter Tryz.func167, Tryz.ntmps167
  go_wp2_with fail
  go_ret
  exact ⟨rfl, rfl⟩
set_option maxRecDepth 100000 in
theorem math_normalize_B (w : World) : Calls Tryz.prog 311 #[.float .f64 4751297606875873280] w fun e w' => e = .returned (.tuple #[.float .f64 4751297606875873280, .int .i64 0]) ∧ w = w' := by
  go_enter Tryz.func311, Tryz.ntmps311
  go_wp2_with (first | (go_at_call 195; (with_reducible refine (math_Abs_B _).mono ?_); rintro e w' ⟨rfl, rfl⟩))
  go_returns
  exact ⟨rfl, rfl⟩
set_option maxRecDepth 100000 in
theorem math_frexp_B (w : World) : Calls Tryz.prog 275 #[.float .f64 4751297606875873280] w fun e w' => e = .returned (.tuple #[.float .f64 4602678819172646912, .int .i64 33]) ∧ w = w' := by
  go_enter Tryz.func275, Tryz.ntmps275
  go_wp2_with (first | (go_at_call 165; (with_reducible refine (math_IsInf_B _).mono ?_); rintro e w' ⟨rfl, rfl⟩) | (go_at_call 102; (with_reducible refine (math_IsNaN_B _).mono ?_); rintro e w' ⟨rfl, rfl⟩) | (go_at_call 311; (with_reducible refine (math_normalize_B _).mono ?_); rintro e w' ⟨rfl, rfl⟩))
  go_returns
  exact ⟨rfl, rfl⟩
set_option maxRecDepth 100000 in
theorem math_Frexp_B (w : World) : Calls Tryz.prog 234 #[.float .f64 4751297606875873280] w fun e w' => e = .returned (.tuple #[.float .f64 4602678819172646912, .int .i64 33]) ∧ w = w' := by
  go_enter Tryz.func234, Tryz.ntmps234
  go_wp2_with (first | (go_at_call 275; (with_reducible refine (math_frexp_B _).mono ?_); rintro e w' ⟨rfl, rfl⟩))
  go_returns
  exact ⟨rfl, rfl⟩
set_option maxRecDepth 100000 in
theorem math_mod_0 (w : World) : Calls Tryz.prog 197 #[.float .f64 0, .float .f64 4751297606875873280] w fun e w' => e = .returned (.float .f64 0) ∧ w = w' := by
  go_enter Tryz.func197, Tryz.ntmps197
  go_wp2_with (first | (go_at_call 165; (with_reducible refine (math_IsInf_0 _).mono ?_); rintro e w' ⟨rfl, rfl⟩) | (go_at_call 102; (with_reducible refine (math_IsNaN_0 _).mono ?_); rintro e w' ⟨rfl, rfl⟩) | (go_at_call 102; (with_reducible refine (math_IsNaN_B _).mono ?_); rintro e w' ⟨rfl, rfl⟩) | (go_at_call 195; (with_reducible refine (math_Abs_B _).mono ?_); rintro e w' ⟨rfl, rfl⟩) | (go_at_call 234; (with_reducible refine (math_Frexp_B _).mono ?_); rintro e w' ⟨rfl, rfl⟩))
  go_rounds 1
  go_ret
  exact ⟨rfl, rfl⟩
set_option maxRecDepth 100000 in
theorem math_Mod_0 (w : World) : Calls Tryz.prog 166 #[.float .f64 0, .float .f64 4751297606875873280] w fun e w' => e = .returned (.float .f64 0) ∧ w = w' := by
  go_enter Tryz.func166, Tryz.ntmps166
  go_wp2_with (first | (go_at_call 197; (with_reducible refine (math_mod_0 _).mono ?_); rintro e w' ⟨rfl, rfl⟩))
  go_ret
  exact ⟨rfl, rfl⟩
set_option maxRecDepth 100000 in
theorem number_Uint32_0 (w : World) : Calls Tryz.prog 126 #[.float .f64 0] w fun e w' => e = .returned (.int .u32 0) ∧ w = w' := by
  go_enter Tryz.func126, Tryz.ntmps126
  go_wp2_with (first | (go_at_call 102; (with_reducible refine (math_IsNaN_0 _).mono ?_); rintro e w' ⟨rfl, rfl⟩) | (go_at_call 165; (with_reducible refine (math_IsInf_0 _).mono ?_); rintro e w' ⟨rfl, rfl⟩) | (go_at_call 167; (with_reducible refine (math_Trunc_0 _).mono ?_); rintro e w' ⟨rfl, rfl⟩) | (go_at_call 166; (with_reducible refine (math_Mod_0 _).mono ?_); rintro e w' ⟨rfl, rfl⟩))
  go_ret
  exact ⟨rfl, rfl⟩
theorem heap_size0 (w : World) : Calls Tryz.prog 63 #[.agg #[.int .i64 3, .bool false, .float .f64 0, .string ⟨#[]⟩, .int .i64 0]] w fun e w' => e = .returned (.int .i64 0) ∧ Below w.heap.size w w' := by
  go_enter Tryz.func63, Tryz.ntmps63
  go_wp2_with (go_at_call 126; (with_reducible refine (number_Uint32_0 _).mono ?_); rintro e w' ⟨rfl, rfl⟩)
  go_ret
  exact ⟨rfl, by go_grown⟩
end Go.Proofs.YthdccijielekcaaGreatDoor
