/-
  What a data property answers to property's small questions. No condition.
-/
import Derived.Test.YthdccijielekcaaGreatDoorNoPlain
import Derived.Test.YthdccijielekcaaGreatDoorHeapMay
import Derived.Deep.Cut
namespace Go.Proofs.YthdccijielekcaaGreatDoor
open Go.RowKit

theorem has57_1 (c1 c2 c3 c4 c5 c6 c7 c8 c9 c10 c11 c12 c13 c14 c15 c16 c17 c18 : Value) (w : World) : Calls Tryz.prog 119 #[.agg #[.int .i64 57, c1, c2, c3, c4, c5, c6, c7, c8, c9, c10, c11, c12, c13, c14, c15, c16, c17, c18], .int .i64 1] w fun e w' => e = .returned (.bool true) ∧ Below w.heap.size w w' := by
  go_enter Tryz.func119, Tryz.ntmps119
  go_wp2_with fail
  go_ret
  exact ⟨rfl, by go_grown⟩
theorem has57_2 (c1 c2 c3 c4 c5 c6 c7 c8 c9 c10 c11 c12 c13 c14 c15 c16 c17 c18 : Value) (w : World) : Calls Tryz.prog 119 #[.agg #[.int .i64 57, c1, c2, c3, c4, c5, c6, c7, c8, c9, c10, c11, c12, c13, c14, c15, c16, c17, c18], .int .i64 2] w fun e w' => e = .returned (.bool false) ∧ Below w.heap.size w w' := by
  go_enter Tryz.func119, Tryz.ntmps119
  go_wp2_with fail
  go_ret
  exact ⟨rfl, by go_grown⟩
theorem has57_4 (c1 c2 c3 c4 c5 c6 c7 c8 c9 c10 c11 c12 c13 c14 c15 c16 c17 c18 : Value) (w : World) : Calls Tryz.prog 119 #[.agg #[.int .i64 57, c1, c2, c3, c4, c5, c6, c7, c8, c9, c10, c11, c12, c13, c14, c15, c16, c17, c18], .int .i64 4] w fun e w' => e = .returned (.bool false) ∧ Below w.heap.size w w' := by
  go_enter Tryz.func119, Tryz.ntmps119
  go_wp2_with fail
  go_ret
  exact ⟨rfl, by go_grown⟩
theorem has57_8 (c1 c2 c3 c4 c5 c6 c7 c8 c9 c10 c11 c12 c13 c14 c15 c16 c17 c18 : Value) (w : World) : Calls Tryz.prog 119 #[.agg #[.int .i64 57, c1, c2, c3, c4, c5, c6, c7, c8, c9, c10, c11, c12, c13, c14, c15, c16, c17, c18], .int .i64 8] w fun e w' => e = .returned (.bool true) ∧ Below w.heap.size w w' := by
  go_enter Tryz.func119, Tryz.ntmps119
  go_wp2_with fail
  go_ret
  exact ⟨rfl, by go_grown⟩
theorem has57_16 (c1 c2 c3 c4 c5 c6 c7 c8 c9 c10 c11 c12 c13 c14 c15 c16 c17 c18 : Value) (w : World) : Calls Tryz.prog 119 #[.agg #[.int .i64 57, c1, c2, c3, c4, c5, c6, c7, c8, c9, c10, c11, c12, c13, c14, c15, c16, c17, c18], .int .i64 16] w fun e w' => e = .returned (.bool true) ∧ Below w.heap.size w w' := by
  go_enter Tryz.func119, Tryz.ntmps119
  go_wp2_with fail
  go_ret
  exact ⟨rfl, by go_grown⟩
theorem has57_32 (c1 c2 c3 c4 c5 c6 c7 c8 c9 c10 c11 c12 c13 c14 c15 c16 c17 c18 : Value) (w : World) : Calls Tryz.prog 119 #[.agg #[.int .i64 57, c1, c2, c3, c4, c5, c6, c7, c8, c9, c10, c11, c12, c13, c14, c15, c16, c17, c18], .int .i64 32] w fun e w' => e = .returned (.bool true) ∧ Below w.heap.size w w' := by
  go_enter Tryz.func119, Tryz.ntmps119
  go_wp2_with fail
  go_ret
  exact ⟨rfl, by go_grown⟩
theorem has57_6 (c1 c2 c3 c4 c5 c6 c7 c8 c9 c10 c11 c12 c13 c14 c15 c16 c17 c18 : Value) (w : World) : Calls Tryz.prog 119 #[.agg #[.int .i64 57, c1, c2, c3, c4, c5, c6, c7, c8, c9, c10, c11, c12, c13, c14, c15, c16, c17, c18], .int .i64 6] w fun e w' => e = .returned (.bool false) ∧ Below w.heap.size w w' := by
  go_enter Tryz.func119, Tryz.ntmps119
  go_wp2_with fail
  go_ret
  exact ⟨rfl, by go_grown⟩
theorem has57_9 (c1 c2 c3 c4 c5 c6 c7 c8 c9 c10 c11 c12 c13 c14 c15 c16 c17 c18 : Value) (w : World) : Calls Tryz.prog 119 #[.agg #[.int .i64 57, c1, c2, c3, c4, c5, c6, c7, c8, c9, c10, c11, c12, c13, c14, c15, c16, c17, c18], .int .i64 9] w fun e w' => e = .returned (.bool true) ∧ Below w.heap.size w w' := by
  go_enter Tryz.func119, Tryz.ntmps119
  go_wp2_with fail
  go_ret
  exact ⟨rfl, by go_grown⟩

theorem prop_zero0 (w : World) : Calls Tryz.prog 120 #[.agg #[.int .i64 0, .bool false, .float .f64 0, .string ⟨#[]⟩, .int .i64 0]] w fun e w' => e = .returned (.bool true) ∧ Below w.heap.size w w' := by
  go_enter Tryz.func120, Tryz.ntmps120
  go_wp2_with (go_at_call 114; refine (value_Check_zero _).mono ?_; rintro e w' ⟨rfl, k⟩)
  go_ret
  exact ⟨rfl, below_via k (by go_grown) (by simp)⟩
theorem prop_call0 (w : World) : Calls Tryz.prog 121 #[.agg #[.int .i64 0, .bool false, .float .f64 0, .string ⟨#[]⟩, .int .i64 0]] w fun e w' => e = .returned (.bool true) ∧ Below w.heap.size w w' := by
  go_enter Tryz.func121, Tryz.ntmps121
  go_upto_region 1 with (fail)
  refine wp_gen (fun W => Below w.heap.size w W ∧ HasB W w.heap.size #[.int .i64 0, .bool false, .float .f64 0, .string ⟨#[]⟩, .int .i64 0] 31) ?_ ?_
  · exact ⟨by go_grown, HasB.newAt rfl⟩
  rintro W ⟨hb, h1⟩
  obtain ⟨q0, q1, q2, q3, q4, qf⟩ := HasB.five h1
  have HB := Lib.hid hb
  clear h1 hb
  go_wp2_with (go_at_call 114; refine (value_Check_zero _).mono ?_; rintro e w' ⟨rfl, k⟩; have p0 := below_keep k q0)
  go_ret
  exact ⟨rfl, below_via k HB.out HB.out.size⟩
set_option maxHeartbeats 1000000 in
set_option maxRecDepth 100000 in
theorem prop_Accessor (c1 c2 c3 c4 c5 c6 c7 c8 c9 c10 c11 c12 c13 c14 c15 c16 c17 c18 : Value) (w : World) : Calls Tryz.prog 70 #[.agg #[.int .i64 57, c1, c2, c3, c4, c5, c6, c7, c8, c9, c10, c11, c12, c13, c14, c15, c16, c17, c18]] w fun e w' => e = .returned (.bool false) ∧ Below w.heap.size w w' := by
  go_enter Tryz.func70, Tryz.ntmps70
  go_upto_region 1 with (fail)
  refine wp_gen (fun W => Below w.heap.size w W ∧ HasB W w.heap.size #[.int .i64 57, c1, c2, c3, c4, c5, c6, c7, c8, c9, c10, c11, c12, c13, c14, c15, c16, c17, c18] 39) ?_ ?_
  · exact ⟨by go_grown, HasB.newAt rfl⟩
  rintro W ⟨hb, h1⟩
  have H1 := Lib.hid h1
  have HB := Lib.hid hb
  clear h1 hb
  go_wp2_with (first
    | ((with_reducible refine at_load 39 ?_); refine wpList_loadB H1.out _ rfl rfl rfl rfl rfl (by kernel_rfl) ?_)
    | (go_at_call 119; refine (has57_6 _ _ _ _ _ _ _ _ _ _ _ _ _ _ _ _ _ _  _).mono ?_; rintro e w' ⟨rfl, k⟩))
  go_ret
  exact ⟨rfl, below_via k HB.out HB.out.size⟩
set_option maxHeartbeats 1000000 in
set_option maxRecDepth 100000 in
theorem prop_Data (c1 c2 c3 c4 c5 c6 c7 c8 c9 c10 c11 c12 c13 c14 c15 c16 c17 c18 : Value) (w : World) : Calls Tryz.prog 122 #[.agg #[.int .i64 57, c1, c2, c3, c4, c5, c6, c7, c8, c9, c10, c11, c12, c13, c14, c15, c16, c17, c18]] w fun e w' => e = .returned (.bool true) ∧ Below w.heap.size w w' := by
  go_enter Tryz.func122, Tryz.ntmps122
  go_upto_region 1 with (fail)
  refine wp_gen (fun W => Below w.heap.size w W ∧ HasB W w.heap.size #[.int .i64 57, c1, c2, c3, c4, c5, c6, c7, c8, c9, c10, c11, c12, c13, c14, c15, c16, c17, c18] 39) ?_ ?_
  · exact ⟨by go_grown, HasB.newAt rfl⟩
  rintro W ⟨hb, h1⟩
  have H1 := Lib.hid h1
  have HB := Lib.hid hb
  clear h1 hb
  go_wp2_with (first
    | ((with_reducible refine at_load 39 ?_); refine wpList_loadB H1.out _ rfl rfl rfl rfl rfl (by kernel_rfl) ?_)
    | (go_at_call 119; refine (has57_9 _ _ _ _ _ _ _ _ _ _ _ _ _ _ _ _ _ _  _).mono ?_; rintro e w' ⟨rfl, k⟩))
  go_ret
  exact ⟨rfl, below_via k HB.out HB.out.size⟩
end Go.Proofs.YthdccijielekcaaGreatDoor
