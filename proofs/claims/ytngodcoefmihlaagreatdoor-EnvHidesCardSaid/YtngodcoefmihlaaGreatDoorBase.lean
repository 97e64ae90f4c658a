/-
  A value of the language as Go hands it; floats' words; the reference's Number of one; when a value may be. Contracts for every argument, no condition.
-/
import Derived.Test.YtngodcoefmihlaaGreatDoorProg
import Derived.Test.YtngodcoefmihlaaGreatDoorKit
import Derived.Lib.Hide
import Derived.Outline
namespace Go.Proofs.YtngodcoefmihlaaGreatDoor
open Go.RowKit

/-- A value of the language, as Go hands it. -/
abbrev val (k : Int) (b : Bool) (n : Nat) (s : ByteArray) (o : Int) : Value := .agg #[.int .i64 k, .bool b, .float .f64 n, .string s, .int .i64 o]

theorem run_Float64bits (b : Nat) (w : World) : (callFunc 58 #[.float .f64 b]).run Tryz.prog w = .ok (.value (.int .u64 b)) w := by
  rw [run_callFunc_extern Tryz.func58 (by kernel_rfl) (by kernel_rfl) (by kernel_rfl) (e := Extern.MathFloatBits.float64bits) (by kernel_rfl)]; rfl
/-- The NaN that is told. -/
def qnan : Nat := 9221120237041090560
theorem run_frombits_qnan (w : World) : (callFunc 105 #[.int .u64 9221120237041090560]).run Tryz.prog w = .ok (.value (.float .f64 qnan)) w := by
  rw [run_callFunc_extern Tryz.func105 (by kernel_rfl) (by kernel_rfl) (by kernel_rfl) (e := Extern.MathFloatBits.float64frombits) (by kernel_rfl)]; rfl
theorem run_Float64frombits (b : Nat) (w : World) : (callFunc 105 #[.int .u64 b]).run Tryz.prog w = .ok (.value (.float .f64 b)) w := by
  rw [run_callFunc_extern Tryz.func105 (by kernel_rfl) (by kernel_rfl) (by kernel_rfl) (e := Extern.MathFloatBits.float64frombits) (by kernel_rfl)]; rfl

/-- Is a float's word a NaN's? -/
def nanB (n : Nat) : Bool := FloatKind.f64.format.order n n != some .eq
/-- A float as it is told: of the NaNs one alone. -/
def toldN (n : Nat) : Nat := if nanB n then qnan else n

theorem math_IsNaN (n : Nat) (w : World) : Calls Tryz.prog 63 #[.float .f64 n] w fun e w' => e = .returned (.bool (nanB n)) ∧ w = w' := by
  go_enter Tryz.func63, Tryz.ntmps63
  go_wp2
  go_returns
  exact ⟨rfl, rfl⟩

attribute [local go_sem] run_Float64bits run_frombits_qnan
theorem ref_NaN (w : World) : Calls Tryz.prog 64 #[] w fun e w' => e = .returned (.float .f64 qnan) ∧ w = w' := by
  go_enter Tryz.func64, Tryz.ntmps64
  go_wp2
  go_ret
  exact ⟨rfl, rfl⟩
theorem ref_Number (n : Nat) (w : World) : Calls Tryz.prog 15 #[.float .f64 n] w fun e w' => e = .returned (val 3 false (toldN n) ⟨#[]⟩ 0) ∧ Below w.heap.size w w' := by
  have h := math_IsNaN n
  cases hn : nanB n with
  | true =>
    have ht : toldN n = qnan := by simp [toldN, hn]
    have HT := Lib.hid ht
    rw [hn] at h
    clear ht hn
    go_enter Tryz.func15, Tryz.ntmps15
    go_wp2_with fail
    refine (h _).mono ?_
    rintro e w' ⟨rfl, rfl⟩
    clear h
    go_wp2_with (go_at_call 64; refine (ref_NaN _).mono ?_; rintro e w' ⟨rfl, rfl⟩)
    go_returns
    exact ⟨by rw [HT.out], by go_grown⟩
  | false =>
    have ht : toldN n = n := by simp [toldN, hn]
    have HT := Lib.hid ht
    rw [hn] at h
    clear ht hn
    go_enter Tryz.func15, Tryz.ntmps15
    go_wp2_with fail
    refine (h _).mono ?_
    rintro e w' ⟨rfl, rfl⟩
    clear h
    go_wp2
    go_returns
    exact ⟨by rw [HT.out], by go_grown⟩
theorem ref_Number_agg (n : Nat) (w : World) : Calls Tryz.prog 15 #[.float .f64 n] w fun e w' => e = .returned (.agg #[.int .i64 3, .bool false, .float .f64 (toldN n), .string ⟨#[]⟩, .int .i64 0]) ∧ Below w.heap.size w w' := ref_Number n w

theorem run_field_N (k : Int) (b : Bool) (n : Nat) (s : ByteArray) (o : Int) (w : World) : (Instr.field 35 (.agg #[.int .i64 k, .bool b, .float .f64 n, .string s, .int .i64 o]) 2).run Tryz.prog w = .ok (.float .f64 n) w := by kernel_rfl

/-- May a value be, that has these parts? -/
def mayP (k : Int) (b : Bool) (n : Nat) (s : ByteArray) (o : Int) : Prop :=
  0 ≤ k ∧ k ≤ 5 ∧ (b = true → k = 2) ∧ (n ≠ 0 → k = 3 ∧ toldN n = n) ∧ (s.toList ≠ [] → k = 4 ∧ s.size % 2 = 0) ∧ (o ≠ 0 → k = 5 ∧ 0 < o)
open Classical in
noncomputable def mayB (k : Int) (b : Bool) (n : Nat) (s : ByteArray) (o : Int) : Bool := decide (mayP k b n s o)
open Classical in
noncomputable def checkE (k : Int) (b : Bool) (n : Nat) (s : ByteArray) (o : Int) : Int := if mayP k b n s o then 0 else 1
theorem checkE_yes {k : Int} {b : Bool} {n : Nat} {s : ByteArray} {o : Int} (h : mayP k b n s o) : Ending.returned (.int .i64 0) = .returned (.int .i64 (checkE k b n s o)) := by unfold checkE; rw [if_pos h]
theorem checkE_no {k : Int} {b : Bool} {n : Nat} {s : ByteArray} {o : Int} (h : ¬ mayP k b n s o) : Ending.returned (.int .i64 1) = .returned (.int .i64 (checkE k b n s o)) := by unfold checkE; rw [if_neg h]
theorem toList_nil_size {s : ByteArray} (h : s.toList = []) : s.size = 0 := by
  have := (toList_nil_iff_emptyBytes s).1 h
  subst this
  rfl

theorem ret_bool {a b : Bool} (h : a = b) : Ending.returned (.bool a) = .returned (.bool b) := by rw [h]
theorem below_drawn {B : Nat} {a w : World} {n : Nat} (h : Below B a w) : Below B a (w.drewN n) := ⟨h.os, h.tape, h.output, h.size, h.block⟩
theorem mayB_yes {k : Int} {b : Bool} {n : Nat} {s : ByteArray} {o : Int} (h : mayP k b n s o) : mayB k b n s o = true := by unfold mayB; simp [h]
theorem mayB_no {k : Int} {b : Bool} {n : Nat} {s : ByteArray} {o : Int} (h : ¬ mayP k b n s o) : mayB k b n s o = false := by unfold mayB; simp [h]
theorem mayB_iff {k : Int} {b : Bool} {n : Nat} {s : ByteArray} {o : Int} {x : Bool} (h : x = true ↔ mayP k b n s o) : x = mayB k b n s o := by
  unfold mayB
  rw [Bool.eq_iff_iff, h]
  simp

end Go.Proofs.YtngodcoefmihlaaGreatDoor
