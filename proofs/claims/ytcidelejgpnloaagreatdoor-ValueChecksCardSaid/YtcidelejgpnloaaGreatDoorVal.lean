/-
  Contracts of the makers of values (package value, and the reference's), and of the reference's Bits on one value: for every argument. No condition.
-/
import Derived.Test.YtcidelejgpnloaaGreatDoorRows
import Derived.Test.YtcidelejgpnloaaGreatDoorKit
import Derived.Lib.Hide
import Derived.Outline
namespace Go.Proofs.YtcidelejgpnloaaGreatDoor
open Go.RowKit

/-- A value of the language, as Go hands it. -/
abbrev val (k : Int) (b : Bool) (n : Nat) (s : ByteArray) (o : Int) : Value := .agg #[.int .i64 k, .bool b, .float .f64 n, .string s, .int .i64 o]

theorem run_Float64bits (b : Nat) (w : World) : (callFunc 27 #[.float .f64 b]).run Tryz.prog w = .ok (.value (.int .u64 b)) w := by
  rw [run_callFunc_extern Tryz.func27 (by kernel_rfl) (by kernel_rfl) (by kernel_rfl) (e := Extern.MathFloatBits.float64bits) (by kernel_rfl)]; rfl
/-- The NaN that is told. -/
def qnan : Nat := 9221120237041090560
theorem run_frombits_qnan (w : World) : (callFunc 48 #[.int .u64 9221120237041090560]).run Tryz.prog w = .ok (.value (.float .f64 qnan)) w := by
  rw [run_callFunc_extern Tryz.func48 (by kernel_rfl) (by kernel_rfl) (by kernel_rfl) (e := Extern.MathFloatBits.float64frombits) (by kernel_rfl)]; rfl
theorem run_Float64frombits (b : Nat) (w : World) : (callFunc 48 #[.int .u64 b]).run Tryz.prog w = .ok (.value (.float .f64 b)) w := by
  rw [run_callFunc_extern Tryz.func48 (by kernel_rfl) (by kernel_rfl) (by kernel_rfl) (e := Extern.MathFloatBits.float64frombits) (by kernel_rfl)]; rfl

theorem value_Bool (b : Bool) (w : World) : Calls Tryz.prog 12 #[.bool b] w fun e w' => e = .returned (val 2 b 0 ⟨#[]⟩ 0) ∧ Below w.heap.size w w' := by
  go_enter Tryz.func12, Tryz.ntmps12
  go_wp2
  go_returns
  exact ⟨rfl, by go_grown⟩
theorem ref_Bool (b : Bool) (w : World) : Calls Tryz.prog 13 #[.bool b] w fun e w' => e = .returned (val 2 b 0 ⟨#[]⟩ 0) ∧ Below w.heap.size w w' := by
  go_enter Tryz.func13, Tryz.ntmps13
  go_wp2
  go_returns
  exact ⟨rfl, by go_grown⟩

/-- Is a float's word a NaN's? -/
def nanB (n : Nat) : Bool := FloatKind.f64.format.order n n != some .eq
/-- A float as it is told: of the NaNs one alone. -/
def toldN (n : Nat) : Nat := if nanB n then qnan else n

theorem math_IsNaN (n : Nat) (w : World) : Calls Tryz.prog 26 #[.float .f64 n] w fun e w' => e = .returned (.bool (nanB n)) ∧ w = w' := by
  go_enter Tryz.func26, Tryz.ntmps26
  go_wp2
  go_returns
  exact ⟨rfl, rfl⟩

attribute [local go_sem] run_Float64bits run_frombits_qnan
theorem value_told (n : Nat) (w : World) : Calls Tryz.prog 34 #[.float .f64 n] w fun e w' => e = .returned (.float .f64 (toldN n)) ∧ w = w' := by
  have h := math_IsNaN n
  cases hn : nanB n with
  | true =>
    have ht : toldN n = qnan := by simp [toldN, hn]
    have HT := Lib.hid ht
    rw [hn] at h
    clear ht hn
    go_enter Tryz.func34, Tryz.ntmps34
    go_wp2_with fail
    refine (h _).mono ?_
    rintro e w' ⟨rfl, rfl⟩
    clear h
    go_wp2
    go_ret
    exact ⟨by rw [HT.out]; rfl, rfl⟩
  | false =>
    have ht : toldN n = n := by simp [toldN, hn]
    have HT := Lib.hid ht
    rw [hn] at h
    clear ht hn
    go_enter Tryz.func34, Tryz.ntmps34
    go_wp2_with fail
    refine (h _).mono ?_
    rintro e w' ⟨rfl, rfl⟩
    clear h
    go_wp2
    go_ret
    exact ⟨by rw [HT.out]; rfl, rfl⟩

theorem value_Number (n : Nat) (w : World) : Calls Tryz.prog 14 #[.float .f64 n] w fun e w' => e = .returned (val 3 false (toldN n) ⟨#[]⟩ 0) ∧ Below w.heap.size w w' := by
  go_enter Tryz.func14, Tryz.ntmps14
  go_wp2_with (go_at_call 34; refine (value_told n _).mono ?_; rintro e w' ⟨rfl, rfl⟩)
  go_returns
  exact ⟨rfl, by go_grown⟩

theorem value_String (s : ByteArray) (w : World) (hs : s.size ≤ maxLen) : Calls Tryz.prog 16 #[.string s] w fun e w' => e = .returned (val 4 false 0 (s.extract 0 (s.size / 2 * 2)) 0) ∧ Below w.heap.size w w' := by
  unfold maxLen at hs
  have ha := i64_andNot1 s.size (by omega)
  have hb : s.size / 2 * 2 ≤ s.size := by omega
  go_enter Tryz.func16, Tryz.ntmps16
  go_wp2
  go_returns
  exact ⟨rfl, by go_grown⟩

theorem max_int {o : Int} : (max o 0 = o ∧ 0 ≤ o) ∨ (max o 0 = 0 ∧ o < 0) := by omega
theorem value_Object (o : Int) (w : World) : Calls Tryz.prog 18 #[.int .i64 o] w fun e w' => e = .returned (val 5 false 0 ⟨#[]⟩ (max o 0)) ∧ Below w.heap.size w w' := by
  rcases max_int (o := o) with ⟨h, h0⟩ | ⟨h, h0⟩ <;> rw [h] <;> clear h
  all_goals
    go_enter Tryz.func18, Tryz.ntmps18
    go_wp2
    go_returns
    exact ⟨rfl, by go_grown⟩

/-! The reference's. -/
theorem ref_Object (o : Int) (w : World) : Calls Tryz.prog 19 #[.int .i64 o] w fun e w' => e = .returned (val 5 false 0 ⟨#[]⟩ (max o 0)) ∧ Below w.heap.size w w' := by
  rcases max_int (o := o) with ⟨h, h0⟩ | ⟨h, h0⟩ <;> rw [h] <;> clear h
  all_goals
    go_enter Tryz.func19, Tryz.ntmps19
    go_wp2
    go_returns
    exact ⟨rfl, by go_grown⟩
theorem ref_String (s : ByteArray) (w : World) (hs : s.size ≤ maxLen) : Calls Tryz.prog 17 #[.string s] w fun e w' => e = .returned (val 4 false 0 (s.extract 0 (s.size / 2 * 2)) 0) ∧ Below w.heap.size w w' := by
  unfold maxLen at hs
  have hb : (s.size : Int) - (s.size : Int) % 2 = ((s.size / 2 * 2 : Nat) : Int) := by omega
  have hc : s.size / 2 * 2 ≤ s.size := by omega
  go_enter Tryz.func17, Tryz.ntmps17
  go_wp2

  go_returns
  exact ⟨rfl, by go_grown⟩
theorem ref_NaN (w : World) : Calls Tryz.prog 35 #[] w fun e w' => e = .returned (.float .f64 qnan) ∧ w = w' := by
  go_enter Tryz.func35, Tryz.ntmps35
  go_wp2
  go_ret
  exact ⟨rfl, rfl⟩
theorem ref_Number (n : Nat) (w : World) : Calls Tryz.prog 15 #[.float .f64 n] w fun e w' => e = .returned (val 3 false (toldN n) ⟨#[]⟩ 0) ∧ Below w.heap.size w w' := by
  have h := math_IsNaN n
  cases hn : nanB n with
  | true =>
    have ht : toldN n = qnan := by simp [toldN, hn]
    have HT := Lib.hid ht
    rw [hn] at h
    clear ht hn
    go_enter Tryz.func15, Tryz.ntmps15
    go_wp2_with fail
    refine (h _).mono ?_
    rintro e w' ⟨rfl, rfl⟩
    clear h
    go_wp2_with (go_at_call 35; refine (ref_NaN _).mono ?_; rintro e w' ⟨rfl, rfl⟩)
    go_returns
    exact ⟨by rw [HT.out], by go_grown⟩
  | false =>
    have ht : toldN n = n := by simp [toldN, hn]
    have HT := Lib.hid ht
    rw [hn] at h
    clear ht hn
    go_enter Tryz.func15, Tryz.ntmps15
    go_wp2_with fail
    refine (h _).mono ?_
    rintro e w' ⟨rfl, rfl⟩
    clear h
    go_wp2
    go_returns
    exact ⟨by rw [HT.out], by go_grown⟩
end Go.Proofs.YtcidelejgpnloaaGreatDoor
