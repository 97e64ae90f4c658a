/-
  Contracts of the makers of texts and numbers as values, and of a text's or a number's own text and number: for every argument that Go can hold.
-/
import Derived.Test.YthdccijielekcaaGreatDoorBase
namespace Go.Proofs.YthdccijielekcaaGreatDoor
open Go.RowKit

attribute [local go_sem] run_Float64bits run_frombits_qnan
theorem value_told (n : Nat) (w : World) : Calls Tryz.prog 129 #[.float .f64 n] w fun e w' => e = .returned (.float .f64 (toldN n)) ∧ w = w' := by
  have h := math_IsNaN n
  cases hn : nanB n with
  | true =>
    have ht : toldN n = qnan := by simp [toldN, hn]
    have HT := Lib.hid ht
    rw [hn] at h
    clear ht hn
    go_enter Tryz.func129, Tryz.ntmps129
    go_wp2_with fail
    refine (h _).mono ?_
    rintro e w' ⟨rfl, rfl⟩
    clear h
    go_wp2
    go_ret
    exact ⟨by rw [HT.out]; rfl, rfl⟩
  | false =>
    have ht : toldN n = n := by simp [toldN, hn]
    have HT := Lib.hid ht
    rw [hn] at h
    clear ht hn
    go_enter Tryz.func129, Tryz.ntmps129
    go_wp2_with fail
    refine (h _).mono ?_
    rintro e w' ⟨rfl, rfl⟩
    clear h
    go_wp2
    go_ret
    exact ⟨by rw [HT.out]; rfl, rfl⟩

theorem value_Number (n : Nat) (w : World) : Calls Tryz.prog 64 #[.float .f64 n] w fun e w' => e = .returned (val 3 false (toldN n) ⟨#[]⟩ 0) ∧ Below w.heap.size w w' := by
  go_enter Tryz.func64, Tryz.ntmps64
  go_wp2_with (go_at_call 129; refine (value_told n _).mono ?_; rintro e w' ⟨rfl, rfl⟩)
  go_returns
  exact ⟨rfl, by go_grown⟩

theorem value_String (s : ByteArray) (w : World) (hs : s.size ≤ maxLen) : Calls Tryz.prog 68 #[.string s] w fun e w' => e = .returned (val 4 false 0 (s.extract 0 (s.size / 2 * 2)) 0) ∧ Below w.heap.size w w' := by
  unfold maxLen at hs
  have ha := i64_andNot1 s.size (by omega)
  have hb : s.size / 2 * 2 ≤ s.size := by omega
  go_enter Tryz.func68, Tryz.ntmps68
  go_wp2
  go_returns
  exact ⟨rfl, by go_grown⟩

theorem ref_String (s : ByteArray) (w : World) (hs : s.size ≤ maxLen) : Calls Tryz.prog 10 #[.string s] w fun e w' => e = .returned (val 4 false 0 (s.extract 0 (s.size / 2 * 2)) 0) ∧ Below w.heap.size w w' := by
  unfold maxLen at hs
  have hb : (s.size : Int) - (s.size : Int) % 2 = ((s.size / 2 * 2 : Nat) : Int) := by omega
  have hc : s.size / 2 * 2 ≤ s.size := by omega
  go_enter Tryz.func10, Tryz.ntmps10
  go_wp2

  go_returns
  exact ⟨rfl, by go_grown⟩
theorem value_ToString_string (s : ByteArray) (w : World) : Calls Tryz.prog 143 #[val 4 false 0 s 0] w fun e w' => e = .returned (.tuple #[.string s, .int .i64 0]) ∧ Below w.heap.size w w' := by
  go_enter Tryz.func143, Tryz.ntmps143
  go_wp2
  go_returns
  exact ⟨rfl, by go_grown⟩

theorem value_ToNumber_number (n : Nat) (w : World) : Calls Tryz.prog 125 #[val 3 false n ⟨#[]⟩ 0] w fun e w' => e = .returned (.tuple #[.float .f64 (toldN n), .int .i64 0]) ∧ Below w.heap.size w w' := by
  go_enter Tryz.func125, Tryz.ntmps125
  go_wp2_with (go_at_call 129; refine (value_told n _).mono ?_; rintro e w' ⟨rfl, rfl⟩)
  go_returns
  exact ⟨rfl, by go_grown⟩
theorem ustr_Len (s : ByteArray) (w : World) (hs : s.size ≤ maxLen) : Calls Tryz.prog 66 #[.string s] w fun e w' => e = .returned (.int .i64 ((s.size / 2 : Nat) : Int)) ∧ w = w' := by
  unfold maxLen at hs
  go_enter Tryz.func66, Tryz.ntmps66
  go_wp2
  go_ret
  exact ⟨rfl, rfl⟩
theorem law14_Text (s : ByteArray) (w : World) (hs : s.size ≤ maxLen) : Calls Tryz.prog 7 #[.string s] w fun e w' => e = .returned (.string (s.extract 0 (s.size / 2 * 2))) ∧ w = w' := by
  unfold maxLen at hs
  go_enter Tryz.func7, Tryz.ntmps7
  go_wp2
  go_ret
  exact ⟨rfl, rfl⟩
end Go.Proofs.YthdccijielekcaaGreatDoor
