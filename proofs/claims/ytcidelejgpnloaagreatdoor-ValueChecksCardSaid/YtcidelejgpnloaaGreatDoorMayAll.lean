/-
  Contract of the reference's May of a number that is not +0, of May itself, and of Check. Condition: the value's text is one that Go can hold.
-/
import Derived.Test.YtcidelejgpnloaaGreatDoorMay
namespace Go.Proofs.YtcidelejgpnloaaGreatDoor
open Go.RowKit

theorem run_field_N (k : Int) (b : Bool) (n : Nat) (s : ByteArray) (o : Int) (w : World) : (Instr.field 24 (.agg #[.int .i64 k, .bool b, .float .f64 n, .string s, .int .i64 o]) 2).run Tryz.prog w = .ok (.float .f64 n) w := by kernel_rfl
attribute [local go_sem] run_Float64bits run_field_N
theorem ref_Number_agg (n : Nat) (w : World) : Calls Tryz.prog 15 #[.float .f64 n] w fun e w' => e = .returned (.agg #[.int .i64 3, .bool false, .float .f64 (toldN n), .string ⟨#[]⟩, .int .i64 0]) ∧ Below w.heap.size w w' := ref_Number n w

set_option maxRecDepth 100000 in
set_option maxHeartbeats 2000000 in
theorem May_3 (b : Bool) (n : Nat) (s : ByteArray) (o : Int) (w : World) (hn : n ≠ 0) (x : Bool) (hx : ((toldN n : Int) == (n : Int)) = x) :
    Calls Tryz.prog 7 #[val 3 b n s o] w fun e w' => e = .returned (.bool (mayB 3 b n s o)) ∧ Below w.heap.size w w' := by
  have hn' : ((n : Int) == 0) = false := by simp [hn]
  have HX : Hid ((toldN n = n) ↔ x = true) := by
    show _ ↔ _
    rw [← hx, beq_iff_eq]
    omega
  clear hn
  cases x <;> cases b <;> go_enter Tryz.func7, Tryz.ntmps7 <;> go_upto_region 2 with fail
  all_goals
    go_region_held3 (fun w' => w'.cell? ⟨w.heap.size, 0, none⟩ = some (.int .i64 3) ∧ w'.cell? ⟨w.heap.size, 2, none⟩ = some (.float .f64 n) ∧ w'.cell? ⟨w.heap.size, 3, none⟩ = some (.string s) ∧ w'.cell? ⟨w.heap.size, 4, none⟩ = some (.int .i64 o))
      (first | go_keep | (go_split_ands; refine ⟨?_, ?_, ?_, ?_⟩ <;> exact below_keep k' (by assumption))) (first | (go_at_call 15; refine (ref_Number_agg n _).mono ?_; rintro e w' ⟨rfl, k'⟩))
    obtain ⟨q0, q2, q3, q4⟩ := ‹_ ∧ _ ∧ _ ∧ _›
    have HB := Lib.hid (show Below w.heap.size w w' from below_via k' (by go_grown) (by simp))
    clear k'
    go_wp2
    all_goals go_ret
    all_goals refine ⟨?_, HB.out⟩
    all_goals refine ret_bool (mayB_iff ?_)
    all_goals (have hX := HX.out; clear q0 q2 q3 q4 HB hx)
    all_goals first | (simp_all [mayP]; done) | (simp_all [mayP]; omega)

theorem ref_May (k : Int) (b : Bool) (n : Nat) (s : ByteArray) (o : Int) (w : World) (hs : s.size ≤ maxLen) :
    Calls Tryz.prog 7 #[val k b n s o] w fun e w' => e = .returned (.bool (mayB k b n s o)) ∧ Below w.heap.size w w' := by
  by_cases hn : n = 0
  · subst hn; exact May_z k b s o w hs
  · by_cases hk : k = 3
    · subst hk; exact May_3 b n s o w hn _ rfl
    · exact May_nz k b n s o w hs hn hk

open Classical in
theorem checkE_of (k : Int) (b : Bool) (n : Nat) (s : ByteArray) (o : Int) : checkE k b n s o = if mayB k b n s o = true then 0 else 1 := by
  unfold checkE mayB
  by_cases h : mayP k b n s o <;> simp [h]

theorem ref_Check (k : Int) (b : Bool) (n : Nat) (s : ByteArray) (o : Int) (w : World) (hs : s.size ≤ maxLen) :
    Calls Tryz.prog 21 #[val k b n s o] w fun e w' => e = .returned (.int .i64 (checkE k b n s o)) ∧ Below w.heap.size w w' := by
  have hM := fun w => ref_May k b n s o w hs
  have hE := checkE_of k b n s o
  cases hx : mayB k b n s o <;> rw [hx] at hE hM <;> have HE := Lib.hid hE <;> clear hE hx
  all_goals
    go_enter Tryz.func21, Tryz.ntmps21
    go_wp2_with fail
    refine (hM _).mono ?_
    rintro e w' ⟨rfl, k'⟩
    have HB := Lib.hid (show Below w.heap.size w w' from below_via k' (by go_grown) (by simp))
    clear k' hM
    go_wp2
    go_ret
    exact ⟨by rw [HE.out]; rfl, HB.out⟩
end Go.Proofs.YtcidelejgpnloaaGreatDoor
