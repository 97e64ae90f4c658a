/-
  Contract of the reference's May of a number that is not +0, of May itself, and of Check. Condition: the value's text is one that Go can hold.
-/
import Derived.Test.YtpafbjghlgjfcaaGreatDoorMay
namespace Go.Proofs.YtpafbjghlgjfcaaGreatDoor
open Go.RowKit

attribute [local go_sem] run_Float64bits run_field_N
set_option maxRecDepth 100000 in
set_option maxHeartbeats 2000000 in
theorem May_3 (b : Bool) (n : Nat) (s : ByteArray) (o : Int) (w : World) (hn : n ≠ 0) (x : Bool) (hx : ((toldN n : Int) == (n : Int)) = x) :
    Calls Tryz.prog 32 #[val 3 b n s o] w fun e w' => e = .returned (.bool (mayB 3 b n s o)) ∧ Below w.heap.size w w' := by
  have hn' : ((n : Int) == 0) = false := by simp [hn]
  have HX : Hid ((toldN n = n) ↔ x = true) := by
    show _ ↔ _
    rw [← hx, beq_iff_eq]
    omega
  clear hn
  cases x <;> cases b <;> go_enter Tryz.func32, Tryz.ntmps32 <;> go_upto_region 2 with fail
  all_goals
    go_region_held3 (fun w' => w'.cell? ⟨w.heap.size, 0, none⟩ = some (.int .i64 3) ∧ w'.cell? ⟨w.heap.size, 2, none⟩ = some (.float .f64 n) ∧ w'.cell? ⟨w.heap.size, 3, none⟩ = some (.string s) ∧ w'.cell? ⟨w.heap.size, 4, none⟩ = some (.int .i64 o))
      (first | go_keep | (go_split_ands; refine ⟨?_, ?_, ?_, ?_⟩ <;> exact below_keep k' (by assumption))) (first | (go_at_call 58; refine (ref_Number_agg n _).mono ?_; rintro e w' ⟨rfl, k'⟩))
    obtain ⟨q0, q2, q3, q4⟩ := ‹_ ∧ _ ∧ _ ∧ _›
    have HB := Lib.hid (show Below w.heap.size w w' from below_via k' (by go_grown) (by simp))
    clear k'
    go_wp2
    all_goals go_ret
    all_goals refine ⟨?_, HB.out⟩
    all_goals refine ret_bool (mayB_iff ?_)
    all_goals (have hX := HX.out; clear q0 q2 q3 q4 HB hx)
    all_goals first | (simp_all [mayP]; done) | (simp_all [mayP]; omega)

theorem ref_May (k : Int) (b : Bool) (n : Nat) (s : ByteArray) (o : Int) (w : World) (hs : s.size ≤ maxLen) :
    Calls Tryz.prog 32 #[val k b n s o] w fun e w' => e = .returned (.bool (mayB k b n s o)) ∧ Below w.heap.size w w' := by
  by_cases hn : n = 0
  · subst hn; exact May_z k b s o w hs
  · by_cases hk : k = 3
    · subst hk; exact May_3 b n s o w hn _ rfl
    · exact May_nz k b n s o w hs hn hk

end Go.Proofs.YtpafbjghlgjfcaaGreatDoor
