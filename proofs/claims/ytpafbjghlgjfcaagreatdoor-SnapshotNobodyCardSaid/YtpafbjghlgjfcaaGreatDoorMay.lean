/-
  Contract of the reference's May and Check: each tells whether a value may be, by the plain function of XCheck's text. Condition: the value's text is one that Go can hold.
-/
import Derived.Test.YtpafbjghlgjfcaaGreatDoorBase
import Derived.Deep.RegionHeld3
import Derived.Deep.DeepCutAuto
import Derived.Deep.QuietTactic
import Derived.BigQuiet
namespace Go.Proofs.YtpafbjghlgjfcaaGreatDoor
open Go.RowKit

attribute [local go_sem] run_Float64bits
set_option maxHeartbeats 2000000 in
theorem May_nz (k : Int) (b : Bool) (n : Nat) (s : ByteArray) (o : Int) (w : World) (hs : s.size ≤ maxLen) (hn : n ≠ 0) (hk : k ≠ 3) :
    Calls Tryz.prog 32 #[val k b n s o] w fun e w' => e = .returned (.bool (mayB k b n s o)) ∧ Below w.heap.size w w' := by
  unfold maxLen at hs
  have hno : ∀ b' s' o', mayB k b' n s' o' = false := fun _ _ _ => mayB_no fun h => hk (h.2.2.2.1 hn).1
  have HN := Lib.hid hno
  have hn' : ((n : Int) == 0) = false := by simp [hn]
  have hk' : (k == 3) = false := by simp [hk]
  clear hno hn hk
  cases b <;> go_enter Tryz.func32, Tryz.ntmps32 <;> go_upto_region 2 with fail
  all_goals
    go_quiet (fail)
    go_wp2
    all_goals go_ret
    all_goals exact ⟨by rw [HN.out _ _ _]; rfl, below_drawn (by go_grown)⟩
set_option maxHeartbeats 2000000 in
theorem May_z (k : Int) (b : Bool) (s : ByteArray) (o : Int) (w : World) (hs : s.size ≤ maxLen) :
    Calls Tryz.prog 32 #[val k b 0 s o] w fun e w' => e = .returned (.bool (mayB k b 0 s o)) ∧ Below w.heap.size w w' := by
  unfold maxLen at hs
  cases b <;> go_enter Tryz.func32, Tryz.ntmps32 <;> go_upto_region 2 with fail
  all_goals
    go_quiet (fail)
    go_wp2
    all_goals go_ret
    all_goals refine ⟨?_, below_drawn (by go_grown)⟩
    all_goals refine ret_bool (mayB_iff ?_)
    all_goals first | (simp_all [mayP]; done) | (simp_all [mayP]; omega)
end Go.Proofs.YtpafbjghlgjfcaaGreatDoor
