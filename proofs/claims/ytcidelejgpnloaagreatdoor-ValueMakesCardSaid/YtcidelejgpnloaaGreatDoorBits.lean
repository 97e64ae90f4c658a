/-
  Contract of the reference's Bits, of one value held against itself: it answers true. For every value that Go can hold. No condition.
-/
import Derived.Test.YtcidelejgpnloaaGreatDoorVal
import Derived.Deep.RegionHeld3
namespace Go.Proofs.YtcidelejgpnloaaGreatDoor
open Go.RowKit

theorem ref_alike_self (k : Int) (b : Bool) (n m : Nat) (s : ByteArray) (o k' : Int) (w : World) : Calls Tryz.prog 33 #[val k b n s o, val k' b m s o] w fun e w' => e = .returned (.bool true) ∧ Below w.heap.size w w' := by
  go_enter Tryz.func33, Tryz.ntmps33
  go_wp2
  go_ret
  exact ⟨rfl, by go_grown⟩

attribute [local go_sem] run_Float64bits
theorem ref_Bits_self (k : Int) (b : Bool) (n : Nat) (s : ByteArray) (o : Int) (w : World) : Calls Tryz.prog 11 #[val k b n s o, val k b n s o] w fun e w' => e = .returned (.bool true) ∧ Below w.heap.size w w' := by
  go_enter Tryz.func11, Tryz.ntmps11
  go_wp2
  go_region_held3 (fun w' => w'.cell? ⟨w.heap.size, 0, none⟩ = some (.int .i64 k) ∧ w'.cell? ⟨w.heap.size + 1, 0, none⟩ = some (.int .i64 k) ∧ w'.cell? ⟨w.heap.size, 1, none⟩ = some (.bool b) ∧ w'.cell? ⟨w.heap.size + 1, 1, none⟩ = some (.bool b)
    ∧ w'.cell? ⟨w.heap.size, 2, none⟩ = some (.float .f64 n) ∧ w'.cell? ⟨w.heap.size + 1, 2, none⟩ = some (.float .f64 n) ∧ w'.cell? ⟨w.heap.size, 3, none⟩ = some (.string s) ∧ w'.cell? ⟨w.heap.size + 1, 3, none⟩ = some (.string s)
    ∧ w'.cell? ⟨w.heap.size, 4, none⟩ = some (.int .i64 o) ∧ w'.cell? ⟨w.heap.size + 1, 4, none⟩ = some (.int .i64 o))
    (first | go_keep | (go_split_ands; refine ⟨?_, ?_, ?_, ?_, ?_, ?_, ?_, ?_, ?_, ?_⟩ <;> exact below_keep hb1 (by assumption))) (first | (go_at_call 33; refine (ref_alike_self k b n n s o k _).mono ?_; rintro e w' ⟨rfl, hb1⟩))
  go_wp2
  go_ret
  exact ⟨rfl, below_via hb1 (by go_grown) (by simp; omega)⟩
end Go.Proofs.YtcidelejgpnloaaGreatDoor
