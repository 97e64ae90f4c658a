/-
  The walk of quilllaw11.ValueChecks: whatever value is handed in, it answers true. Condition: the value's text is one that Go can hold.
-/
import Derived.Test.YtcidelejgpnloaaGreatDoorMayAll
import Derived.Test.YtcidelejgpnloaaGreatDoorAwake11
namespace Go.Proofs.YtcidelejgpnloaaGreatDoor
open Go.RowKit

set_option maxRecDepth 100000 in
theorem law_ValueChecks (k : Int) (b : Bool) (n : Nat) (s : ByteArray) (o : Int) (w : World) (hs : s.size ≤ maxLen) :
    Calls Tryz.prog 5 #[val k b n s o] w fun e w' => e = .returned (.bool true) ∧ Below w.heap.size w w' := by
  have hs' := Lib.hid hs
  clear hs
  go_enter Tryz.func5, Tryz.ntmps5
  go_wp2_with fail
  go_region_held3 (fun w' => w'.cell? ⟨w.heap.size, 0, none⟩ = some (.int .i64 k) ∧ w'.cell? ⟨w.heap.size, 1, none⟩ = some (.bool b) ∧ w'.cell? ⟨w.heap.size, 2, none⟩ = some (.float .f64 n) ∧ w'.cell? ⟨w.heap.size, 3, none⟩ = some (.string s) ∧ w'.cell? ⟨w.heap.size, 4, none⟩ = some (.int .i64 o) ∧ Below w.heap.size w w' ∧ w.heap.size < w'.heap.size)
    (first | (refine ⟨?_, ?_, ?_, ?_, ?_, ?_, ?_⟩ <;> first | (simp [go_sem]; done) | (go_grown; done)) | (go_split_ands; refine ⟨?_, ?_, ?_, ?_, ?_, ?_, ?_⟩ <;> first | exact below_keep k' (by assumption) | exact below_via k' (by assumption) (by omega) | (have := k'.size; omega)))
    (first | (go_at_call 20; refine (value_Check k b n s o _ hs'.out).mono ?_; rintro e w' ⟨rfl, k'⟩)
           | (go_at_call 21; refine (ref_Check k b n s o _ hs'.out).mono ?_; rintro e w' ⟨rfl, k'⟩)
           | (go_at_call 8; refine (awake11 _).mono ?_; rintro e w' ⟨rfl, k'⟩))
  obtain ⟨_, _, _, _, _, HB, _⟩ := ‹_ ∧ _ ∧ _ ∧ _ ∧ _ ∧ _ ∧ _›
  go_wp2
  go_ret
  exact ⟨rfl, HB⟩
end Go.Proofs.YtcidelejgpnloaaGreatDoor
