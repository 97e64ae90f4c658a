/-
  The walk of quilllaw29.SnapshotNobody. Condition: CleanAll makes some list of the roots.
-/
import Derived.Test.YtpafbjghlgjfcaaGreatDoorAwake29
import Derived.Test.YtpafbjghlgjfcaaGreatDoorCleanAll
import Derived.Test.YtpafbjghlgjfcaaGreatDoorMachNil
namespace Go.Proofs.YtpafbjghlgjfcaaGreatDoor
open Go.RowKit

/-- Some list came back. -/
def AnyList (w : World) (e : Ending) (w' : World) : Prop := ∃ a n c, e = .returned (.slice a n c) ∧ Below w.heap.size w w'

theorem CleanAll_none (a : Option Addr) (c : Nat) (w : World) : Calls Tryz.prog 5 #[.slice a 0 c] w (AnyList w) := by
  go_enter Tryz.func5, Tryz.ntmps5
  go_wp2_with fail
  go_rounds 1
  go_ret
  exact ⟨_, _, _, rfl, by go_grown⟩

theorem law_false (v : Value) (w : World) (hC : ∀ w1, Below w.heap.size w w1 → Calls Tryz.prog 5 #[v] w1 (AnyList w1)) :
    Calls Tryz.prog 3 #[.bool false, v] w fun e w' => e = .returned (.bool true) ∧ Below w.heap.size w w' := by
  go_enter Tryz.func3, Tryz.ntmps3
  go_wp2_with fail
  refine (hC w (Below.refl _ w)).mono ?_
  rintro e w1 ⟨a, n, c, rfl, k⟩
  go_wp2_with (first
    | (go_at_call 4; refine (snapshot_Of_nil _ _).mono ?_; rintro e w' ⟨rfl, rfl⟩)
    | (go_at_call 6; refine (awake29 _).mono ?_; rintro e w2 ⟨rfl, k2⟩))
  go_ret
  exact ⟨rfl, below_via k2 k k.size⟩
theorem law_true (v : Value) (w : World) (hC : ∀ w1, Below w.heap.size w w1 → Calls Tryz.prog 5 #[v] w1 (AnyList w1)) :
    Calls Tryz.prog 3 #[.bool true, v] w fun e w' => e = .returned (.bool true) ∧ Below w.heap.size w w' := by
  go_enter Tryz.func3, Tryz.ntmps3
  go_wp2_with fail
  have h0 : Below w.heap.size w (w.alloc (.cells #[.int .i64 0, .int .i64 0, .int .i64 0, .int .i64 0, .int .i64 0, .bool false, .pointer none, .slice none 0 0, .slice none 0 0, .slice none 0 0, .nilFunc, .slice none 0 0, .slice none 0 0, .int .i64 0, .int .i64 0] 35)) := (Below.refl _ w).alloc (Nat.le_refl _) _
  have hz := HasB.new w #[.int .i64 0, .int .i64 0, .int .i64 0, .int .i64 0, .int .i64 0, .bool false, .pointer none, .slice none 0 0, .slice none 0 0, .slice none 0 0, .nilFunc, .slice none 0 0, .slice none 0 0, .int .i64 0, .int .i64 0] 35
  refine (hC _ h0).mono ?_
  rintro e w1 ⟨a, n, c, rfl, k⟩
  have h6 : w1.cell? ⟨w.heap.size, 6, none⟩ = some (.pointer none) := HasB.cell (HasB.below hz k) 6
  have hb1 : Below w.heap.size w w1 := below_via k h0 (by simp)
  clear k h0 hz hC
  go_wp2_with (first
    | (go_at_call 4; refine (snapshot_Of_none _ _ _ h6).mono ?_; rintro e w' ⟨rfl, rfl⟩)
    | (go_at_call 6; refine (awake29 _).mono ?_; rintro e w2 ⟨rfl, k2⟩))
  go_ret
  exact ⟨rfl, below_via k2 hb1 hb1.size⟩
end Go.Proofs.YtpafbjghlgjfcaaGreatDoor
