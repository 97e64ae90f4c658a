/-
  Contract of quilllaw14.Clean: it tells a value that may be, or undefined. Condition: the value's text is one that Go can hold.
-/
import Derived.Test.YtpafbjghlgjfcaaGreatDoorMayAll
namespace Go.Proofs.YtpafbjghlgjfcaaGreatDoor
open Go.RowKit

/-- Some value came back, nothing that was there turned. -/
def SomeVal (w : World) (e : Ending) (w' : World) : Prop := ∃ k b n s o, e = .returned (val k b n s o) ∧ s.size ≤ maxLen ∧ Below w.heap.size w w'

theorem law14_Clean_yes (k : Int) (b : Bool) (n : Nat) (s : ByteArray) (o : Int) (w : World) (hs : s.size ≤ maxLen) (hm : mayB k b n s o = true) :
    Calls Tryz.prog 15 #[val k b n s o] w fun e w' => e = .returned (val k b n s o) ∧ Below w.heap.size w w' := by
  have hM := fun w => ref_May k b n s o w hs
  rw [hm] at hM
  clear hm
  go_enter Tryz.func15, Tryz.ntmps15
  go_wp2_with fail
  refine (hM _).mono ?_
  rintro e w' ⟨rfl, k'⟩
  have B0 := ((HasB.new w _ _).alloc _).below k'
  have B1 := (HasB.new (w.alloc _) _ _).below k'
  have HB := Lib.hid (show Below w.heap.size w w' from below_via k' (by go_grown) (by simp; omega))
  have hz := k'.size
  simp at B1 hz
  obtain ⟨p0, p1, p2, p3, p4, pf⟩ := B0.five
  obtain ⟨q0, q1, q2, q3, q4, qf⟩ := B1.five
  clear k' hM B0 B1 hs
  go_wp2
  refine bodyPost_ret (v := val k b n s o) (by simp [results, Tryz.results15, go_sem, q0, q1, q2, q3, q4]) rfl ?_
  exact ⟨rfl, HB.out.setCell (by simp) _ |>.setCell (by simp) _ |>.setCell (by simp) _ |>.setCell (by simp) _ |>.setCell (by simp) _⟩
theorem law14_Clean_no (k : Int) (b : Bool) (n : Nat) (s : ByteArray) (o : Int) (w : World) (hs : s.size ≤ maxLen) (hm : mayB k b n s o = false) :
    Calls Tryz.prog 15 #[val k b n s o] w fun e w' => e = .returned (val 0 false 0 ⟨#[]⟩ 0) ∧ Below w.heap.size w w' := by
  have hM := fun w => ref_May k b n s o w hs
  rw [hm] at hM
  clear hm
  go_enter Tryz.func15, Tryz.ntmps15
  go_wp2_with fail
  refine (hM _).mono ?_
  rintro e w' ⟨rfl, k'⟩
  have B1 := (HasB.new (w.alloc _) _ _).below k'
  have HB := Lib.hid (show Below w.heap.size w w' from below_via k' (by go_grown) (by simp; omega))
  have hz := k'.size
  simp at B1 hz
  obtain ⟨q0, q1, q2, q3, q4, qf⟩ := B1.five
  clear k' hM B1 hs
  go_wp2
  refine bodyPost_ret (v := val 0 false 0 ⟨#[]⟩ 0) (by simp [results, Tryz.results15, go_sem, q0, q1, q2, q3, q4]) rfl ?_
  exact ⟨rfl, HB.out.setCell (by simp) _ |>.setCell (by simp) _ |>.setCell (by simp) _ |>.setCell (by simp) _ |>.setCell (by simp) _⟩
theorem law14_Clean (k : Int) (b : Bool) (n : Nat) (s : ByteArray) (o : Int) (w : World) (hs : s.size ≤ maxLen) :
    Calls Tryz.prog 15 #[val k b n s o] w (SomeVal w) := by
  cases hm : mayB k b n s o with
  | true => exact (law14_Clean_yes k b n s o w hs hm).mono fun _ _ h => ⟨k, b, n, s, o, h.1, hs, h.2⟩
  | false => exact (law14_Clean_no k b n s o w hs hm).mono fun _ _ h => ⟨0, false, 0, ⟨#[]⟩, 0, h.1, Nat.zero_le _, h.2⟩
end Go.Proofs.YtpafbjghlgjfcaaGreatDoor
