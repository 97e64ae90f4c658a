/-
  Contracts of heap.New and of a new heap's small questions (is it made, how many objects, does it have one). Conditions: the cells asked for are within the bounds; the heap's own cells are as said.
-/
import Derived.Test.YtngodcoefmihlaaGreatDoorBase
import Derived.Test.YtngodcoefmihlaaGreatDoorKit2
namespace Go.Proofs.YtngodcoefmihlaaGreatDoor
open Go.RowKit

/-- A heap's own block. -/
def HeapAt (w : World) (h : Nat) (l : Value) (room used : Int) : Prop := HasB w h #[l, .int .i64 room, .int .i64 used, .bool true] 148

theorem HasB.four {w : World} {b : Nat} {t : TypeId} {v0 v1 v2 v3 : Value} (h : HasB w b #[v0, v1, v2, v3] t) :
    w.cell? ⟨b, 0, none⟩ = some v0 ∧ w.cell? ⟨b, 1, none⟩ = some v1 ∧ w.cell? ⟨b, 2, none⟩ = some v2 ∧ w.cell? ⟨b, 3, none⟩ = some v3 ∧ ∀ o, w.frozen? ⟨b, o, none⟩ = false :=
  ⟨h.cell 0, h.cell 1, h.cell 2, h.cell 3, h.free⟩

theorem heap_New (c : Int) (w : World) (h0 : 0 ≤ c) (h1 : c ≤ 16777216) :
    Calls Tryz.prog 41 #[.int .i64 c] w fun e w' => e = .returned (.tuple #[.pointer (some ⟨w.heap.size, 0, none⟩), .int .i64 0]) ∧ w.alloc (.cells #[.slice none 0 0, .int .i64 c, .int .i64 0, .bool true] 148) = w' := by
  go_enter Tryz.func41, Tryz.ntmps41
  go_wp2
  go_returns
  exact ⟨rfl, rfl⟩

theorem Heap_is (h : Nat) (l : Value) (room used : Int) (w : World) (H : HeapAt w h l room used) :
    Calls Tryz.prog 112 #[.pointer (some ⟨h, 0, none⟩)] w fun e w' => e = .returned (.bool true) ∧ w = w' := by
  obtain ⟨q0, q1, q2, q3, qf⟩ := HasB.four H
  clear H
  go_enter Tryz.func112, Tryz.ntmps112
  go_wp2
  go_ret
  exact ⟨rfl, rfl⟩
theorem Heap_is_nil (w : World) :
    Calls Tryz.prog 112 #[.pointer none] w fun e w' => e = .returned (.bool false) ∧ w = w' := by
  go_enter Tryz.func112, Tryz.ntmps112
  go_wp2
  go_ret
  exact ⟨rfl, rfl⟩
theorem Heap_Len (h : Nat) (a : Option Addr) (n c : Nat) (room used : Int) (w : World) (H : HeapAt w h (.slice a n c) room used) :
    Calls Tryz.prog 123 #[.pointer (some ⟨h, 0, none⟩)] w fun e w' => e = .returned (.int .i64 n) ∧ w = w' := by
  have HI := Heap_is h _ room used w H
  obtain ⟨q0, q1, q2, q3, qf⟩ := HasB.four H
  clear H
  go_enter Tryz.func123, Tryz.ntmps123
  go_wp2_with (go_at_call 112; refine HI.mono ?_; rintro e w' ⟨rfl, rfl⟩)
  go_ret
  exact ⟨rfl, rfl⟩
end Go.Proofs.YtngodcoefmihlaaGreatDoor
