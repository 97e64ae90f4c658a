/-
  A heap that nobody made (nil, or all at nought): what it answers to whatever is asked. Condition: the heap is such a one.
-/
import Derived.Test.YthdccijielekcaaGreatDoorHeapNew
import Derived.Test.YthdccijielekcaaGreatDoorKit3
import Derived.Deep.DeepMust
import Derived.Deep.QuietTactic
import Derived.BigQuiet
namespace Go.Proofs.YthdccijielekcaaGreatDoor
open Go.RowKit

/-- Nobody made this heap. -/
def NoHeap (w : World) (p : Option Addr) : Prop := p = none ∨ ∃ g, p = some ⟨g, 0, none⟩ ∧ HasB w g #[.slice none 0 0, .int .i64 0, .int .i64 0, .bool false] 49
theorem NoHeap.below {w w' : World} {p : Option Addr} (h : NoHeap w p) (k : Below w.heap.size w w') : NoHeap w' p := by
  rcases h with h | ⟨g, h1, h2⟩
  · exact .inl h
  · exact .inr ⟨g, h1, h2.below k⟩
theorem NoHeap.alloc {w : World} {p : Option Addr} (h : NoHeap w p) (o : Obj) : NoHeap (w.alloc o) p := h.below ((Below.refl _ w).alloc (Nat.le_refl _) o)

/-- A descriptor, and an object, all at nought. -/
abbrev prop0 : Value := .agg #[.int .i64 0, .int .i64 0, .bool false, .float .f64 0, .string ⟨#[]⟩, .int .i64 0, .int .i64 0, .bool false, .float .f64 0, .string ⟨#[]⟩, .int .i64 0, .int .i64 0, .bool false, .float .f64 0, .string ⟨#[]⟩, .int .i64 0, .bool false, .bool false, .bool false]
abbrev objN : Value := .agg #[.int .i64 0, .int .i64 0, .bool false, .slice none 0 0, .int .i64 0, .bool false, .float .f64 0, .string ⟨#[]⟩, .int .i64 0, .int .i64 0, .int .i64 0, .int .i64 0, .slice none 0 0]

variable {w : World} {p : Option Addr}

theorem no_is (h : NoHeap w p) : Calls Tryz.prog 53 #[.pointer p] w fun e w' => e = .returned (.bool false) ∧ w = w' := by
  rcases h with rfl | ⟨g, rfl, h⟩
  · exact Heap_is_nil w
  · obtain ⟨q0, q1, q2, q3, qf⟩ := HasB.four h
    clear h
    go_enter Tryz.func53, Tryz.ntmps53
    go_wp2
    go_ret
    exact ⟨rfl, rfl⟩
theorem no_there (o : Int) (h : NoHeap w p) : Calls Tryz.prog 56 #[.pointer p, .int .i64 o] w fun e w' => e = .returned (.bool false) ∧ w = w' := by
  have HI := no_is h
  clear h
  go_enter Tryz.func56, Tryz.ntmps56
  go_wp2_with (go_at_call 53; refine HI.mono ?_; rintro e w' ⟨rfl, rfl⟩)
  go_ret
  exact ⟨rfl, rfl⟩
theorem no_Len (h : NoHeap w p) : Calls Tryz.prog 22 #[.pointer p] w fun e w' => e = .returned (.int .i64 0) ∧ w = w' := by
  have HI := no_is h
  clear h
  go_enter Tryz.func22, Tryz.ntmps22
  go_wp2_with (go_at_call 53; refine HI.mono ?_; rintro e w' ⟨rfl, rfl⟩)
  go_ret
  exact ⟨rfl, rfl⟩
theorem no_Used (h : NoHeap w p) : Calls Tryz.prog 23 #[.pointer p] w fun e w' => e = .returned (.int .i64 0) ∧ w = w' := by
  have HI := no_is h
  clear h
  go_enter Tryz.func23, Tryz.ntmps23
  go_wp2_with (go_at_call 53; refine HI.mono ?_; rintro e w' ⟨rfl, rfl⟩)
  go_ret
  exact ⟨rfl, rfl⟩
theorem no_All (h : NoHeap w p) : Calls Tryz.prog 24 #[.pointer p] w fun e w' => e = .returned (.slice none 0 0) ∧ w = w' := by
  have HI := no_is h
  clear h
  go_enter Tryz.func24, Tryz.ntmps24
  go_wp2_with (go_at_call 53; refine HI.mono ?_; rintro e w' ⟨rfl, rfl⟩)
  go_ret
  exact ⟨rfl, rfl⟩
theorem no_Names (o : Int) (h : NoHeap w p) : Calls Tryz.prog 26 #[.pointer p, .int .i64 o] w fun e w' => e = .returned (.slice none 0 0) ∧ w = w' := by
  have HI := no_there o h
  clear h
  go_enter Tryz.func26, Tryz.ntmps26
  go_wp2_with (go_at_call 56; refine HI.mono ?_; rintro e w' ⟨rfl, rfl⟩)
  go_ret
  exact ⟨rfl, rfl⟩
theorem no_Fixed (o : Int) (h : NoHeap w p) : Calls Tryz.prog 21 #[.pointer p, .int .i64 o] w fun e w' => e = .returned (.bool true) ∧ w = w' := by
  have HI := no_there o h
  clear h
  go_enter Tryz.func21, Tryz.ntmps21
  go_wp2_with (go_at_call 56; refine HI.mono ?_; rintro e w' ⟨rfl, rfl⟩)
  go_ret
  exact ⟨rfl, rfl⟩
theorem no_CanPut (o : Int) (s : ByteArray) (h : NoHeap w p) : Calls Tryz.prog 19 #[.pointer p, .int .i64 o, .string s] w fun e w' => e = .returned (.bool false) ∧ w = w' := by
  have HI := no_there o h
  clear h
  go_enter Tryz.func19, Tryz.ntmps19
  go_wp2_with (go_at_call 56; refine HI.mono ?_; rintro e w' ⟨rfl, rfl⟩)
  go_ret
  exact ⟨rfl, rfl⟩
theorem no_Delete (o : Int) (s : ByteArray) (h : NoHeap w p) : Calls Tryz.prog 20 #[.pointer p, .int .i64 o, .string s] w fun e w' => e = .returned (.bool false) ∧ w = w' := by
  have HI := no_is h
  clear h
  go_enter Tryz.func20, Tryz.ntmps20
  go_wp2_with (go_at_call 53; refine HI.mono ?_; rintro e w' ⟨rfl, rfl⟩)
  go_ret
  exact ⟨rfl, rfl⟩
theorem no_Prevent (o : Int) (h : NoHeap w p) : Calls Tryz.prog 18 #[.pointer p, .int .i64 o] w fun e w' => e = .returned (.tuple #[]) ∧ w = w' := by
  have HI := no_there o h
  clear h
  go_enter Tryz.func18, Tryz.ntmps18
  go_wp2_with (go_at_call 56; refine HI.mono ?_; rintro e w' ⟨rfl, rfl⟩)
  go_end0
  exact ⟨rfl, rfl⟩
theorem no_Alloc (c0 c1 c2 c3 c4 c5 c6 c7 c8 c9 c10 c11 c12 : Value) (h : NoHeap w p) : Calls Tryz.prog 13 #[.pointer p, .agg #[c0, c1, c2, c3, c4, c5, c6, c7, c8, c9, c10, c11, c12]] w fun e w' => e = .returned (.tuple #[.int .i64 0, .int .i64 1]) ∧ Below w.heap.size w w' := by
  have HI := fun w h => @no_is w p h
  go_enter Tryz.func13, Tryz.ntmps13
  go_wp2_with (go_at_call 53; refine (HI _ (h.alloc _)).mono ?_; rintro e w' ⟨rfl, rfl⟩)
  go_returns
  exact ⟨rfl, by go_grown⟩
theorem no_Object (o : Int) (h : NoHeap w p) : Calls Tryz.prog 14 #[.pointer p, .int .i64 o] w fun e w' => e = .returned (.tuple #[objN, .int .i64 1]) ∧ Below w.heap.size w w' := by
  have HI := fun w h => @no_is w p h
  go_enter Tryz.func14, Tryz.ntmps14
  go_wp2_with (go_at_call 53; refine (HI _ (h.alloc _)).mono ?_; rintro e w' ⟨rfl, rfl⟩)
  refine bodyPost_ret (v := .tuple #[objN, .int .i64 1]) (by simp [results, Tryz.results14, go_sem]) rfl ⟨rfl, ?_⟩
  go_grown
theorem no_Define (o : Int) (s : ByteArray) (c0 c1 c2 c3 c4 c5 c6 c7 c8 c9 c10 c11 c12 c13 c14 c15 c16 c17 c18 : Value) (h : NoHeap w p) : Calls Tryz.prog 15 #[.pointer p, .int .i64 o, .string s, .agg #[c0, c1, c2, c3, c4, c5, c6, c7, c8, c9, c10, c11, c12, c13, c14, c15, c16, c17, c18]] w fun e w' => e = .returned (.tuple #[.bool false, .int .i64 1]) ∧ Below w.heap.size w w' := by
  have HI := fun w h => @no_is w p h
  go_enter Tryz.func15, Tryz.ntmps15
  go_wp2_with (go_at_call 53; refine (HI _ (h.alloc _)).mono ?_; rintro e w' ⟨rfl, rfl⟩)
  go_returns
  exact ⟨rfl, by go_grown⟩
end Go.Proofs.YthdccijielekcaaGreatDoor
