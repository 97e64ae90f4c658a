/-
  A heap that nobody made: Own, Property, Keys. Condition: the heap is such a one.
-/
import Derived.Test.YthdccijielekcaaGreatDoorNoHeapB
namespace Go.Proofs.YthdccijielekcaaGreatDoor
open Go.RowKit
variable {w : World} {p : Option Addr}

set_option maxRecDepth 100000 in
theorem no_Property (o : Int) (s : ByteArray) (h : NoHeap w p) : Calls Tryz.prog 17 #[.pointer p, .int .i64 o, .string s] w fun e w' => e = .returned (.tuple #[prop0, .int .i64 0, .bool false]) ∧ Below w.heap.size w w' := by
  have HI := fun w h => @no_there w p o h
  go_enter Tryz.func17, Tryz.ntmps17
  go_wp2_with fail
  refine wp_gen (fun W => NoHeap W p ∧ Below w.heap.size w W ∧ HasB W w.heap.size cells0 39) ?_ ?_
  · exact ⟨h.alloc _, by go_grown, HasB.newAt rfl⟩
  rintro W ⟨hN, hb, h1⟩
  have H1 := Lib.hid h1
  have HB := Lib.hid hb
  clear h1 hb h
  refine wp_loop_rounds 1 ?_
  rw [rounds_succ]
  go_wp2_with (first
    | (go_at_call 56; refine (HI _ hN).mono ?_; rintro e w' ⟨rfl, rfl⟩)
    | ((with_reducible refine at_store 39 ?_); refine wpList_storeB H1.out #[.int .i64 0, .int .i64 0, .bool false, .float .f64 0, .string ⟨#[]⟩, .int .i64 0, .int .i64 0, .bool false, .float .f64 0, .string ⟨#[]⟩, .int .i64 0, .int .i64 0, .bool false, .float .f64 0, .string ⟨#[]⟩, .int .i64 0, .bool false, .bool false, .bool false] rfl rfl rfl rfl rfl (by kernel_rfl) (by kernel_rfl) ?_; intro W2 h2 hk hoff; have HB2 := Lib.hid (hk _ _ (Nat.le_refl _) HB.out); clear hk hoff HB))
  have hl := fun ty d hu hd hi => HasB.loads (P := Tryz.prog) (ty := ty) h2 d hu hd hi
  replace hl := hl 39 _ rfl rfl (by kernel_rfl)
  exact bodyPost_ret (results_cell_tmp2 rfl rfl hl) rfl ⟨rfl, HB2.out⟩
end Go.Proofs.YthdccijielekcaaGreatDoor
