/-
  A heap that nobody made: Own, Property, Keys. Condition: the heap is such a one.
-/
import Derived.Test.YthdccijielekcaaGreatDoorNoHeap
import Derived.Test.YthdccijielekcaaGreatDoorKit4
namespace Go.Proofs.YthdccijielekcaaGreatDoor
open Go.RowKit
variable {w : World} {p : Option Addr}

abbrev cells0 : Array Value := #[.int .i64 0, .int .i64 0, .bool false, .float .f64 0, .string ⟨#[]⟩, .int .i64 0, .int .i64 0, .bool false, .float .f64 0, .string ⟨#[]⟩, .int .i64 0, .int .i64 0, .bool false, .float .f64 0, .string ⟨#[]⟩, .int .i64 0, .bool false, .bool false, .bool false]
@[go_sem] theorem build_prop0 (w : World) : (Instr.build 39 #[]).run Tryz.prog w = .ok prop0 w := run_build w 39 #[] _ (by kernel_rfl)
set_option maxRecDepth 100000 in
theorem no_Own (o : Int) (s : ByteArray) (h : NoHeap w p) : Calls Tryz.prog 16 #[.pointer p, .int .i64 o, .string s] w fun e w' => e = .returned (.tuple #[prop0, .bool false]) ∧ Below w.heap.size w w' := by
  have HI := fun w h => @no_there w p o h
  go_enter Tryz.func16, Tryz.ntmps16
  go_wp2_with fail
  refine calls_gen (fun W => NoHeap W p ∧ Below w.heap.size w W ∧ HasB W w.heap.size cells0 39) ?_ ?_
  · exact ⟨h.alloc _, by go_grown, HasB.newAt rfl⟩
  rintro W ⟨hN, hb, h1⟩
  refine (HI W hN).mono ?_
  rintro e w' ⟨rfl, rfl⟩
  clear HI h hN
  have H1 := Lib.hid h1
  have HB := Lib.hid hb
  clear h1 hb
  go_wp2_with ((with_reducible refine at_store 39 ?_); refine wpList_storeB H1.out #[.int .i64 0, .int .i64 0, .bool false, .float .f64 0, .string ⟨#[]⟩, .int .i64 0, .int .i64 0, .bool false, .float .f64 0, .string ⟨#[]⟩, .int .i64 0, .int .i64 0, .bool false, .float .f64 0, .string ⟨#[]⟩, .int .i64 0, .bool false, .bool false, .bool false] rfl rfl rfl rfl rfl (by kernel_rfl) (by kernel_rfl) ?_; intro W2 h2 hk hoff; have HB2 := Lib.hid (hk _ _ (Nat.le_refl _) HB.out); clear hk hoff HB)
  have hl := fun ty d hu hd hi => HasB.loads (P := Tryz.prog) (ty := ty) h2 d hu hd hi
  replace hl := hl 39 _ rfl rfl (by kernel_rfl)
  exact bodyPost_ret (results_cell_tmp rfl rfl hl) rfl ⟨rfl, HB2.out⟩
end Go.Proofs.YthdccijielekcaaGreatDoor
