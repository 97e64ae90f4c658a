/-
  What the heap's one array answers when it is asked for a property of its own: of the key of four there is none; of the length's key there is one. Conditions: the heap's cells are as said.
-/
import Derived.Test.YthdccijielekcaaGreatDoorNoAlloc
namespace Go.Proofs.YthdccijielekcaaGreatDoor
open Go.RowKit

abbrev cellA (p np cp b mp : Nat) : Array Value := #[.int .i64 3, .int .i64 (-1), .bool false, .slice (some ⟨p, 0, none⟩) np cp, .int .i64 0, .bool false, .float .f64 0, .string ⟨#[]⟩, .int .i64 0, .int .i64 0, .int .i64 0, .int .i64 0, .slice (some ⟨b, 0, none⟩) 0 0, .map (some mp)]
/-- The heap's cells, with its one array. -/
def ArrG (h g c x mp p b np cp : Nat) (es : Array MapEntry) (ec : Nat) (ps : Array Value) (used : Int) (W : World) : Prop :=
  HeapAt W h (.slice (some ⟨g, 0, none⟩) 1 c) 9 used ∧ (W.cell? ⟨g, 0, none⟩ = some (.pointer (some ⟨x, 0, none⟩)) ∧ W.frozen? ⟨g, 0, none⟩ = false) ∧ HasB W x (cellA p np cp b mp) 114 ∧ MapIs W mp es ec ∧ HasB W p ps 130
variable {h g c x mp p b np cp : Nat} {es : Array MapEntry} {ec : Nat} {ps : Array Value} {used : Int} {W W' w : World}
theorem ArrG.go (H : ArrG h g c x mp p b np cp es ec ps used W) (k : Below W.heap.size W W') : ArrG h g c x mp p b np cp es ec ps used W' := by
  obtain ⟨h1, ⟨h2, h3⟩, h4, h5, h6⟩ := H
  have hl := World.block_lt_of_cell? W _ h2
  exact ⟨HasB.below h1 k, ⟨(k.cell hl).trans h2, (k.frozen (p := ⟨g, 0, none⟩) hl).trans h3⟩, h4.below k, h5.below k, h6.below k⟩
theorem ArrG.drew (H : ArrG h g c x mp p b np cp es ec ps used W) : ArrG h g c x mp p b np cp es ec ps used W.drew := H
theorem ArrG.cells (H : ArrG h g c x mp p b np cp es ec ps used W) : W.cell? ⟨h, 0, none⟩ = some (.slice (some ⟨g, 0, none⟩) 1 c) ∧ W.cell? ⟨g, 0, none⟩ = some (.pointer (some ⟨x, 0, none⟩)) ∧ W.cell? ⟨x, 0, none⟩ = some (.int .i64 3) ∧ W.cell? ⟨x, 2, none⟩ = some (.bool false) ∧ W.cell? ⟨x, 3, none⟩ = some (.slice (some ⟨p, 0, none⟩) np cp) ∧ W.cell? ⟨x, 13, none⟩ = some (.map (some mp)) :=
  ⟨HasB.cell H.1 0, H.2.1.1, H.2.2.1.cell 0, H.2.2.1.cell 2, H.2.2.1.cell 3, H.2.2.1.cell 13⟩
theorem Heap_there1 (H : ArrG h g c x mp p b np cp es ec ps used w) : Calls Tryz.prog 56 #[.pointer (some ⟨h, 0, none⟩), .int .i64 0] w fun e w' => e = .returned (.bool true) ∧ w = w' := by
  have HI := Heap_is h _ 9 used w H.1
  obtain ⟨q0, q1, q2, q3, qf⟩ := HasB.four H.1
  clear H
  go_enter Tryz.func56, Tryz.ntmps56
  go_wp2_with (go_at_call 53; refine HI.mono ?_; rintro e w' ⟨rfl, rfl⟩)
  go_ret
  exact ⟨rfl, rfl⟩

/-- The answer's own cells, and the heap's. -/
def OwnsS (w : World) (h g c x mp p b np cp : Nat) (es : Array MapEntry) (ec : Nat) (ps : Array Value) (used : Int) (W : World) : Prop := Below w.heap.size w W ∧ HasB W w.heap.size cells0 39 ∧ ArrG h g c x mp p b np cp es ec ps used W
theorem OwnsS.go (H : OwnsS w h g c x mp p b np cp es ec ps used W) (k : Below W.heap.size W W') : OwnsS w h g c x mp p b np cp es ec ps used W' := ⟨below_via k H.1 H.1.size, H.2.1.below k, H.2.2.go k⟩
set_option maxHeartbeats 2000000 in
set_option maxRecDepth 100000 in
theorem Heap_Own_four (H : ArrG h g c x mp p b np cp #[ent0] 1 ps used w) : Calls Tryz.prog 16 #[.pointer (some ⟨h, 0, none⟩), .int .i64 0, .string fourW] w fun e w' => e = .returned (.tuple #[prop0, .bool false]) ∧ Below w.heap.size w w' := by
  go_enter Tryz.func16, Tryz.ntmps16
  go_upto_region 1 with (fail)
  refine wp_gen (fun W => OwnsS w h g c x mp p b np cp #[ent0] 1 ps used W) ?_ ?_
  · exact ⟨by go_grown, HasB.newAt rfl, H.go (Below.alloc (Below.refl _ _) (Nat.le_refl _) _)⟩
  intro W hS0
  have hS := Lib.hid hS0
  clear H hS0
  obtain ⟨r0, g0, x0, x2, x3, x13⟩ := hS.out.2.2.cells
  go_wp2_with (first
    | (go_at_call 56; refine (Heap_there1 hS.out.2.2).mono ?_; rintro e w' ⟨rfl, rfl⟩)
    | ((with_reducible refine at_load 43 ?_); refine wpList_loadOff hS.out.2.2.2.2.1 0 [.int .i64 3, .int .i64 (-1), .bool false, .slice (some ⟨p, 0, none⟩) np cp, .int .i64 0, .bool false, .float .f64 0, .string ⟨#[]⟩, .int .i64 0, .int .i64 0, .int .i64 0, .int .i64 0, .slice (some ⟨b, 0, none⟩) 0 0] rfl _ rfl rfl rfl rfl rfl (by kernel_rfl) ?_)
    | (go_at_call 65; refine (heap_virtual3 _ _ _ _ _ _ _ _ _ _ _ _ _ _).mono ?_; rintro e w' ⟨rfl, k⟩; replace hS := Lib.hid (hS.out.go k); clear k r0 g0 x0 x2 x3 x13; obtain ⟨r0, g0, x0, x2, x3, x13⟩ := hS.out.2.2.cells; have hlook := look_four1 1 hS.out.2.2.2.2.2.1)
    | ((with_reducible refine at_store 39 ?_); refine wpList_storeB hS.out.2.1 cells0 rfl rfl rfl rfl rfl (by kernel_rfl) (by kernel_rfl) ?_; intro W2 h2 hk hoff; have HB2 := Lib.hid (hk _ _ (Nat.le_refl _) hS.out.1); clear hk hoff))
  have hl := fun ty d hu hd hi => HasB.loads (P := Tryz.prog) (ty := ty) h2 d hu hd hi
  replace hl := hl 39 _ rfl rfl (by kernel_rfl)
  exact bodyPost_ret (results_cell_tmp rfl rfl hl) rfl ⟨rfl, HB2.out⟩
end Go.Proofs.YthdccijielekcaaGreatDoor
