/-
  The length's property of the heap's one array, asked for and pointed at. Conditions: the heap's cells are as said.
-/
import Derived.Test.YthdccijielekcaaGreatDoorNoOwns
namespace Go.Proofs.YthdccijielekcaaGreatDoor
open Go.RowKit
variable {h g c x mp p b np cp : Nat} {es : Array MapEntry} {ec : Nat} {ps : Array Value} {used : Int} {W W' w : World}

set_option maxHeartbeats 2000000 in
set_option maxRecDepth 100000 in
theorem Heap_Own_len (n : Nat) (hps : (ps.toList.drop 1).take 19 = (dataProp 3 false n ⟨#[]⟩ 0 true false false).toList) (H : ArrG h g c x mp p b 2 cp #[ent0, ent1] 2 ps used w) :
    Calls Tryz.prog 16 #[.pointer (some ⟨h, 0, none⟩), .int .i64 0, .string lenW] w fun e w' => e = .returned (.tuple #[.agg (dataProp 3 false n ⟨#[]⟩ 0 true false false), .bool true]) ∧ Below w.heap.size w w' := by
  go_enter Tryz.func16, Tryz.ntmps16
  go_upto_region 1 with (fail)
  refine wp_gen (fun W => OwnsS w h g c x mp p b 2 cp #[ent0, ent1] 2 ps used W) ?_ ?_
  · exact ⟨by go_grown, HasB.newAt rfl, H.go (Below.alloc (Below.refl _ _) (Nat.le_refl _) _)⟩
  intro W hS0
  have hS := Lib.hid hS0
  clear H hS0
  obtain ⟨r0, g0, x0, x2, x3, x13⟩ := hS.out.2.2.cells
  go_wp2_with (first
    | (go_at_call 56; refine (Heap_there1 hS.out.2.2).mono ?_; rintro e w' ⟨rfl, rfl⟩)
    | ((with_reducible refine at_load 43 ?_); refine wpList_loadOff hS.out.2.2.2.2.1 0 [.int .i64 3, .int .i64 (-1), .bool false, .slice (some ⟨p, 0, none⟩) 2 cp, .int .i64 0, .bool false, .float .f64 0, .string ⟨#[]⟩, .int .i64 0, .int .i64 0, .int .i64 0, .int .i64 0, .slice (some ⟨b, 0, none⟩) 0 0] rfl _ rfl rfl rfl rfl rfl (by kernel_rfl) ?_)
    | (go_at_call 65; refine (heap_virtual3 _ _ _ _ _ _ _ _ _ _ _ _ _ _).mono ?_; rintro e w' ⟨rfl, k⟩; replace hS := Lib.hid (hS.out.go k); clear k r0 g0 x0 x2 x3 x13; obtain ⟨r0, g0, x0, x2, x3, x13⟩ := hS.out.2.2.cells; have hlook := look_len2 2 hS.out.2.2.2.2.2.1)
    | ((with_reducible refine at_load 39 ?_); refine wpList_loadOff hS.out.2.2.2.2.2.2 1 (dataProp 3 false n ⟨#[]⟩ 0 true false false).toList hps _ rfl rfl rfl rfl rfl (by kernel_rfl) ?_)
    | ((with_reducible refine at_store 39 ?_); refine wpList_storeB hS.out.2.1 (dataProp 3 false n ⟨#[]⟩ 0 true false false) rfl rfl rfl rfl rfl (by kernel_rfl) (by kernel_rfl) ?_; intro W2 h2 hk hoff; have HB2 := Lib.hid (hk _ _ (Nat.le_refl _) hS.out.1); clear hk hoff))
  have hl := fun ty d hu hd hi => HasB.loads (P := Tryz.prog) (ty := ty) h2 d hu hd hi
  replace hl := hl 39 _ rfl rfl (by kernel_rfl)
  exact bodyPost_ret (results_cell_tmp rfl rfl hl) rfl ⟨rfl, HB2.out⟩

def LenS (w : World) (h g c x mp p b np cp : Nat) (es : Array MapEntry) (ec : Nat) (ps : Array Value) (used : Int) (W : World) : Prop := Below w.heap.size w W ∧ ArrG h g c x mp p b np cp es ec ps used W
theorem LenS.go (H : LenS w h g c x mp p b np cp es ec ps used W) (k : Below W.heap.size W W') : LenS w h g c x mp p b np cp es ec ps used W' := ⟨below_via k H.1 H.1.size, H.2.go k⟩
theorem LenS.drew (H : LenS w h g c x mp p b np cp es ec ps used W) : LenS w h g c x mp p b np cp es ec ps used W.drew := ⟨Below.drew H.1, H.2⟩
theorem LenS.two (H : LenS w h g c x mp p b np cp es ec ps used W) : W.cell? ⟨x, 3, none⟩ = some (.slice (some ⟨p, 0, none⟩) np cp) ∧ W.cell? ⟨x, 13, none⟩ = some (.map (some mp)) := ⟨H.2.cells.2.2.2.2.1, H.2.cells.2.2.2.2.2⟩
set_option maxHeartbeats 2000000 in
set_option maxRecDepth 100000 in
theorem Heap_lengthOf (hnp : 0 < np) (hlk : ∀ W, MapIs W mp es ec → (Instr.lookup 108 (.map (some mp)) (.string lenW) false).run Tryz.prog W = .ok (.int .i64 0) W) (H : ArrG h g c x mp p b np cp es ec ps used w) :
    Calls Tryz.prog 62 #[.pointer (some ⟨h, 0, none⟩), .int .i64 0] w fun e w' => e = .returned (.pointer (some ⟨p, 1, none⟩)) ∧ Below w.heap.size w w' := by
  have hnp1 : (0 : Int) < (np : Int) := by omega
  have HL := Lib.hid hlk
  clear hlk
  obtain ⟨r0, g0, x0, x2, x3, x13⟩ := H.cells
  have hS : LenS w h g c x mp p b np cp es ec ps used w := ⟨Below.refl _ _, H⟩
  go_enter Tryz.func62, Tryz.ntmps62
  go_wp2_with fail
  go_region_held3 (fun V => (V.cell? ⟨x, 3, none⟩ = some (.slice (some ⟨p, 0, none⟩) np cp) ∧ V.cell? ⟨x, 13, none⟩ = some (.map (some mp))) ∧ LenS w h g c x mp p b np cp es ec ps used V)
    (first
      | assumption
      | exact ⟨⟨x3, x13⟩, hS.drew⟩
      | exact (fun h => ⟨LenS.two h, h⟩) (LenS.go (And.right ‹_ ∧ LenS _ _ _ _ _ _ _ _ _ _ _ _ _ _ _›) (by assumption)))
    (first | (go_at_call 59; refine (Heap_length _).mono ?_; rintro e w' ⟨rfl, k⟩; have hlook := HL.out _ (LenS.go (And.right ‹_ ∧ LenS _ _ _ _ _ _ _ _ _ _ _ _ _ _ _›) k).2.2.2.2.1))
  all_goals go_wp2_with fail
  all_goals go_ret
  all_goals exact ⟨rfl, (And.right ‹_ ∧ LenS _ _ _ _ _ _ _ _ _ _ _ _ _ _ _›).1⟩
end Go.Proofs.YthdccijielekcaaGreatDoor
