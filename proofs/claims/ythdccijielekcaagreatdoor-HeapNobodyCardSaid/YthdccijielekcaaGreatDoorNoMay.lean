/-
  The heap's questions of the law's array, ahead of keeping it. Condition: its table lies in memory.
-/
import Derived.Test.YthdccijielekcaaGreatDoorNoContains
namespace Go.Proofs.YthdccijielekcaaGreatDoor
open Go.RowKit

theorem heap_inside3 (pb : Nat) (w : World) : Calls Tryz.prog 111 #[.agg (arrObj pb)] w fun e w' => e = .returned (.bool true) ∧ Below w.heap.size w w' := by
  go_enter Tryz.func111, Tryz.ntmps111
  go_wp2_with fail
  refine (value_Check_zero _).mono ?_
  rintro e w' ⟨rfl, k'⟩
  go_wp2
  go_ret
  exact ⟨rfl, below_via k' (by go_grown) (by simp)⟩

def ArrQ (w : World) (pb mp : Nat) (W : World) : Prop := Below w.heap.size w W ∧ HasB W pb lenCells 130 ∧ W.heap[mp]? = some (.map #[ent0] 1)
theorem ArrQ.go {w : World} {pb mp : Nat} {W W' : World} (h : ArrQ w pb mp W) (k : Below W.heap.size W W') : ArrQ w pb mp W' :=
  ⟨below_via k h.1 h.1.size, h.2.1.below k, (k.block _ (Array.getElem?_eq_some_iff.1 h.2.2).1).trans h.2.2⟩
set_option maxHeartbeats 4000000 in
set_option maxRecDepth 100000 in
theorem heap_array1 (pb c mp : Nat) (w : World) (hp : HasB w pb lenCells 130) (hm : w.heap[mp]? = some (.map #[ent0] 1)) :
    Calls Tryz.prog 116 #[.slice (some ⟨pb, 0, none⟩) 1 c, .map (some mp)] w fun e w' => e = .returned (.bool true) ∧ Below w.heap.size w w' := by
  have HS := Lib.hid (show ArrQ w pb mp w from ⟨Below.refl _ _, hp, hm⟩)
  clear hp hm
  go_enter Tryz.func116, Tryz.ntmps116
  go_upto_region 4 with (go_at_call 59; refine (Heap_length _).mono ?_; rintro e w' ⟨rfl, k⟩; replace HS := Lib.hid (HS.out.go k); clear k; have hlook := look_len1 1 HS.out.2.2)
  clear hlook
  go_upto_region 5 with (first
    | ((with_reducible refine at_load 39 ?_); refine wpList_loadOff HS.out.2.1 1 [.int .i64 57, .int .i64 3, .bool false, .float .f64 0, .string ⟨#[]⟩, .int .i64 0, .int .i64 0, .bool false, .float .f64 0, .string ⟨#[]⟩, .int .i64 0, .int .i64 0, .bool false, .float .f64 0, .string ⟨#[]⟩, .int .i64 0, .bool true, .bool false, .bool false] rfl _ rfl rfl rfl rfl rfl (by kernel_rfl) ?_)
    | ((with_reducible refine at_store 39 ?_); refine wpList_storeB (HasB.new _ _ _) (dataProp 3 false 0 ⟨#[]⟩ 0 true false false) rfl rfl rfl rfl rfl (by kernel_rfl) (by kernel_rfl) ?_; intro V h1 hk hoff; have kk := hk _ _ (Nat.le_refl _) (Below.alloc (Below.refl _ _) (Nat.le_refl _) _); clear hk hoff; replace HS := Lib.hid (HS.out.go kk); clear kk; replace h1 := Lib.hid h1))
  go_upto_region 6 with (first
    | ((with_reducible refine at_load_by 31 22 ?_); refine wpList_loadOff h1.out 1 [.int .i64 3, .bool false, .float .f64 0, .string ⟨#[]⟩, .int .i64 0] rfl _ rfl rfl rfl rfl rfl (by kernel_rfl) ?_)
    | (go_at_call 63; refine (heap_size0 _).mono ?_; rintro e w2 ⟨rfl, k⟩; have h2 := Lib.hid (h1.out.below k); have HS2 := Lib.hid (HS.out.go k); clear k HS h1))
  refine wp_gen (fun X => (ArrQ w pb mp X ∧ HasB X w'.heap.size (dataProp 3 false 0 ⟨#[]⟩ 0 true false false) 39) ∧ X.cell? ⟨w2.heap.size, 0, none⟩ = some (.int .i64 0)) ?_ ?_
  · have hb1 : Below w2.heap.size w2 (w2.alloc (.cells #[.int .i64 0] 3)) := Below.alloc (Below.refl _ _) (Nat.le_refl _) _
    exact ⟨⟨HS2.out.go hb1, h2.out.below hb1⟩, (HasB.new w2 #[.int .i64 0] 3).cell 0⟩
  rintro X ⟨⟨hX, h3⟩, n0⟩
  have q17 := h3.cell 17
  have q18 := h3.cell 18
  have HX := Lib.hid hX
  have H3 := Lib.hid h3
  clear hX h3 HS2 h2
  go_wp2_with (first
    | ((with_reducible refine at_load 39 ?_); refine wpList_loadB H3.out _ rfl rfl rfl rfl rfl (by kernel_rfl) ?_)
    | (go_at_call 122; refine (prop_Data _ _ _ _ _ _ _ _ _ _ _ _ _ _ _ _ _ _ _).mono ?_; rintro e w3 ⟨rfl, k⟩; have r17 := below_keep k q17; have r18 := below_keep k q18; have r0 := below_keep k n0; have HX3 := Lib.hid (HX.out.go k); clear k q17 q18 n0 HX H3)
    | (go_at_call 117; refine (ContainsFunc_keyed_oneA _ pb c _ HX3.out.2.1 (array_q w2.heap.size _)).mono ?_; rintro e w4 ⟨rfl, k⟩; have HX4 := Lib.hid (HX3.out.go k); clear k HX3))
  go_ret
  exact ⟨rfl, HX4.out.1⟩

def MayS (w : World) (pb : Nat) (W : World) : Prop := Below w.heap.size w W ∧ HasB W pb lenCells 130 ∧ HasB W w.heap.size (arrObj pb) 43
theorem MayS.go {w : World} {pb : Nat} {W W' : World} (h : MayS w pb W) (k : Below W.heap.size W W') : MayS w pb W' :=
  ⟨below_via k h.1 h.1.size, h.2.1.below k, h.2.2.below k⟩
theorem MayS.cells {w : World} {pb : Nat} {W : World} (h : MayS w pb W) : W.cell? ⟨w.heap.size, 0, none⟩ = some (.int .i64 3) ∧ W.cell? ⟨w.heap.size, 1, none⟩ = some (.int .i64 (-1)) ∧ W.cell? ⟨w.heap.size, 3, none⟩ = some (.slice (some ⟨pb, 0, none⟩) 1 1) ∧ W.cell? ⟨w.heap.size, 9, none⟩ = some (.int .i64 0) ∧ W.cell? ⟨w.heap.size, 10, none⟩ = some (.int .i64 0) ∧ W.cell? ⟨w.heap.size, 11, none⟩ = some (.int .i64 0) ∧ W.cell? ⟨w.heap.size, 12, none⟩ = some (.slice none 0 0) :=
  ⟨h.2.2.cell 0, h.2.2.cell 1, h.2.2.cell 3, h.2.2.cell 9, h.2.2.cell 10, h.2.2.cell 11, h.2.2.cell 12⟩
set_option maxHeartbeats 4000000 in
set_option maxRecDepth 100000 in
theorem heap_may1 (pb : Nat) (w : World) (hp : HasB w pb lenCells 130) : Calls Tryz.prog 54 #[.agg (arrObj pb), .int .i64 0] w (LenMap w) := by
  go_enter Tryz.func54, Tryz.ntmps54
  go_upto_region 1 with (fail)
  refine wp_gen (fun W => MayS w pb W) ?_ ?_
  · exact ⟨by go_grown, hp.alloc _, HasB.newAt rfl⟩
  intro W hS0
  have hS := Lib.hid hS0
  clear hS0 hp
  obtain ⟨q0, q1, q3, q9, q10, q11, q12⟩ := hS.out.cells
  go_upto_region 6 with (first
    | ((with_reducible refine at_load 43 ?_); refine wpList_loadB hS.out.2.2 _ rfl rfl rfl rfl rfl (by kernel_rfl) ?_)
    | (go_at_call 111; refine (heap_inside3 pb _).mono ?_; rintro e w' ⟨rfl, k⟩; replace hS := Lib.hid (hS.out.go k); clear k q0 q1 q3 q9 q10 q11 q12; obtain ⟨q0, q1, q3, q9, q10, q11, q12⟩ := hS.out.cells)
    | (go_at_call 112; refine (ContainsFunc_vals_nil _ _).mono ?_; rintro e w' ⟨rfl, rfl⟩)
    | (go_at_call 115; refine (heap_indexes1 pb 1 _ hS.out.2.1).mono ?_; rintro e w' ⟨mp, rfl, hmp, hmpl, k⟩; have hge : w.heap.size ≤ mp := Nat.le_trans hS.out.1.size hmpl; clear hmpl; replace hS := Lib.hid (hS.out.go k); clear k q0 q1 q3 q9 q10 q11 q12; obtain ⟨q0, q1, q3, q9, q10, q11, q12⟩ := hS.out.cells))
  go_wp2_with (first
    | (go_at_call 116; refine (heap_array1 pb 1 mp _ hS.out.2.1 hmp).mono ?_; rintro e w' ⟨rfl, k⟩; replace hmp := (k.block _ (Array.getElem?_eq_some_iff.1 hmp).1).trans hmp; replace hS := Lib.hid (hS.out.go k); clear k q0 q1 q3 q9 q10 q11 q12; obtain ⟨q0, q1, q3, q9, q10, q11, q12⟩ := hS.out.cells)
    | (go_at_call 117; refine (ContainsFunc_keyed_oneB _ pb 1 _ hS.out.2.1 (may_q w.heap.size pb _ hS.out.2.2)).mono ?_; rintro e w' ⟨rfl, k⟩; replace hmp := (k.block _ (Array.getElem?_eq_some_iff.1 hmp).1).trans hmp; replace hS := Lib.hid (hS.out.go k); clear k))
  go_returns
  exact ⟨mp, rfl, hmp, hge, hS.out.1⟩
end Go.Proofs.YthdccijielekcaaGreatDoor
