/-
  The law on heaps that nobody made: the rounds of its loop. Condition: what the law's last question answers.
-/
import Derived.Test.YthdccijielekcaaGreatDoorNoHeapC
import Derived.Test.YthdccijielekcaaGreatDoorNoHeapD
import Derived.Test.YthdccijielekcaaGreatDoorNoHeapE
import Derived.Deep.Cut
namespace Go.Proofs.YthdccijielekcaaGreatDoor
open Go.RowKit

def NoStage (w : World) (cc : Array Value) (p : Option Addr) (W : World) : Prop := NoHeap W p ∧ Below w.heap.size w W ∧ HasB W w.heap.size cc 45
theorem NoStage.go {w : World} {cc : Array Value} {p : Option Addr} {W W' : World} (h : NoStage w cc p W) (k : Below W.heap.size W W') : NoStage w cc p W' := ⟨h.1.below k, below_via k h.2.1 h.2.1.size, h.2.2.below k⟩
theorem NoStage.cells {w : World} {d : Value} {o : Int} {s : ByteArray} {l : List Value} {p : Option Addr} {W : World} (h : NoStage w ⟨d :: .int .i64 o :: .string s :: l⟩ p W) : W.cell? ⟨w.heap.size, 1, none⟩ = some (.int .i64 o) ∧ W.cell? ⟨w.heap.size, 2, none⟩ = some (.string s) := ⟨h.2.2.cell 1, h.2.2.cell 2⟩

set_option maxHeartbeats 8000000 in
set_option maxRecDepth 100000 in
theorem heapNobody_walk (d : Value) (o : Int) (s : ByteArray) (c0 c1 c2 c3 c4 c5 c6 c7 c8 c9 c10 c11 c12 c13 c14 c15 c16 c17 c18 x0 x1 x2 x3 x4 x5 x6 x7 x8 x9 x10 x11 x12 n : Value) (w : World)
    (hA : ∀ W, Calls Tryz.prog 28 #[] W fun e w' => e = .returned (.bool true) ∧ Below W.heap.size W w') :
    Calls Tryz.prog 4 #[.agg #[d, .int .i64 o, .string s, c0, c1, c2, c3, c4, c5, c6, c7, c8, c9, c10, c11, c12, c13, c14, c15, c16, c17, c18, x0, x1, x2, x3, x4, x5, x6, x7, x8, x9, x10, x11, x12, n]] w fun e w' => e = .returned (.bool true) ∧ Below w.heap.size w w' := by
  have HA := Lib.hid hA
  clear hA
  go_enter Tryz.func4, Tryz.ntmps4
  go_wp2_with fail
  refine wp_gen (fun W => NoStage w #[d, .int .i64 o, .string s, c0, c1, c2, c3, c4, c5, c6, c7, c8, c9, c10, c11, c12, c13, c14, c15, c16, c17, c18, x0, x1, x2, x3, x4, x5, x6, x7, x8, x9, x10, x11, x12, n] none W) ?_ ?_
  · exact ⟨.inl rfl, by go_grown, HasB.newAt rfl⟩
  intro W hS0
  have hS := Lib.hid hS0
  clear hS0
  obtain ⟨q1, q2⟩ := hS.out.cells
  refine wp_loop_rounds 3 ?_
  rw [rounds_succ]
  go_wp2_with (first
    | (go_at_call 13; go_must (refine (no_Alloc _ _ _ _ _ _ _ _ _ _ _ _ _  hS.out.1).mono ?_); rintro e w' ⟨rfl, k⟩; replace hS := Lib.hid (hS.out.go k); clear k q1 q2; obtain ⟨q1, q2⟩ := hS.out.cells)
    | (go_at_call 14; go_must (refine (no_Object _ hS.out.1).mono ?_); rintro e w' ⟨rfl, k⟩; replace hS := Lib.hid (hS.out.go k); clear k q1 q2; obtain ⟨q1, q2⟩ := hS.out.cells)
    | (go_at_call 15; go_must (refine (no_Define _ _ _ _ _ _ _ _ _ _ _ _ _ _ _ _ _ _ _ _ _  hS.out.1).mono ?_); rintro e w' ⟨rfl, k⟩; replace hS := Lib.hid (hS.out.go k); clear k q1 q2; obtain ⟨q1, q2⟩ := hS.out.cells)
    | (go_at_call 16; go_must (refine (no_Own _ _ hS.out.1).mono ?_); rintro e w' ⟨rfl, k⟩; replace hS := Lib.hid (hS.out.go k); clear k q1 q2; obtain ⟨q1, q2⟩ := hS.out.cells)
    | (go_at_call 17; go_must (refine (no_Property _ _ hS.out.1).mono ?_); rintro e w' ⟨rfl, k⟩; replace hS := Lib.hid (hS.out.go k); clear k q1 q2; obtain ⟨q1, q2⟩ := hS.out.cells)
    | (go_at_call 18; go_must (refine (no_Prevent _ hS.out.1).mono ?_); rintro e w' ⟨rfl, rfl⟩)
    | (go_at_call 19; go_must (refine (no_CanPut _ _ hS.out.1).mono ?_); rintro e w' ⟨rfl, rfl⟩)
    | (go_at_call 20; go_must (refine (no_Delete _ _ hS.out.1).mono ?_); rintro e w' ⟨rfl, rfl⟩)
    | (go_at_call 21; go_must (refine (no_Fixed _ hS.out.1).mono ?_); rintro e w' ⟨rfl, rfl⟩)
    | (go_at_call 22; go_must (refine (no_Len  hS.out.1).mono ?_); rintro e w' ⟨rfl, rfl⟩)
    | (go_at_call 23; go_must (refine (no_Used  hS.out.1).mono ?_); rintro e w' ⟨rfl, rfl⟩)
    | (go_at_call 24; go_must (refine (no_All  hS.out.1).mono ?_); rintro e w' ⟨rfl, rfl⟩)
    | (go_at_call 25; go_must (refine (no_Take _ hS.out.1).mono ?_); rintro e w' ⟨rfl, k⟩; replace hS := Lib.hid (hS.out.go k); clear k q1 q2; obtain ⟨q1, q2⟩ := hS.out.cells)
    | (go_at_call 26; go_must (refine (no_Names _ hS.out.1).mono ?_); rintro e w' ⟨rfl, rfl⟩)
    | (go_at_call 27; go_must (refine (no_Keys _ hS.out.1).mono ?_); rintro e w' ⟨rfl, k⟩; replace hS := Lib.hid (hS.out.go k); clear k q1 q2; obtain ⟨q1, q2⟩ := hS.out.cells)
    | ((with_reducible refine at_load 43 ?_); refine wpList_loadOff hS.out.2.2 22 [x0, x1, x2, x3, x4, x5, x6, x7, x8, x9, x10, x11, x12] rfl _ rfl rfl rfl rfl rfl (by kernel_rfl) ?_)
    | ((with_reducible refine at_load 39 ?_); refine wpList_loadOff hS.out.2.2 3 [c0, c1, c2, c3, c4, c5, c6, c7, c8, c9, c10, c11, c12, c13, c14, c15, c16, c17, c18] rfl _ rfl rfl rfl rfl rfl (by kernel_rfl) ?_)
    | ((with_reducible refine at_store 43 ?_); refine wpList_storeB (HasB.new _ _ _) #[.int .i64 0, .int .i64 0, .bool false, .slice none 0 0, .int .i64 0, .bool false, .float .f64 0, .string ⟨#[]⟩, .int .i64 0, .int .i64 0, .int .i64 0, .int .i64 0, .slice none 0 0] rfl rfl rfl rfl rfl (by kernel_rfl) (by kernel_rfl) ?_; intro W2 h2 hk hoff; have k := hk _ _ (Nat.le_refl _) (Below.alloc (Below.refl _ _) (Nat.le_refl _) _); clear h2 hk hoff; replace hS := Lib.hid (hS.out.go k); clear k q1 q2; obtain ⟨q1, q2⟩ := hS.out.cells)
    | ((with_reducible refine at_store 39 ?_); refine wpList_storeB (HasB.new _ _ _) #[.int .i64 0, .int .i64 0, .bool false, .float .f64 0, .string ⟨#[]⟩, .int .i64 0, .int .i64 0, .bool false, .float .f64 0, .string ⟨#[]⟩, .int .i64 0, .int .i64 0, .bool false, .float .f64 0, .string ⟨#[]⟩, .int .i64 0, .bool false, .bool false, .bool false] rfl rfl rfl rfl rfl (by kernel_rfl) (by kernel_rfl) ?_; intro W2 h2 hk hoff; have k := hk _ _ (Nat.le_refl _) (Below.alloc (Below.refl _ _) (Nat.le_refl _) _); clear h2 hk hoff; replace hS := Lib.hid (hS.out.go k); clear k q1 q2; obtain ⟨q1, q2⟩ := hS.out.cells))
  rw [rounds_succ]
  go_upto_region 7 with (fail)
  refine wp_gen (fun W' => NoStage w #[d, .int .i64 o, .string s, c0, c1, c2, c3, c4, c5, c6, c7, c8, c9, c10, c11, c12, c13, c14, c15, c16, c17, c18, x0, x1, x2, x3, x4, x5, x6, x7, x8, x9, x10, x11, x12, n] (some ⟨w'.heap.size, 0, none⟩) W') ?_ ?_
  · exact ⟨.inr ⟨_, rfl, HasB.newAt rfl⟩, Below.alloc hS.out.2.1 hS.out.2.1.size _, hS.out.2.2.alloc _⟩
  clear q1 q2
  intro V hV
  replace hS := Lib.hid hV
  clear hV
  obtain ⟨q1, q2⟩ := hS.out.cells
  go_wp2_with (first
    | (go_at_call 13; go_must (refine (no_Alloc _ _ _ _ _ _ _ _ _ _ _ _ _  hS.out.1).mono ?_); rintro e w' ⟨rfl, k⟩; replace hS := Lib.hid (hS.out.go k); clear k q1 q2; obtain ⟨q1, q2⟩ := hS.out.cells)
    | (go_at_call 14; go_must (refine (no_Object _ hS.out.1).mono ?_); rintro e w' ⟨rfl, k⟩; replace hS := Lib.hid (hS.out.go k); clear k q1 q2; obtain ⟨q1, q2⟩ := hS.out.cells)
    | (go_at_call 15; go_must (refine (no_Define _ _ _ _ _ _ _ _ _ _ _ _ _ _ _ _ _ _ _ _ _  hS.out.1).mono ?_); rintro e w' ⟨rfl, k⟩; replace hS := Lib.hid (hS.out.go k); clear k q1 q2; obtain ⟨q1, q2⟩ := hS.out.cells)
    | (go_at_call 16; go_must (refine (no_Own _ _ hS.out.1).mono ?_); rintro e w' ⟨rfl, k⟩; replace hS := Lib.hid (hS.out.go k); clear k q1 q2; obtain ⟨q1, q2⟩ := hS.out.cells)
    | (go_at_call 17; go_must (refine (no_Property _ _ hS.out.1).mono ?_); rintro e w' ⟨rfl, k⟩; replace hS := Lib.hid (hS.out.go k); clear k q1 q2; obtain ⟨q1, q2⟩ := hS.out.cells)
    | (go_at_call 18; go_must (refine (no_Prevent _ hS.out.1).mono ?_); rintro e w' ⟨rfl, rfl⟩)
    | (go_at_call 19; go_must (refine (no_CanPut _ _ hS.out.1).mono ?_); rintro e w' ⟨rfl, rfl⟩)
    | (go_at_call 20; go_must (refine (no_Delete _ _ hS.out.1).mono ?_); rintro e w' ⟨rfl, rfl⟩)
    | (go_at_call 21; go_must (refine (no_Fixed _ hS.out.1).mono ?_); rintro e w' ⟨rfl, rfl⟩)
    | (go_at_call 22; go_must (refine (no_Len  hS.out.1).mono ?_); rintro e w' ⟨rfl, rfl⟩)
    | (go_at_call 23; go_must (refine (no_Used  hS.out.1).mono ?_); rintro e w' ⟨rfl, rfl⟩)
    | (go_at_call 24; go_must (refine (no_All  hS.out.1).mono ?_); rintro e w' ⟨rfl, rfl⟩)
    | (go_at_call 25; go_must (refine (no_Take _ hS.out.1).mono ?_); rintro e w' ⟨rfl, k⟩; replace hS := Lib.hid (hS.out.go k); clear k q1 q2; obtain ⟨q1, q2⟩ := hS.out.cells)
    | (go_at_call 26; go_must (refine (no_Names _ hS.out.1).mono ?_); rintro e w' ⟨rfl, rfl⟩)
    | (go_at_call 27; go_must (refine (no_Keys _ hS.out.1).mono ?_); rintro e w' ⟨rfl, k⟩; replace hS := Lib.hid (hS.out.go k); clear k q1 q2; obtain ⟨q1, q2⟩ := hS.out.cells)
    | ((with_reducible refine at_load 43 ?_); refine wpList_loadOff hS.out.2.2 22 [x0, x1, x2, x3, x4, x5, x6, x7, x8, x9, x10, x11, x12] rfl _ rfl rfl rfl rfl rfl (by kernel_rfl) ?_)
    | ((with_reducible refine at_load 39 ?_); refine wpList_loadOff hS.out.2.2 3 [c0, c1, c2, c3, c4, c5, c6, c7, c8, c9, c10, c11, c12, c13, c14, c15, c16, c17, c18] rfl _ rfl rfl rfl rfl rfl (by kernel_rfl) ?_)
    | ((with_reducible refine at_store 43 ?_); refine wpList_storeB (HasB.new _ _ _) #[.int .i64 0, .int .i64 0, .bool false, .slice none 0 0, .int .i64 0, .bool false, .float .f64 0, .string ⟨#[]⟩, .int .i64 0, .int .i64 0, .int .i64 0, .int .i64 0, .slice none 0 0] rfl rfl rfl rfl rfl (by kernel_rfl) (by kernel_rfl) ?_; intro W2 h2 hk hoff; have k := hk _ _ (Nat.le_refl _) (Below.alloc (Below.refl _ _) (Nat.le_refl _) _); clear h2 hk hoff; replace hS := Lib.hid (hS.out.go k); clear k q1 q2; obtain ⟨q1, q2⟩ := hS.out.cells)
    | ((with_reducible refine at_store 39 ?_); refine wpList_storeB (HasB.new _ _ _) #[.int .i64 0, .int .i64 0, .bool false, .float .f64 0, .string ⟨#[]⟩, .int .i64 0, .int .i64 0, .bool false, .float .f64 0, .string ⟨#[]⟩, .int .i64 0, .int .i64 0, .bool false, .float .f64 0, .string ⟨#[]⟩, .int .i64 0, .bool false, .bool false, .bool false] rfl rfl rfl rfl rfl (by kernel_rfl) (by kernel_rfl) ?_; intro W2 h2 hk hoff; have k := hk _ _ (Nat.le_refl _) (Below.alloc (Below.refl _ _) (Nat.le_refl _) _); clear h2 hk hoff; replace hS := Lib.hid (hS.out.go k); clear k q1 q2; obtain ⟨q1, q2⟩ := hS.out.cells))
  rw [rounds_succ]
  go_wp2_with (go_at_call 28; refine (HA.out _).mono ?_; rintro e w' ⟨rfl, k⟩)
  go_ret
  exact ⟨rfl, below_via k hS.out.2.1 hS.out.2.1.size⟩
end Go.Proofs.YthdccijielekcaaGreatDoor
