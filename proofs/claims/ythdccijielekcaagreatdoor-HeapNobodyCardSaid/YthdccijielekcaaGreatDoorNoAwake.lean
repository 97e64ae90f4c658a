/-
  The last question of the laws of heaps: has an array of its own the length that it must have. No condition.
-/
import Derived.Test.YthdccijielekcaaGreatDoorNoDefine
namespace Go.Proofs.YthdccijielekcaaGreatDoor
open Go.RowKit

theorem order5 : (FloatKind.f64.format.order n5 n5 == some .eq) = true := by kernel_rfl
theorem build_val0 (w : World) : (Instr.build 31 #[]).run Tryz.prog w = .ok (.agg #[.int .i64 0, .bool false, .float .f64 0, .string ⟨#[]⟩, .int .i64 0]) w := run_build w 31 #[] _ (by kernel_rfl)
attribute [local go_sem] order5 build_val0
set_option maxHeartbeats 4000000 in
set_option maxRecDepth 100000 in
theorem law13_awake (w : World) : Calls Tryz.prog 28 #[] w fun e w' => e = .returned (.bool true) ∧ Below w.heap.size w w' := by
  go_enter Tryz.func28, Tryz.ntmps28
  go_upto_region 4 with (go_at_call 44; refine (heap_New 9 _ (by omega) (by omega)).mono ?_; rintro e w' ⟨rfl, rfl⟩)
  refine wp_gen (fun W => Below w.heap.size w W ∧ HeapAt W w.heap.size (.slice none 0 0) 9 0) ?_ ?_
  · exact ⟨by go_grown, HasB.new w _ _⟩
  rintro W ⟨hW, hH⟩
  go_upto_region 5 with (first
    | (go_at_call 72; refine (law_array _).mono ?_; rintro e w1 ⟨t, rfl, k, ht⟩; have hH1 := HasB.below hH k; have hW1 := below_via k hW hW.size; clear k hH hW)
    | (go_at_call 13; refine (Heap_Alloc3 _ t _ hH1 ht).mono ?_; rintro e w2 ⟨rfl, ⟨g, c, x, mp, p, b, hg, hx, hp, hm, a1, a2, a3, a4, a5⟩, kB⟩))
  have hD := Lib.hid (show DefS w.heap.size w w.heap.size g c x mp p b 1 1 #[ent0] 1 lenCells 2 w2 from ⟨kB.below hW1 (Nat.le_refl _) hW1.size, ⟨a1, a2, a3, a4, a5⟩, Nat.le_refl _⟩)
  have hBx := Nat.le_trans hW1.size hx
  have hBm := Nat.le_trans hW1.size hm
  have hBp := Nat.le_trans hW1.size hp
  clear hH1 ht hW1 kB hg hx hp hm a1 a2 a3 a4 a5
  go_upto_region 6 with (first
    | (go_at_call 73; refine (Wide_four _).mono ?_; rintro e w' ⟨rfl, k⟩; replace hD := Lib.hid (hD.out.go k); clear k)
    | (go_at_call 74; refine (ref12_Plain 0 false 0 ⟨#[]⟩ 0 true true true _).mono ?_; rintro e w' ⟨rfl, k⟩; replace hD := Lib.hid (hD.out.go k); clear k)
    | (go_at_call 15; refine (Heap_Define w.heap.size w hD.out.1 (Nat.le_refl _) hBx hBm hBp hD.out.2.1).mono ?_; rintro e w' ⟨rfl, hY, p2, cp2, cur, hd, hA⟩))
  have hE := Lib.hid (show DefS w.heap.size w w.heap.size g c x mp p2 b 2 cp2 #[ent0, ent1] 2 cur 3 w' from ⟨hY, hA, Nat.le_refl _⟩)
  clear hD hY hA hBx hBm hBp
  go_upto_region 7 with (first
    | (go_at_call 73; refine (Wide_length _).mono ?_; rintro e w3 ⟨rfl, k⟩; replace hE := Lib.hid (hE.out.go k); clear k)
    | (go_at_call 16; refine (Heap_Own_len n5 hd hE.out.2.1).mono ?_; rintro e w4 ⟨rfl, k⟩; replace hE := Lib.hid (hE.out.go k); clear k)
    | ((with_reducible refine at_store 39 ?_); refine wpList_storeB (HasB.new _ _ _) (dataProp 3 false n5 ⟨#[]⟩ 0 true false false) rfl rfl rfl rfl rfl (by kernel_rfl) (by kernel_rfl) ?_; intro V h1 hk hoff; have kk := hk _ _ (Nat.le_refl _) (Below.alloc (Below.refl _ _) (Nat.le_refl _) _); clear hk hoff; have q3 := h1.cell 3; replace hE := Lib.hid (hE.out.go kk); clear kk h1))
  go_wp2_with fail
  go_ret
  exact ⟨rfl, hE.out.1⟩
end Go.Proofs.YthdccijielekcaaGreatDoor
