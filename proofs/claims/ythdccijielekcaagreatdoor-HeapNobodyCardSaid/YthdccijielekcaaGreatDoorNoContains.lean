/-
  Does a table of one property have one that a question says yes to, where the question says no. Condition: the question says no.
-/
import Derived.Test.YthdccijielekcaaGreatDoorNoIndexes
import Derived.Test.YthdccijielekcaaGreatDoorNoSize
namespace Go.Proofs.YthdccijielekcaaGreatDoor
open Go.RowKit

def No1 (f : FuncId) (cap : Value) (w : World) : Prop := ∀ W, Below w.heap.size w W → Calls Tryz.prog f #[.agg lenCells, cap] W fun e w' => e = .returned (.bool false) ∧ Below W.heap.size W w'
set_option maxHeartbeats 2000000 in
set_option maxRecDepth 100000 in
theorem IndexFunc_keyed_oneA (cap : Value) (pb c : Nat) (w : World) (hp : HasB w pb lenCells 130) (hf : No1 160 cap w) :
    Calls Tryz.prog 161 #[.slice (some ⟨pb, 0, none⟩) 1 c, .func (.func 160) #[] #[cap]] w fun e w' => e = .returned (.int .i64 (-1)) ∧ Below w.heap.size w w' := by
  have HF := Lib.hid hf
  have HP := Lib.hid hp
  clear hf hp
  go_enter Tryz.func161, Tryz.ntmps161
  go_wp2_with fail
  refine wp_loop_rounds 2 ?_
  rw [rounds_succ]
  go_wp2_with ((with_reducible refine at_load 130 ?_); refine wpList_loadB HP.out _ rfl rfl rfl rfl rfl (by kernel_rfl) ?_)
  refine (HF.out w (Below.refl _ _)).mono ?_
  rintro e w' ⟨rfl, k⟩
  go_wp2_with fail
  rw [rounds_succ]
  go_wp2_with fail
  go_ret
  exact ⟨rfl, k⟩
theorem ContainsFunc_keyed_oneA (cap : Value) (pb c : Nat) (w : World) (hp : HasB w pb lenCells 130) (hf : No1 160 cap w) :
    Calls Tryz.prog 117 #[.slice (some ⟨pb, 0, none⟩) 1 c, .func (.func 160) #[] #[cap]] w fun e w' => e = .returned (.bool false) ∧ Below w.heap.size w w' := by
  have HF := Lib.hid hf
  clear hf
  go_enter Tryz.func117, Tryz.ntmps117
  go_wp2_with (go_at_call 161; refine (IndexFunc_keyed_oneA cap pb c _ hp HF.out).mono ?_; rintro e w' ⟨rfl, k⟩)
  go_ret
  exact ⟨rfl, k⟩

set_option maxHeartbeats 2000000 in
set_option maxRecDepth 100000 in
theorem IndexFunc_keyed_oneB (cap : Value) (pb c : Nat) (w : World) (hp : HasB w pb lenCells 130) (hf : No1 118 cap w) :
    Calls Tryz.prog 161 #[.slice (some ⟨pb, 0, none⟩) 1 c, .func (.func 118) #[] #[cap]] w fun e w' => e = .returned (.int .i64 (-1)) ∧ Below w.heap.size w w' := by
  have HF := Lib.hid hf
  have HP := Lib.hid hp
  clear hf hp
  go_enter Tryz.func161, Tryz.ntmps161
  go_wp2_with fail
  refine wp_loop_rounds 2 ?_
  rw [rounds_succ]
  go_wp2_with ((with_reducible refine at_load 130 ?_); refine wpList_loadB HP.out _ rfl rfl rfl rfl rfl (by kernel_rfl) ?_)
  refine (HF.out w (Below.refl _ _)).mono ?_
  rintro e w' ⟨rfl, k⟩
  go_wp2_with fail
  rw [rounds_succ]
  go_wp2_with fail
  go_ret
  exact ⟨rfl, k⟩
theorem ContainsFunc_keyed_oneB (cap : Value) (pb c : Nat) (w : World) (hp : HasB w pb lenCells 130) (hf : No1 118 cap w) :
    Calls Tryz.prog 117 #[.slice (some ⟨pb, 0, none⟩) 1 c, .func (.func 118) #[] #[cap]] w fun e w' => e = .returned (.bool false) ∧ Below w.heap.size w w' := by
  have HF := Lib.hid hf
  clear hf
  go_enter Tryz.func117, Tryz.ntmps117
  go_wp2_with (go_at_call 161; refine (IndexFunc_keyed_oneB cap pb c _ hp HF.out).mono ?_; rintro e w' ⟨rfl, k⟩)
  go_ret
  exact ⟨rfl, k⟩

/-- The questions that the heap asks of each property: is it an index at or above the length; is it one of a text's own. -/
theorem array_q (cell : Nat) (w : World) : No1 160 (.pointer (some ⟨cell, 0, none⟩)) w := by
  intro W _
  go_enter Tryz.func160, Tryz.ntmps160
  go_upto_region 1 with (fail)
  refine wp_gen (fun V => Below W.heap.size W V ∧ HasB V W.heap.size lenCells 130) ?_ ?_
  · exact ⟨by go_grown, HasB.newAt rfl⟩
  rintro V ⟨hV, h1⟩
  have q0 := h1.cell 0
  have HV := Lib.hid hV
  clear hV h1
  go_wp2_with (go_at_call 61; refine (Index_len _).mono ?_; rintro e w' ⟨rfl, k⟩)
  go_ret
  exact ⟨rfl, below_via k HV.out HV.out.size⟩
theorem heap_virtual3 (c1 c2 c3 c4 c5 c6 c7 c8 c9 c10 c11 c12 : Value) (s : ByteArray) (w : World) : Calls Tryz.prog 65 #[.agg #[.int .i64 3, c1, c2, c3, c4, c5, c6, c7, c8, c9, c10, c11, c12], .string s] w fun e w' => e = .returned (.bool false) ∧ Below w.heap.size w w' := by
  go_enter Tryz.func65, Tryz.ntmps65
  go_upto_region 1 with (fail)
  refine wp_gen (fun V => Below w.heap.size w V ∧ V.cell? ⟨w.heap.size, 0, none⟩ = some (.int .i64 3)) ?_ ?_
  · exact ⟨by go_grown, (HasB.new w #[.int .i64 3, c1, c2, c3, c4, c5, c6, c7, c8, c9, c10, c11, c12] 43).cell 0⟩
  rintro V ⟨hV, q0⟩
  have HV := Lib.hid hV
  clear hV
  go_wp2_with fail
  go_ret
  exact ⟨rfl, HV.out⟩
set_option maxRecDepth 100000 in
theorem may_q (xb pb : Nat) (w : World) (hx : HasB w xb (arrObj pb) 43) : No1 118 (.pointer (some ⟨xb, 0, none⟩)) w := by
  intro W hb
  have hX := Lib.hid (hx.below hb)
  clear hx hb
  go_enter Tryz.func118, Tryz.ntmps118
  go_upto_region 1 with (fail)
  refine wp_gen (fun V => (Below W.heap.size W V ∧ HasB V W.heap.size lenCells 130) ∧ HasB V xb (arrObj pb) 43) ?_ ?_
  · exact ⟨⟨by go_grown, HasB.newAt rfl⟩, hX.out.alloc _⟩
  rintro V ⟨⟨hV, h1⟩, h2⟩
  have q0 := h1.cell 0
  have HV := Lib.hid hV
  clear hV h1
  go_wp2_with (first
    | ((with_reducible refine at_load 43 ?_); refine wpList_loadB h2 _ rfl rfl rfl rfl rfl (by kernel_rfl) ?_)
    | (go_at_call 65; refine (heap_virtual3 _ _ _ _ _ _ _ _ _ _ _ _ _ _).mono ?_; rintro e w' ⟨rfl, k⟩))
  go_ret
  exact ⟨rfl, below_via k HV.out HV.out.size⟩
end Go.Proofs.YthdccijielekcaaGreatDoor
