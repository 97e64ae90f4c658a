/-
  A table of one property, the length: where its keys stand. Condition: the table lies in memory.
-/
import Derived.Test.YthdccijielekcaaGreatDoorNoArray
import Derived.Test.YthdccijielekcaaGreatDoorNoFull2
import Derived.Test.YthdccijielekcaaGreatDoorNoMap
namespace Go.Proofs.YthdccijielekcaaGreatDoor
open Go.RowKit

attribute [local go_sem] run_Float64bits
theorem value_Check_num0 (w : World) : Calls Tryz.prog 114 #[.agg #[.int .i64 3, .bool false, .float .f64 0, .string ⟨#[]⟩, .int .i64 0]] w fun e w' => e = .returned (.int .i64 0) ∧ Below w.heap.size w w' := by
  have hn := math_IsNaN 0
  rw [show nanB 0 = false by kernel_rfl] at hn
  go_enter Tryz.func114, Tryz.ntmps114
  go_wp2_with (go_at_call 102; refine (hn _).mono ?_; rintro e w' ⟨rfl, rfl⟩)
  go_ret
  exact ⟨rfl, by go_grown⟩

abbrev lenCells : Array Value := keyed lengthW 3 false 0 ⟨#[]⟩ 0 true false false
def IdxS (w : World) (pb : Nat) (W : World) : Prop := Below w.heap.size w W ∧ W.heap[w.heap.size]? = some (.map #[] 0) ∧ HasB W pb lenCells 130 ∧ pb < w.heap.size
theorem IdxS.go {w : World} {pb : Nat} {W W' : World} (h : IdxS w pb W) (k : Below W.heap.size W W') : IdxS w pb W' :=
  ⟨below_via k h.1 h.1.size, (k.block _ (Array.getElem?_eq_some_iff.1 h.2.1).1).trans h.2.1, h.2.2.1.below k, h.2.2.2⟩
/-- The map that came back: the length's key alone. -/
def LenMap (w : World) (e : Ending) (w' : World) : Prop := ∃ g, e = .returned (.tuple #[.map (some g), .bool true]) ∧ w'.heap[g]? = some (.map #[ent0] 1) ∧ w.heap.size ≤ g ∧ Below w.heap.size w w'
set_option maxHeartbeats 2000000 in
set_option maxRecDepth 100000 in
theorem heap_indexes1 (pb c : Nat) (w : World) (hp : HasB w pb lenCells 130) : Calls Tryz.prog 115 #[.slice (some ⟨pb, 0, none⟩) 1 c] w (LenMap w) := by
  have hmm := @run_makeMap Tryz.prog
  have hlt := hp.lt
  go_enter Tryz.func115, Tryz.ntmps115
  go_wp2_with fail
  refine wp_gen (fun W => IdxS w pb W) ?_ ?_
  · exact ⟨by go_grown, heap_alloc_new w _, hp.alloc _, hlt⟩
  intro W hS
  have HS := Lib.hid hS
  clear hS hp
  refine wp_loop_rounds 2 ?_
  rw [rounds_succ]
  go_upto_region 5 with (first
    | ((with_reducible refine at_load 130 ?_); refine wpList_loadB HS.out.2.2.1 _ rfl rfl rfl rfl rfl (by kernel_rfl) ?_)
    | ((with_reducible refine at_store 130 ?_); refine wpList_storeB (HasB.new _ _ _) lenCells rfl rfl rfl rfl rfl (by kernel_rfl) (by kernel_rfl) ?_; intro V h1 hk hoff; have kk := hk _ _ (Nat.le_refl _) (Below.alloc (Below.refl _ W) (Nat.le_refl _) _); clear hk hoff))
  refine wp_gen (fun V => IdxS w pb V ∧ HasB V W.heap.size lenCells 130) ?_ ?_
  · exact ⟨HS.out.go kk, h1⟩
  clear kk h1
  rintro V ⟨hV, h1⟩
  have q0 := h1.cell 0
  have hlook := look_nil lengthW 0 hV.2.1
  have HV := Lib.hid hV
  have H1 := Lib.hid h1
  clear hV h1
  go_wp2_with (first
    | ((with_reducible refine at_load 39 ?_); refine wpList_loadOff H1.out 1 [.int .i64 57, .int .i64 3, .bool false, .float .f64 0, .string ⟨#[]⟩, .int .i64 0, .int .i64 0, .bool false, .float .f64 0, .string ⟨#[]⟩, .int .i64 0, .int .i64 0, .bool false, .float .f64 0, .string ⟨#[]⟩, .int .i64 0, .bool true, .bool false, .bool false] rfl _ rfl rfl rfl rfl rfl (by kernel_rfl) ?_)
    | (go_at_call 159; refine (heap_full 3 false 0 ⟨#[]⟩ 0 true false false _ value_Check_num0).mono ?_; rintro e w' ⟨rfl, k⟩; have q0' := below_keep k q0; have HV2 := Lib.hid (HV.out.go k); clear k q0 hlook HV H1))
  rw [upd_nil HV2.out.2.1]
  simp only [Result.andThen]
  rw [Oper.upon_skip]
  go_wp2_with fail
  rw [rounds_succ]
  go_wp2_with fail
  go_returns
  exact ⟨_, rfl, putMap_at HV2.out.2.1, Nat.le_refl _, below_putMap HV2.out.1 (Nat.le_refl _) _⟩
end Go.Proofs.YthdccijielekcaaGreatDoor
