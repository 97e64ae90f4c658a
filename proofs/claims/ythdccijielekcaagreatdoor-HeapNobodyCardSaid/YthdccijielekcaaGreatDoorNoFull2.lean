/-
  A data property is full. Condition: its value passes value.Check.
-/
import Derived.Test.YthdccijielekcaaGreatDoorNoFull
namespace Go.Proofs.YthdccijielekcaaGreatDoor
open Go.RowKit

def FullS (w : World) (cs : Array Value) (W : World) : Prop := Below w.heap.size w W ∧ HasB W w.heap.size cs 39
theorem FullS.go {w : World} {cs : Array Value} {W W' : World} (h : FullS w cs W) (k : Below W.heap.size W W') : FullS w cs W' := ⟨below_via k h.1 h.1.size, h.2.below k⟩
theorem FullS.drew {w : World} {cs : Array Value} {W : World} (h : FullS w cs W) : FullS w cs W.drew := ⟨Below.drew h.1, h.2⟩
theorem field_has (k : Int) (b : Bool) (n : Nat) (s : ByteArray) (o : Int) (wr en co : Bool) (w : World) : (Instr.field 39 (.agg (dataProp k b n s o wr en co)) 0).run Tryz.prog w = .ok (.int .i64 57) w := by kernel_rfl
attribute [local go_sem] field_has
set_option maxHeartbeats 2000000 in
set_option maxRecDepth 100000 in
theorem heap_full (k : Int) (b : Bool) (n : Nat) (s : ByteArray) (o : Int) (wr en co : Bool) (w : World)
    (hC : ∀ W, Calls Tryz.prog 114 #[.agg #[.int .i64 k, .bool b, .float .f64 n, .string s, .int .i64 o]] W fun e w' => e = .returned (.int .i64 0) ∧ Below W.heap.size W w') :
    Calls Tryz.prog 159 #[.agg (dataProp k b n s o wr en co)] w fun e w' => e = .returned (.bool true) ∧ Below w.heap.size w w' := by
  have HC := Lib.hid hC
  clear hC
  go_enter Tryz.func159, Tryz.ntmps159
  go_upto_region 1 with (fail)
  refine wp_gen (fun W => FullS w (dataProp k b n s o wr en co) W) ?_ ?_
  · exact ⟨by go_grown, HasB.newAt rfl⟩
  intro W hS
  refine wp_region_held (S := FullS w (dataProp k b n s o wr en co)) (by kernel_rfl) ?_
  replace hS := hS.drew
  simp only [List.size_toArray, List.length_cons, List.length_nil]
  refine wpAnyH_take (i := 0) (v := _) rfl (by kernel_rfl) (by kernel_rfl) (by kernel_rfl) (fun _ _ _ h => h) (yieldsIf_load_mid (by rfl) 39 _ rfl w.heap.size 0 rfl (dataProp k b n s o wr en co).toList _ (fun V hV => hV.2.rangeAt) rfl rfl (by kernel_rfl)) hS ?_
  simp [Act.put]
  refine wpAnyH_ready (rs := [1]) (by kernel_rfl) (by simp) (AllReadyH.cons rfl (fun K hK => ?_) AllReadyH.nil)
  rw [if_pos (by rfl)]
  go_wp2_with (go_at_call 57; refine (prop_Check k b n s o wr en co _ HC.out).mono ?_; rintro e w' ⟨rfl, kk⟩)
  refine hK.out _ _ (hS.go kk) (fun hS => ?_)
  clear hK
  refine wpAnyH_take (i := 2) (v := .bool true) rfl (by kernel_rfl) (by kernel_rfl) (by kernel_rfl) (fun _ _ _ h => h) (Or.inl ⟨by rfl, fun V hV => by go_simp⟩) hS ?_
  simp [Act.put]
  refine wpAnyH_take (i := 3) (v := .bool true) rfl (by kernel_rfl) (by kernel_rfl) (by kernel_rfl) (fun _ _ _ h => h) (Or.inl ⟨by rfl, fun V hV => by go_simp⟩) hS ?_
  simp [Act.put]
  refine wpAnyH_take (i := 4) (v := _) rfl (by kernel_rfl) (by kernel_rfl) (by kernel_rfl) (fun _ _ _ h => h) (yieldsIf_load_mid (by rfl) 39 _ rfl w.heap.size 0 rfl (dataProp k b n s o wr en co).toList _ (fun V hV => hV.2.rangeAt) rfl rfl (by kernel_rfl)) hS ?_
  simp [Act.put]
  refine wpAnyH_take (i := 7) (v := .pointer (some ⟨w.heap.size, 0, none⟩)) rfl (by kernel_rfl) (by kernel_rfl) (by kernel_rfl) (fun _ _ _ h => h) (Or.inl ⟨by rfl, fun V hV => by go_simp⟩) hS ?_
  simp [Act.put]
  refine wpAnyH_take (i := 8) (v := .int .i64 57) rfl (by kernel_rfl) (by kernel_rfl) (by kernel_rfl) (fun _ _ _ h => h) (Or.inl ⟨by rfl, fun V hV => by have q0 := hV.2.cell 0; go_simp⟩) hS ?_
  simp [Act.put]
  refine wpAnyH_ready (rs := [5]) (by kernel_rfl) (by simp) (AllReadyH.cons rfl (fun K hK => ?_) AllReadyH.nil)
  rw [if_pos (by rfl)]
  go_wp2_with (go_at_call 123; refine (prop_Full k b n s o wr en co _).mono ?_; rintro e w' ⟨rfl, kk⟩)
  refine hK.out _ _ (hS.go kk) (fun hS => ?_)
  clear hK
  refine wpAnyH_take (i := 6) (v := .int .i64 57) rfl (by kernel_rfl) (by kernel_rfl) (by kernel_rfl) (fun _ _ _ h => h) (Or.inl ⟨by rfl, fun V hV => by go_simp⟩) hS ?_
  simp [Act.put]
  refine wpAnyH_take (i := 9) (v := .bool true) rfl (by kernel_rfl) (by kernel_rfl) (by kernel_rfl) (fun _ _ _ h => h) (Or.inl ⟨by rfl, fun V hV => by go_simp⟩) hS ?_
  simp [Act.put]
  refine wpAnyH_ready (rs := [10]) (by kernel_rfl) (by simp) (AllReadyH.cons rfl (fun K hK => ?_) AllReadyH.nil)
  rw [if_pos (by rfl)]
  go_wp2_with fail
  refine hK.out _ _ hS (fun hS => ?_)
  clear hK
  refine wpAnyH_ready (rs := [11]) (by kernel_rfl) (by simp) (AllReadyH.cons rfl (fun K hK => ?_) AllReadyH.nil)
  rw [if_pos (by rfl)]
  go_wp2_with fail
  refine hK.out _ _ hS (fun hS => ?_)
  clear hK
  refine wpAnyH_done (by kernel_rfl) ?_ _
  go_wp2_with fail
  go_ret
  exact ⟨rfl, hS.1⟩
end Go.Proofs.YthdccijielekcaaGreatDoor
