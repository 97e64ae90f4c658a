/-
  A data property passes property.Check. Condition: its value passes value.Check.
-/
import Derived.Test.YthdccijielekcaaGreatDoorNoProp
namespace Go.Proofs.YthdccijielekcaaGreatDoor
open Go.RowKit

def PropStage (w : World) (cs : Array Value) (W : World) : Prop := Below w.heap.size w W ∧ HasB W w.heap.size cs 39
theorem PropStage.go {w : World} {cs : Array Value} {W W' : World} (h : PropStage w cs W) (k : Below W.heap.size W W') : PropStage w cs W' := ⟨below_via k h.1 h.1.size, h.2.below k⟩
theorem PropStage.q0 {w : World} {v : Value} {l : List Value} {W : World} (h : PropStage w ⟨v :: l⟩ W) : W.cell? ⟨w.heap.size, 0, none⟩ = some v := h.2.cell 0
set_option maxHeartbeats 2000000 in
set_option maxRecDepth 100000 in
theorem prop_Check (k : Int) (b : Bool) (n : Nat) (s : ByteArray) (o : Int) (wr en co : Bool) (w : World)
    (hC : ∀ W, Calls Tryz.prog 114 #[.agg #[.int .i64 k, .bool b, .float .f64 n, .string s, .int .i64 o]] W fun e w' => e = .returned (.int .i64 0) ∧ Below W.heap.size W w') :
    Calls Tryz.prog 57 #[.agg (dataProp k b n s o wr en co)] w fun e w' => e = .returned (.int .i64 0) ∧ Below w.heap.size w w' := by
  have HC := Lib.hid hC
  clear hC
  go_enter Tryz.func57, Tryz.ntmps57
  go_upto_region 1 with (fail)
  refine wp_gen (fun W => PropStage w (dataProp k b n s o wr en co) W) ?_ ?_
  · exact ⟨by go_grown, HasB.newAt rfl⟩
  intro W hS0
  have hS := Lib.hid hS0
  clear hS0
  have q0 := hS.out.q0
  go_wp2_with (first
    | (go_at_call 119; (with_reducible refine (has57_1 _ _ _ _ _ _ _ _ _ _ _ _ _ _ _ _ _ _ _).mono ?_); rintro e w' ⟨rfl, k⟩; replace hS := Lib.hid (hS.out.go k); clear k q0; have q0 := hS.out.q0)
    | (go_at_call 119; (with_reducible refine (has57_2 _ _ _ _ _ _ _ _ _ _ _ _ _ _ _ _ _ _ _).mono ?_); rintro e w' ⟨rfl, k⟩; replace hS := Lib.hid (hS.out.go k); clear k q0; have q0 := hS.out.q0)
    | (go_at_call 119; (with_reducible refine (has57_4 _ _ _ _ _ _ _ _ _ _ _ _ _ _ _ _ _ _ _).mono ?_); rintro e w' ⟨rfl, k⟩; replace hS := Lib.hid (hS.out.go k); clear k q0; have q0 := hS.out.q0)
    | (go_at_call 119; (with_reducible refine (has57_8 _ _ _ _ _ _ _ _ _ _ _ _ _ _ _ _ _ _ _).mono ?_); rintro e w' ⟨rfl, k⟩; replace hS := Lib.hid (hS.out.go k); clear k q0; have q0 := hS.out.q0)
    | (go_at_call 119; (with_reducible refine (has57_16 _ _ _ _ _ _ _ _ _ _ _ _ _ _ _ _ _ _ _).mono ?_); rintro e w' ⟨rfl, k⟩; replace hS := Lib.hid (hS.out.go k); clear k q0; have q0 := hS.out.q0)
    | (go_at_call 119; (with_reducible refine (has57_32 _ _ _ _ _ _ _ _ _ _ _ _ _ _ _ _ _ _ _).mono ?_); rintro e w' ⟨rfl, k⟩; replace hS := Lib.hid (hS.out.go k); clear k q0; have q0 := hS.out.q0)
    | (go_at_call 70; refine (prop_Accessor _ _ _ _ _ _ _ _ _ _ _ _ _ _ _ _ _ _ _).mono ?_; rintro e w' ⟨rfl, k⟩; replace hS := Lib.hid (hS.out.go k); clear k q0; have q0 := hS.out.q0)
    | (go_at_call 120; refine (prop_zero0 _).mono ?_; rintro e w' ⟨rfl, k⟩; replace hS := Lib.hid (hS.out.go k); clear k q0; have q0 := hS.out.q0)
    | (go_at_call 121; refine (prop_call0 _).mono ?_; rintro e w' ⟨rfl, k⟩; replace hS := Lib.hid (hS.out.go k); clear k q0; have q0 := hS.out.q0)
    | (go_at_call 114; refine (HC.out _).mono ?_; rintro e w' ⟨rfl, k⟩; replace hS := Lib.hid (hS.out.go k); clear k q0; have q0 := hS.out.q0)
    | ((with_reducible refine at_load 39 ?_); refine wpList_loadB hS.out.2 _ rfl rfl rfl rfl rfl (by kernel_rfl) ?_)
    | ((with_reducible refine at_load_by 31 65 ?_); refine wpList_loadOff hS.out.2 1 [.int .i64 k, .bool b, .float .f64 n, .string s, .int .i64 o] rfl _ rfl rfl rfl rfl rfl (by kernel_rfl) ?_)
    | ((with_reducible refine at_load_by 31 15 ?_); refine wpList_loadOff hS.out.2 6 [.int .i64 0, .bool false, .float .f64 0, .string ⟨#[]⟩, .int .i64 0] rfl _ rfl rfl rfl rfl rfl (by kernel_rfl) ?_)
    | ((with_reducible refine at_load_by 31 71 ?_); refine wpList_loadOff hS.out.2 6 [.int .i64 0, .bool false, .float .f64 0, .string ⟨#[]⟩, .int .i64 0] rfl _ rfl rfl rfl rfl rfl (by kernel_rfl) ?_)
    | ((with_reducible refine at_load_by 31 24 ?_); refine wpList_loadOff hS.out.2 11 [.int .i64 0, .bool false, .float .f64 0, .string ⟨#[]⟩, .int .i64 0] rfl _ rfl rfl rfl rfl rfl (by kernel_rfl) ?_)
    | ((with_reducible refine at_load_by 31 77 ?_); refine wpList_loadOff hS.out.2 11 [.int .i64 0, .bool false, .float .f64 0, .string ⟨#[]⟩, .int .i64 0] rfl _ rfl rfl rfl rfl rfl (by kernel_rfl) ?_))
  go_ret
  exact ⟨rfl, hS.out.1⟩
end Go.Proofs.YthdccijielekcaaGreatDoor
