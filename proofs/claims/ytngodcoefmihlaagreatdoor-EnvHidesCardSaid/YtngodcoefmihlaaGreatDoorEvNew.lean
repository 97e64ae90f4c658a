/-
  env.New, env.Create of a name that is not there. Conditions: the machine's cells are as said; there is room.
-/
import Derived.Test.YtngodcoefmihlaaGreatDoorEvSet
namespace Go.Proofs.YtngodcoefmihlaaGreatDoor
open Go.RowKit
variable {m h B : Nat} {cM used : Int} {v : Value} {kn : Value × Value} {E : List EnvR} {W W' w : World}

theorem build_env (o : Int) (w : World) : (Instr.build 138 #[(0, .int .i64 o), (1, .int .i64 (-1))]).run Tryz.prog w = .ok (.agg (env3 o (.slice none 0 0))) w := run_build w 138 _ _ (by kernel_rfl)
attribute [local go_sem] build_env
abbrev doneA : Array Value := #[.int .i64 0, .int .i64 0, .bool false, .float .f64 0, .string ⟨#[]⟩, .int .i64 0, .string ⟨#[]⟩]
set_option maxHeartbeats 2000000 in
set_option maxRecDepth 100000 in
theorem env_New (o : Int) (B0 : Nat) (a : World) (hB : Below B0 a w) (hBm : B0 ≤ m) (hBh : B0 ≤ h) (hmh : h ≠ m) (hBB : B0 ≤ B) (hmB : m < B) (hhB : h < B) (hBw : B ≤ w.heap.size) (hlen : E.length ≤ 2000) (hu : 0 ≤ used) (hr : 1 ≤ cM - used) (hc : cM ≤ 16777216) (H : EvM m h B cM v kn E used w) :
    Calls Tryz.prog 36 #[.pointer (some ⟨m, 0, none⟩), .int .i64 o, .int .i64 (-1)] w fun e w' => ∃ v2 nv, e = .returned (.tuple #[.int .i64 E.length, doneN 0 false 0 ⟨#[]⟩ 0]) ∧ EvM m h B cM v2 kn (E ++ [⟨o, nv, []⟩]) (used + 1) w' ∧ Below B0 a w' ∧ Kept w w' := by
  have hlm := H.ltm
  go_enter Tryz.func36, Tryz.ntmps36
  go_upto_region 1 with (fail)
  refine wp_gen (fun X => (EvM m h B cM v kn E used X ∧ HasB X w.heap.size done7 37 ∧ B ≤ X.heap.size) ∧ Below B0 a X ∧ Kept w X) ?_ ?_
  · exact ⟨⟨H.below (by go_grown), HasB.newAt rfl, by simp; omega⟩, Below.alloc hB (by omega) _, Kept.of (by go_grown)⟩
  rintro X ⟨⟨H1, h2, hBX⟩, hb, hk⟩
  have H2 := Lib.hid h2
  clear H hB
  go_wp2_with (first
    | (go_at_call 92; refine (Machine_AddEnv o B0 a hb hBm hBh hmh hBB hmB hhB hBX hlen hu hr hc H1).mono ?_; rintro e w' ⟨v2, nv, rfl, hM, hB, hK⟩; have hD := hK.2 _ _ _ h2 (by decide) (by decide) (by decide); have hKw : Kept w w' := ⟨Nat.le_trans hk.1 hK.1, fun b cs t h0 n1 n2 n3 => hK.2 b cs t (hk.2 b cs t h0 n1 n2 n3) n1 n2 n3⟩; have HM := Lib.hid hM; have HB := Lib.hid hB; have HK := Lib.hid hKw; have HD := Lib.hid hD; have hDl := hD.lt; obtain ⟨⟨s0, s1, s2, s3, s4, s5, s6⟩, sf⟩ := hD.seven; clear hM hB hK hKw hD))
  have hl := fun ty dd hu hd hi => HasB.loads (P := Tryz.prog) (ty := ty) (HasB.set7 (v0 := .int .i64 0) (v1 := .int .i64 0) (v2 := .bool false) (v3 := .float .f64 0) (v4 := .string ⟨#[]⟩) (v5 := .int .i64 0) (v6 := .string ⟨#[]⟩) HD.out) dd hu hd hi
  replace hl := hl 37 _ rfl rfl (by kernel_rfl)
  exact bodyPost_ret (results_tmp_cell rfl rfl hl) rfl ⟨_, _, rfl, HM.out.but HD.out (by decide) (by decide) (by decide) (by decide) But.set7, below_set7 HB.out (by omega), HK.out.new But.set7 (Nat.le_refl _)⟩
end Go.Proofs.YtngodcoefmihlaaGreatDoor
