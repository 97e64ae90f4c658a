/-
  env.Create of a name. Conditions: the machine's cells are as said; there is room.
-/
import Derived.Test.YtngodcoefmihlaaGreatDoorEvNew
namespace Go.Proofs.YtngodcoefmihlaaGreatDoor
open Go.RowKit
variable {m h B : Nat} {cM used : Int} {v : Value} {kn : Value × Value} {E : List EnvR} {W W' w : World}

theorem build_done7 (w : World) : (Instr.build 37 #[]).run Tryz.prog w = .ok (.agg done7) w := run_build w 37 #[] _ (by kernel_rfl)
theorem ne_types {X : World} {b c : Nat} {cs cs' : Array Value} {t t' : TypeId} (h1 : HasB X b cs t) (h2 : HasB X c cs' t') (ht : t ≠ t') : c ≠ b := by
  rintro rfl
  have e1 := h1.symm.trans h2
  simp only [Option.some.injEq, Obj.cells.injEq] at e1
  exact ht e1.2.1
theorem EvM.off {Z : World} {d : Nat} {cs : Array Value} (H : EvM m h B cM v kn E used W) (hx : HasB W d cs 37) (hoff : ∀ c cs t, c ≠ d → HasB W c cs t → HasB Z c cs t) : EvM m h B cM v kn E used Z :=
  ⟨hoff _ _ _ (ne_types hx H.1 (by decide)) H.1, hoff _ _ _ (ne_types hx H.2.1 (by decide)) H.2.1, owns_off H.2.2.1 hx (by decide) hoff, fun e he => owns_off (H.2.2.2 e he) hx (by decide) hoff⟩
theorem Kept.off {Z : World} {d : Nat} (x : Kept w W) (hs : W.heap.size ≤ Z.heap.size) (hd : w.heap.size ≤ d) (hoff : ∀ c cs t, c ≠ d → HasB W c cs t → HasB Z c cs t) : Kept w Z :=
  ⟨Nat.le_trans x.1 hs, fun b cs t h0 h1 h2 h3 => hoff b cs t (by have := h0.lt; omega) (x.2 b cs t h0 h1 h2 h3)⟩
/-- On the way: the machine, the answer's cells, the frame. -/
def CreS (w : World) (m h B : Nat) (cM : Int) (v : Value) (kn : Value × Value) (E : List EnvR) (used : Int) (B0 : Nat) (a : World) (W : World) : Prop :=
  EvM m h B cM v kn E used W ∧ HasB W w.heap.size done7 37 ∧ Below B0 a W ∧ Kept w W
theorem CreS.go {B0 : Nat} {a : World} (x : CreS w m h B cM v kn E used B0 a W) (hBm : B0 ≤ m) (k : Below W.heap.size W W') : CreS w m h B cM v kn E used B0 a W' :=
  ⟨x.1.below k, x.2.1.below k, below_via k x.2.2.1 (Nat.le_trans hBm (Nat.le_of_lt x.1.ltm)), x.2.2.2.below k⟩
attribute [local go_sem] build_done7
set_option maxHeartbeats 4000000 in
set_option maxRecDepth 100000 in
theorem env_Create_has (n : Nat) (r : EnvR) (nm : ByteArray) (hr : E[n]? = some r) (hl : r.l.length ≤ 1048576) (hh : bhas nm r.l = true) (B0 : Nat) (a : World) (hB : Below B0 a w) (hBm : B0 ≤ m) (H : EvM m h B cM v kn E used w) :
    Calls Tryz.prog 37 #[.pointer (some ⟨m, 0, none⟩), .int .i64 n, .string nm, .bool true] w fun e w' => e = .returned (.agg done7) ∧ EvM m h B cM v kn E used w' ∧ Below B0 a w' ∧ Kept w w' := by
  have hlm := H.ltm
  go_enter Tryz.func37, Tryz.ntmps37
  go_upto_region 1 with (fail)
  refine wp_gen (fun X => CreS w m h B cM v kn E used B0 a X) ?_ ?_
  · exact ⟨H.below (by go_grown), HasB.newAt rfl, Below.alloc hB (by omega) _, Kept.of (by go_grown)⟩
  intro X hS0
  have hS := Lib.hid hS0
  clear hS0 H hB
  go_upto_region 6 with (first
    | (go_at_call 93; refine (env_limit hS.out.1).mono ?_; rintro e w' ⟨rfl, k⟩; replace hS := Lib.hid (hS.out.go hBm k); clear k)
    | ((with_reducible refine at_store 37 ?_); refine wpList_storeB (HasB.new _ _ _) done7 rfl rfl rfl rfl rfl (by kernel_rfl) (by kernel_rfl) ?_; intro V h1 hk hoff; have kk := hk _ _ (Nat.le_refl _) (Below.alloc (Below.refl _ _) (Nat.le_refl _) _); replace hS := Lib.hid (hS.out.go hBm kk); clear h1 hk hoff kk)
    | (go_at_call 94; refine (Machine_Env n r hr hl hS.out.1).mono ?_; rintro e w' ⟨v', rfl, hN', k⟩; obtain ⟨a2, c2, rfl⟩ := names_shape hN'.at; replace hS := Lib.hid (hS.out.go hBm k); have HN := Lib.hid hN'.at; clear k hN')
    | ((with_reducible refine at_store 138 ?_); refine wpList_storeB (HasB.new _ _ _) (env3 r.outer (.slice a2 r.l.length c2)) rfl rfl rfl rfl rfl (by kernel_rfl) (by kernel_rfl) ?_; intro V h1 hk hoff; have kk := hk _ _ (Nat.le_refl _) (Below.alloc (Below.refl _ _) (Nat.le_refl _) _); replace hS := Lib.hid (hS.out.go hBm kk); have H11 := Lib.hid h1; replace HN := Lib.hid (HN.out.below kk); clear h1 hk hoff kk)
    | ((with_reducible refine at_load 138 ?_); refine wpList_loadB H11.out _ rfl rfl rfl rfl rfl (by kernel_rfl) ?_)
    | (go_at_call 95; refine (env_has _ r.outer (.slice a2 r.l.length c2) r.l nm _ hl HN.out).mono ?_; rw [hh]; rintro e w' ⟨rfl, k⟩; replace hS := Lib.hid (hS.out.go hBm k); clear k))
  go_wp2_with ((with_reducible refine at_store 37 ?_); refine wpList_storeB hS.out.2.1 done7 rfl rfl rfl rfl rfl (by kernel_rfl) (by kernel_rfl) ?_; intro Z h4 hk hoff; have HZ := Lib.hid h4; have HM := Lib.hid (hS.out.1.off hS.out.2.1 hoff); have HB := Lib.hid (hk _ _ (by omega) hS.out.2.2.1); have HK := Lib.hid (hS.out.2.2.2.off (hk _ _ (Nat.zero_le _) (Below.refl _ _)).size (Nat.le_refl _) hoff); clear h4 hk hoff)
  have hl4 := fun ty dd hu hd hi => HasB.loads (P := Tryz.prog) (ty := ty) HZ.out dd hu hd hi
  replace hl4 := hl4 37 _ rfl rfl (by kernel_rfl)
  exact bodyPost_ret (results_cell rfl rfl hl4) rfl ⟨rfl, HM.out, HB.out, HK.out⟩
end Go.Proofs.YtngodcoefmihlaaGreatDoor
