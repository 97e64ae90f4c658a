/-
  env.Lookup of a name. Conditions: the machine's cells are as said.
-/
import Derived.Test.YtngodcoefmihlaaGreatDoorEvValue
import Derived.Test.YtngodcoefmihlaaGreatDoorEvFind
namespace Go.Proofs.YtngodcoefmihlaaGreatDoor
open Go.RowKit
variable {m h B : Nat} {cM used : Int} {v : Value} {kn : Value × Value} {E : List EnvR} {W W' w : World}

attribute [local go_sem] build_done7
set_option maxHeartbeats 4000000 in
set_option maxRecDepth 100000 in
/-- Of no environment: a ReferenceError. -/
theorem env_Value_none (nm : ByteArray) (B0 : Nat) (a : World) (hB : Below B0 a w) (hBm : B0 ≤ m) (hBh : B0 ≤ h) (hmh : h ≠ m) (hu : 0 ≤ used) (hR : 1 ≤ cM - used) (hc : cM ≤ 16777216) (hkn : kn.2 = .slice none 0 0) (hK : KnAt w kn.1) (H : EvM m h B cM v kn E used w) :
    Calls Tryz.prog 98 #[.pointer (some ⟨m, 0, none⟩), .int .i64 (-1), .string nm] w fun e w' => ∃ l2, e = .returned (.agg throw7) ∧ EvM m h B cM v (kn.1, l2) E (used + 1) w' ∧ Below B0 a w' ∧ Kept w w' := by
  have hlm := H.ltm
  go_enter Tryz.func98, Tryz.ntmps98
  go_upto_region 1 with (fail)
  refine wp_gen (fun X => CreS w m h B cM v kn E used B0 a X ∧ KnAt X kn.1) ?_ ?_
  · exact ⟨⟨H.below (by go_grown), HasB.newAt rfl, Below.alloc hB (by omega) _, Kept.of (by go_grown)⟩, KnAt.below hK (by go_grown)⟩
  intro X hS0
  have hS := Lib.hid hS0.1
  have hKn := Lib.hid hS0.2
  clear hS0 H hB hK
  go_wp2_with (first
    | (go_at_call 93; refine (env_limit hS.out.1).mono ?_; rintro e w' ⟨rfl, k⟩; replace hS := Lib.hid (hS.out.go hBm k); replace hKn := Lib.hid (hKn.out.below k); clear k)
    | (go_at_call 94; refine (Machine_Env_none hS.out.1).mono ?_; rintro e w' ⟨rfl, k⟩; replace hS := Lib.hid (hS.out.go hBm k); replace hKn := Lib.hid (hKn.out.below k); clear k)
    | ((with_reducible refine at_store 138 ?_); refine wpList_storeB (HasB.new _ _ _) env0 rfl rfl rfl rfl rfl (by kernel_rfl) (by kernel_rfl) ?_; intro V h1 hk hoff; have kk := hk _ _ (Nat.le_refl _) (Below.alloc (Below.refl _ _) (Nat.le_refl _) _); replace hS := Lib.hid (hS.out.go hBm kk); replace hKn := Lib.hid (hKn.out.below kk); clear h1 hk hoff kk)
    | (go_at_call 77; refine (Machine_Fail 9 (by decide) B0 a hS.out.2.2.1 hBm hBh hmh hu hR hc hkn hKn.out hS.out.1).mono ?_; rintro e wF ⟨l2, rfl, hM, hB2, hK2⟩; have hT := Lib.hid (show CreS w m h B cM v (kn.1, l2) E (used + 1) B0 a wF from ⟨hM, hK2.2 _ _ _ hS.out.2.1 (by decide) (by decide) (by decide), hB2, ⟨Nat.le_trans hS.out.2.2.2.1 hK2.1, fun b cs t h0 n1 n2 n3 => hK2.2 b cs t (hS.out.2.2.2.2 b cs t h0 n1 n2 n3) n1 n2 n3⟩⟩); clear hM hB2 hK2)
    | ((with_reducible refine at_store 37 ?_); refine wpList_storeB hT.out.2.1 throw7 rfl rfl rfl rfl rfl (by kernel_rfl) (by kernel_rfl) ?_; intro Z h4 hk hoff; have HZ := Lib.hid h4; have HM := Lib.hid (hT.out.1.off hT.out.2.1 hoff); have HB := Lib.hid (hk _ _ (by omega) hT.out.2.2.1); have HK := Lib.hid (hT.out.2.2.2.off (hk _ _ (Nat.zero_le _) (Below.refl _ _)).size (Nat.le_refl _) hoff); clear h4 hk hoff)
    | ((with_reducible refine at_store 37 ?_); refine wpList_storeB (HasB.new _ _ _) done7 rfl rfl rfl rfl rfl (by kernel_rfl) (by kernel_rfl) ?_; intro V h1 hk hoff; have kk := hk _ _ (Nat.le_refl _) (Below.alloc (Below.refl _ _) (Nat.le_refl _) _); replace hS := Lib.hid (hS.out.go hBm kk); replace hKn := Lib.hid (hKn.out.below kk); clear h1 hk hoff kk))
  have hl4 := fun ty dd hu hd hi => HasB.loads (P := Tryz.prog) (ty := ty) HZ.out dd hu hd hi
  replace hl4 := hl4 37 _ rfl rfl (by kernel_rfl)
  exact bodyPost_ret (results_cell rfl rfl hl4) rfl ⟨_, rfl, HM.out, HB.out, HK.out⟩
set_option maxHeartbeats 4000000 in
set_option maxRecDepth 100000 in
theorem env_Lookup (nm : ByteArray) (i0 : Int) (c0 : Nat) (hi0 : i0 + 1 = (c0 : Int)) (hc0 : c0 ≤ E.length) (hch : Chain E) (hsz : Sizes E) (n : Nat) (hn : lastHas nm E c0 = n) (r : EnvR) (hr : E[n]? = some r) (j : Nat) (hh : bix nm r.l = some j) (b : Bnd) (hb : r.l[j]? = some b) (B0 : Nat) (a : World) (hB : Below B0 a w) (hBm : B0 ≤ m) (H : EvM m h B cM v kn E used w) :
    Calls Tryz.prog 39 #[.pointer (some ⟨m, 0, none⟩), .int .i64 i0, .string nm] w fun e w' => e = .returned (.agg (bnum7 b)) ∧ EvM m h B cM v kn E used w' ∧ Below B0 a w' ∧ Kept w w' := by
  have hlm := H.ltm
  have HN := Lib.hid hn
  have HHr := Lib.hid hr
  have HHh := Lib.hid hh
  have HHb := Lib.hid hb
  clear hn hr hh hb
  go_enter Tryz.func39, Tryz.ntmps39
  go_upto_region 1 with (fail)
  refine wp_gen (fun X => CreS w m h B cM v kn E used B0 a X) ?_ ?_
  · exact ⟨H.below (by go_grown), HasB.newAt rfl, Below.alloc hB (by omega) _, Kept.of (by go_grown)⟩
  intro X hS0
  have hS := Lib.hid hS0
  clear hS0 H hB
  go_wp2_with (first
    | (go_at_call 40; refine (env_Find nm i0 c0 hi0 hc0 hch hsz hS.out.1).mono ?_; rw [HN.out]; rintro e w' ⟨rfl, k⟩; replace hS := Lib.hid (hS.out.go hBm k); clear k)
    | (go_at_call 98; refine (env_Value n r nm HHr.out (hsz r (List.mem_of_getElem? HHr.out)) j HHh.out b HHb.out B0 a hS.out.2.2.1 hBm hS.out.1).mono ?_; rintro e wF ⟨rfl, hM, hB2, hK2⟩; replace hS := Lib.hid (show CreS w m h B cM v kn E used B0 a wF from ⟨hM, hK2.2 _ _ _ hS.out.2.1 (by decide) (by decide) (by decide), hB2, ⟨Nat.le_trans hS.out.2.2.2.1 hK2.1, fun b cs t h0 n1 n2 n3 => hK2.2 b cs t (hS.out.2.2.2.2 b cs t h0 n1 n2 n3) n1 n2 n3⟩⟩); clear hM hB2 hK2)
    | ((with_reducible refine at_store 37 ?_); refine wpList_storeB hS.out.2.1 (bnum7 b) rfl rfl rfl rfl rfl (by kernel_rfl) (by kernel_rfl) ?_; intro Z h4 hk hoff; have HZ := Lib.hid h4; have HM := Lib.hid (hS.out.1.off hS.out.2.1 hoff); have HB := Lib.hid (hk _ _ (by omega) hS.out.2.2.1); have HK := Lib.hid (hS.out.2.2.2.off (hk _ _ (Nat.zero_le _) (Below.refl _ _)).size (Nat.le_refl _) hoff); clear h4 hk hoff))
  have hl4 := fun ty dd hu hd hi => HasB.loads (P := Tryz.prog) (ty := ty) HZ.out dd hu hd hi
  replace hl4 := hl4 37 _ rfl rfl (by kernel_rfl)
  exact bodyPost_ret (results_cell rfl rfl hl4) rfl ⟨rfl, HM.out, HB.out, HK.out⟩
set_option maxHeartbeats 4000000 in
set_option maxRecDepth 100000 in
theorem env_Lookup_none (nm : ByteArray) (i0 : Int) (c0 : Nat) (hi0 : i0 + 1 = (c0 : Int)) (hc0 : c0 ≤ E.length) (hch : Chain E) (hsz : Sizes E) (hn : lastHas nm E c0 = -1) (B0 : Nat) (a : World) (hB : Below B0 a w) (hBm : B0 ≤ m) (hBh : B0 ≤ h) (hmh : h ≠ m) (hu : 0 ≤ used) (hR : 1 ≤ cM - used) (hc : cM ≤ 16777216) (hkn : kn.2 = .slice none 0 0) (hK : KnAt w kn.1) (H : EvM m h B cM v kn E used w) :
    Calls Tryz.prog 39 #[.pointer (some ⟨m, 0, none⟩), .int .i64 i0, .string nm] w fun e w' => ∃ l2, e = .returned (.agg throw7) ∧ EvM m h B cM v (kn.1, l2) E (used + 1) w' ∧ Below B0 a w' ∧ Kept w w' := by
  have hlm := H.ltm
  have HN := Lib.hid hn
  clear hn
  go_enter Tryz.func39, Tryz.ntmps39
  go_upto_region 1 with (fail)
  refine wp_gen (fun X => CreS w m h B cM v kn E used B0 a X ∧ KnAt X kn.1) ?_ ?_
  · exact ⟨⟨H.below (by go_grown), HasB.newAt rfl, Below.alloc hB (by omega) _, Kept.of (by go_grown)⟩, KnAt.below hK (by go_grown)⟩
  intro X hS0
  have hS := Lib.hid hS0.1
  have hKn := Lib.hid hS0.2
  clear hS0 H hB hK
  go_wp2_with (first
    | (go_at_call 40; refine (env_Find nm i0 c0 hi0 hc0 hch hsz hS.out.1).mono ?_; rw [HN.out]; rintro e w' ⟨rfl, k⟩; replace hS := Lib.hid (hS.out.go hBm k); replace hKn := Lib.hid (hKn.out.below k); clear k)
    | (go_at_call 98; refine (env_Value_none nm B0 a hS.out.2.2.1 hBm hBh hmh hu hR hc hkn hKn.out hS.out.1).mono ?_; rintro e wF ⟨l2, rfl, hM, hB2, hK2⟩; have hT := Lib.hid (show CreS w m h B cM v (kn.1, l2) E (used + 1) B0 a wF from ⟨hM, hK2.2 _ _ _ hS.out.2.1 (by decide) (by decide) (by decide), hB2, ⟨Nat.le_trans hS.out.2.2.2.1 hK2.1, fun b cs t h0 n1 n2 n3 => hK2.2 b cs t (hS.out.2.2.2.2 b cs t h0 n1 n2 n3) n1 n2 n3⟩⟩); clear hM hB2 hK2)
    | ((with_reducible refine at_store 37 ?_); refine wpList_storeB hT.out.2.1 throw7 rfl rfl rfl rfl rfl (by kernel_rfl) (by kernel_rfl) ?_; intro Z h4 hk hoff; have HZ := Lib.hid h4; have HM := Lib.hid (hT.out.1.off hT.out.2.1 hoff); have HB := Lib.hid (hk _ _ (by omega) hT.out.2.2.1); have HK := Lib.hid (hT.out.2.2.2.off (hk _ _ (Nat.zero_le _) (Below.refl _ _)).size (Nat.le_refl _) hoff); clear h4 hk hoff))
  have hl4 := fun ty dd hu hd hi => HasB.loads (P := Tryz.prog) (ty := ty) HZ.out dd hu hd hi
  replace hl4 := hl4 37 _ rfl rfl (by kernel_rfl)
  exact bodyPost_ret (results_cell rfl rfl hl4) rfl ⟨_, rfl, HM.out, HB.out, HK.out⟩
end Go.Proofs.YtngodcoefmihlaaGreatDoor
