/-
  env.Create of a name that is not there. Conditions: the machine's cells are as said; there is room.
-/
import Derived.Test.YtngodcoefmihlaaGreatDoorEvCreate
namespace Go.Proofs.YtngodcoefmihlaaGreatDoor
open Go.RowKit
variable {m h B : Nat} {cM used : Int} {v : Value} {kn : Value × Value} {E : List EnvR} {W W' w : World}

theorem build_bnd (nm : ByteArray) (w : World) : (Instr.build 143 #[(0, .string nm), (2, .bool true), (3, .bool true)]).run Tryz.prog w = .ok (.agg (bcells ⟨nm, 0, 0⟩).toArray) w := run_build w 143 _ _ (by kernel_rfl)
theorem EvM.on {X w5 : World} {u : Value} {n b0 : Nat} {xs : List Value} (H : EvM m h B cM v kn E used X) (hv : X.ownsRow b0 143 8 u n xs) (hlow : ∀ e ∈ E, ∀ b, e.nv.ownBlock = some b → b < b0) (hg : X.grownBy w5 u.ownBlock) : EvM m h B cM v kn E used w5 := by
  refine ⟨HasB.grownOther H.1 hv (by decide) hg, HasB.grownOther H.2.1 hv (by decide) hg, owns_grown H.2.2.1 hv (by decide) hg, fun e he => ?_⟩
  have h0 := H.2.2.2 e he
  refine World.ownsRow.kept h0 hg ?_
  rcases h0.2 with ⟨hu, -⟩ | ⟨g, cap, cur, hu, -, hgb, -⟩
  · exact .inl (by rw [hu]; rfl)
  · refine .inr fun e1 => ?_
    have e2 : e.nv.ownBlock = some g := by rw [hu]; rfl
    have := hlow e he g e2
    have := (World.ownsRow.lt hv g (e1.symm.trans e2)).1
    omega
theorem Kept.on {X w5 : World} {u : Value} {n : Nat} {xs : List Value} (x : Kept w X) (hv : X.ownsRow w.heap.size 143 8 u n xs) (hg : X.grownBy w5 u.ownBlock) : Kept w w5 :=
  ⟨Nat.le_trans x.1 hg.size, fun b cs t h0 h1 h2 h3 => by
    refine (hg.block b (x.2 b cs t h0 h1 h2 h3).lt ?_).trans (x.2 b cs t h0 h1 h2 h3)
    intro e1
    have := (World.ownsRow.lt hv b e1.symm).1
    have := h0.lt
    omega⟩
theorem EvM.low (H : EvM m h B cM v kn E used w) : ∀ e ∈ E, ∀ b, e.nv.ownBlock = some b → b < w.heap.size := fun e he b hb => (World.ownsRow.lt (H.2.2.2 e he) b hb).2
theorem EvM.lowv (H : EvM m h B cM v kn E used w) : ∀ b, v.ownBlock = some b → b < w.heap.size := fun b hb => (World.ownsRow.lt H.2.2.1 b hb).2
theorem owns_far {W : World} {base e size n : Nat} {v : Value} {xs : List Value} (h : W.ownsRow base e size v n xs) {b i : Nat} (hx : v.ownBlock ≠ some b) (u : Value) : (W.setCell ⟨b, i, none⟩ u).ownsRow base e size v n xs := by
  rcases h.2 with hn | ⟨g, cap, cur, hv, hb, hg, r⟩
  · exact ⟨h.1, .inl hn⟩
  · have hne : g ≠ b := by
      rintro rfl
      exact hx (by rw [hv]; rfl)
    exact ⟨h.1, .inr ⟨g, cap, cur, hv, hb, (Below.heap_setCell W _ u g hne).trans hg, r⟩⟩
theorem EvM.setEnv {d i : Nat} {u : Value} {cs : Array Value} (H : EvM m h B cM v kn E used W) (hx : HasB W d cs 138) (hv : v.ownBlock ≠ some d) : EvM m h B cM v kn E used (W.setCell ⟨d, i, none⟩ u) :=
  ⟨HasB.far H.1 (ne_types hx H.1 (by decide)) _, HasB.far H.2.1 (ne_types hx H.2.1 (by decide)) _, owns_far H.2.2.1 hv _, fun e he => owns_other (H.2.2.2 e he) hx (by decide) _⟩
theorem names_snoc {b0 : Nat} {v : Value} {l : List Bnd} {b : Bnd} (h : W.ownsRow b0 143 8 v (l.length + 1) (bflat l ++ bcells b)) : NamesFrom b0 W v (l ++ [b]) := by
  have e : bflat [b] = bcells b := List.append_nil _
  unfold NamesFrom
  rw [bflat_app, e, List.length_append]
  exact h
/-- On the way: .. and the environment that was told. -/
def CreN (w : World) (m h B : Nat) (cM : Int) (v : Value) (kn : Value × Value) (E : List EnvR) (used : Int) (B0 : Nat) (a : World) (d : Nat) (o : Int) (nv : Value) (l : List Bnd) (W : World) : Prop :=
  CreS w m h B cM v kn E used B0 a W ∧ HasB W d (env3 o nv) 138 ∧ NamesFrom w.heap.size W nv l
theorem CreN.app {B0 : Nat} {a Y w5 : World} {d : Nat} {o : Int} {nv nv2 : Value} {l l2 : List Bnd} {obj : Obj} (x : CreN w m h B cM v kn E used B0 a d o nv l Y) (hB : B0 ≤ w.heap.size) (hd : w.heap.size ≤ d) (hlv : ∀ b, v.ownBlock = some b → b < w.heap.size) (hlow : ∀ e ∈ E, ∀ b, e.nv.ownBlock = some b → b < w.heap.size) (hg : (Y.alloc obj).grownBy w5 nv.ownBlock) (h2 : NamesFrom w.heap.size w5 nv2 l2) :
    CreN w m h B cM v kn E used B0 a d o nv2 l2 (w5.setCell ⟨d, 2, none⟩ nv2) ∧ HasB w5 d (env3 o nv) 138 := by
  obtain ⟨⟨hM, hD, hb, hK⟩, hE, hN⟩ := x
  have ka : Below Y.heap.size Y (Y.alloc obj) := Below.alloc (Below.refl _ _) (Nat.le_refl _) _
  have hN' := owns_below hN ka
  have hE5 := HasB.grownOther (hE.below ka) hN' (by decide) hg
  have hD5 := HasB.grownOther (hD.below ka) hN' (by decide) hg
  have hM5 := (hM.below ka).on hN' hlow hg
  have hdd : w.heap.size ≠ d := by
    rintro rfl
    exact absurd (ne_types hD5 hE5 (by decide)) (by simp)
  have hno : ∀ c cs t, c ≠ d → HasB w5 c cs t → HasB (w5.setCell ⟨d, 2, none⟩ nv2) c cs t := fun c cs t hc hh => HasB.far hh hc _
  exact ⟨⟨⟨hM5.setEnv hE5 (fun e1 => by have := hlv d e1; omega), HasB.far hD5 hdd _, Below.setCell (below_grown hb (Nat.le_trans hB hK.1) hN hB hg) (Nat.le_trans hB hd) _, ((hK.below ka).on hN' hg).off (by simp) hd hno⟩, HasB.set3c hE5, owns_other h2 hE5 (by decide) _⟩, hE5⟩
attribute [local go_sem] build_done7 build_bnd
set_option maxHeartbeats 4000000 in
set_option maxRecDepth 100000 in
theorem env_Create_new (n : Nat) (r : EnvR) (nm : ByteArray) (hr : E[n]? = some r) (hl : r.l.length ≤ 1048575) (hh : bhas nm r.l = false) (B0 : Nat) (a : World) (hB : Below B0 a w) (hBm : B0 ≤ m) (hBh : B0 ≤ h) (hmh : h ≠ m) (hBB : B0 ≤ B) (hu : 0 ≤ used) (hR : 1 ≤ cM - used) (hc : cM ≤ 16777216) (H : EvM m h B cM v kn E used w) :
    Calls Tryz.prog 37 #[.pointer (some ⟨m, 0, none⟩), .int .i64 n, .string nm, .bool true] w fun e w' => ∃ nv2, e = .returned (doneN 0 false 0 ⟨#[]⟩ 0) ∧ EvM m h B cM v kn (E.set n ⟨r.outer, nv2, r.l ++ [⟨nm, 0, 0⟩]⟩) (used + 1) w' ∧ Below B0 a w' ∧ Kept w w' := by
  have hlm := H.ltm
  go_enter Tryz.func37, Tryz.ntmps37
  go_upto_region 1 with (fail)
  refine wp_gen (fun X => CreS w m h B cM v kn E used B0 a X) ?_ ?_
  · exact ⟨H.below (by go_grown), HasB.newAt rfl, Below.alloc hB (by omega) _, Kept.of (by go_grown)⟩
  intro X hS0
  have hS := Lib.hid hS0
  have H1 := H
  clear hS0 H hB
  go_upto_region 8 with (first
    | (go_at_call 93; refine (env_limit hS.out.1).mono ?_; rintro e w' ⟨rfl, k⟩; replace hS := Lib.hid (hS.out.go hBm k); clear k)
    | ((with_reducible refine at_store 37 ?_); refine wpList_storeB (HasB.new _ _ _) done7 rfl rfl rfl rfl rfl (by kernel_rfl) (by kernel_rfl) ?_; intro V h1 hk hoff; have kk := hk _ _ (Nat.le_refl _) (Below.alloc (Below.refl _ _) (Nat.le_refl _) _); replace hS := Lib.hid (hS.out.go hBm kk); clear h1 hk hoff kk)
    | (go_at_call 94; refine (Machine_Env n r hr (by omega) hS.out.1).mono ?_; rintro e wE ⟨v', rfl, hN', k⟩; replace hN' : NamesFrom w.heap.size wE v' r.l := owns_le hN' hS.out.2.2.2.1; obtain ⟨a2, c2, rfl⟩ := names_shape hN'.at; replace hS := Lib.hid (hS.out.go hBm k); have hdE := hS.out.2.2.2.1; have HN := Lib.hid hN'; clear k hN')
    | ((with_reducible refine at_store 138 ?_); refine wpList_storeB (HasB.new _ _ _) (env3 r.outer (.slice a2 r.l.length c2)) rfl rfl rfl rfl rfl (by kernel_rfl) (by kernel_rfl) ?_; intro V h1 hk hoff; have kk := hk _ _ (Nat.le_refl _) (Below.alloc (Below.refl _ _) (Nat.le_refl _) _); replace hS := Lib.hid (hS.out.go hBm kk); have H11 := Lib.hid h1; replace HN := Lib.hid (owns_below HN.out kk); clear h1 hk hoff kk)
    | ((with_reducible refine at_load 138 ?_); refine wpList_loadB H11.out _ rfl rfl rfl rfl rfl (by kernel_rfl) ?_)
    | (go_at_call 95; refine (env_has _ r.outer (.slice a2 r.l.length c2) r.l nm _ (by omega) (NamesFrom.at HN.out)).mono ?_; rw [hh]; rintro e w' ⟨rfl, k⟩; replace hS := Lib.hid (hS.out.go hBm k); have H12 := H11.out.below k; clear H11; have e0 := H12.cell 0; have e1 := H12.cell 1; have e2 := H12.cell 2; replace HN := Lib.hid (owns_below HN.out k); have H11 := Lib.hid H12; clear H12 k))
  have hEl := hS.out.2.2.2.1
  have hlow := H1.low
  have hlv := H1.lowv
  refine wp_gen (fun Y => CreN w m h B cM v kn E used B0 a _ r.outer (.slice a2 r.l.length c2) r.l Y) ⟨hS.out, H11.out, HN.out⟩ ?_
  clear hS HN H11 e0 e1 e2 H1 hh
  intro Y hY
  obtain ⟨i0, hi, hz0, hz1, hz2⟩ := info_parts info_bnd
  have e2 := hY.2.1.cell 2
  have hYs := hY.1.2.2.2.1
  go_upto_region 9 with (at_builtin; go_must (refine wpList_append_own _ rfl _ _ 136 rfl w.heap.size 143 i0 _ 8 72 Tryz.underlying136 hi hz0 hz1 hz2 rfl (by decide) (.slice a2 r.l.length c2) r.l.length (bflat r.l) rfl (owns_below hY.2.2 (Below.alloc (Below.refl _ _) (Nat.le_refl _) _)) ⟨Y.heap.size, 0, none⟩ 1 1 (bcells ⟨nm, 0, 0⟩) rfl rfl (World.news_of_block (cs := (bcells ⟨nm, 0, 0⟩).toArray) (t := 143) (fr := (0, 0)) (heap_alloc_new Y _)) (by simp [Value.oneCell']) (by unfold maxLen; omega) (by omega) (by simp; omega) ?_))
  intro v5 w5 hown hg hnil
  have h2 := names_snoc hown
  obtain ⟨a5, c5, rfl⟩ := names_shape h2.at
  have hX := hY.app (by omega) hdE hlv hlow hg h2
  have c2' := hX.2.cell 2
  have f2 := hX.2.free 2
  have HX := Lib.hid hX.1
  clear hX hown hg h2 hnil
  go_upto_region 9 with (fail)
  have HX2 := HX.out
  simp only [List.length_append, List.length_singleton] at HX2
  refine wp_gen (fun Z => CreN w m h B cM v kn E used B0 a wE.heap.size r.outer (.slice a5 (r.l.length + 1) c5) (r.l ++ [⟨nm, 0, 0⟩]) Z) HX2 ?_
  clear HX HX2 c2' f2 e2 hY
  intro Z hZ
  have hl2 : (r.l ++ [(⟨nm, 0, 0⟩ : Bnd)]).length = r.l.length + 1 := by simp
  go_wp2_with (first
    | ((with_reducible refine at_load 138 ?_); refine wpList_loadB hZ.2.1 _ rfl rfl rfl rfl rfl (by kernel_rfl) ?_)
    | (go_at_call 96; refine (Machine_SetEnv1 n r r.outer (.slice a5 (r.l.length + 1) c5) (r.l ++ [⟨nm, 0, 0⟩]) hr hl2 (by omega) B0 a hZ.1.2.2.1 hBm hBh hmh hBB hu hR hc hZ.2.2.at hZ.1.1).mono ?_; rintro e wS ⟨nv2, rfl, hM, hB, hK⟩; have HK := Lib.hid (⟨Nat.le_trans hZ.1.2.2.2.1 hK.1, fun b cs t h0 n1 n2 n3 => hK.2 b cs t (hZ.1.2.2.2.2 b cs t h0 n1 n2 n3) n1 n2 n3⟩ : Kept w wS); have HD := Lib.hid (hK.2 _ _ _ hZ.1.2.1 (by decide) (by decide) (by decide)); have HM := Lib.hid hM; have HB := Lib.hid hB; clear hM hB hK)
    | ((with_reducible refine at_store 37 ?_); go_must (refine wpList_storeB HD.out done7 rfl rfl rfl rfl rfl (by kernel_rfl) (by kernel_rfl) ?_; intro Z2 h4 hk hoff; have HZ := Lib.hid h4; have HM2 := Lib.hid (HM.out.off HD.out hoff); have HB2 := Lib.hid (hk _ _ (by omega) HB.out); have HK2 := Lib.hid (Kept.off HK.out (hk _ _ (Nat.zero_le _) (Below.refl _ _)).size (Nat.le_refl _) hoff); clear h4 hk hoff)))
  have hl4 := fun ty dd hu hd hi => HasB.loads (P := Tryz.prog) (ty := ty) HZ.out dd hu hd hi
  replace hl4 := hl4 37 _ rfl rfl (by kernel_rfl)
  exact bodyPost_ret (results_cell rfl rfl hl4) rfl ⟨nv2, rfl, HM2.out, HB2.out, HK2.out⟩
end Go.Proofs.YtngodcoefmihlaaGreatDoor
