/-
  env.Value of a name that is there; of no environment. Conditions: the machine's cells are as said.
-/
import Derived.Test.YtngodcoefmihlaaGreatDoorEvFail
namespace Go.Proofs.YtngodcoefmihlaaGreatDoor
open Go.RowKit
variable {m h B : Nat} {cM used : Int} {v : Value} {kn : Value × Value} {E : List EnvR} {W W' w : World}

theorem below_old8 {Y w9 : World} {o : Obj} {v0 v1 v2 v3 v4 v5 v6 v7 : Value} {n : Nat} (hn : n = Y.heap.size) (k : Below (Y.alloc o).heap.size (Y.alloc o) w9) : Below Y.heap.size Y (((((((((w9.setCell ⟨n, 0, none⟩ v0).setCell ⟨n, 1, none⟩ v1).setCell ⟨n, 2, none⟩ v2).setCell ⟨n, 3, none⟩ v3).setCell ⟨n, 4, none⟩ v4).setCell ⟨n, 5, none⟩ v5).setCell ⟨n, 6, none⟩ v6).setCell ⟨n, 7, none⟩ v7)) := by
  subst hn
  exact Below.setCell (Below.setCell (Below.setCell (Below.setCell (Below.setCell (Below.setCell (Below.setCell (Below.setCell ((Below.alloc (Below.refl _ _) (Nat.le_refl _) _).trans (k.mono (by simp))) (Nat.le_refl _) _) (Nat.le_refl _) _) (Nat.le_refl _) _) (Nat.le_refl _) _) (Nat.le_refl _) _) (Nat.le_refl _) _) (Nat.le_refl _) _) (Nat.le_refl _) _
theorem HasB.old8 {Y w9 : World} {t : TypeId} {a0 a1 a2 a3 a4 a5 a6 a7 v0 v1 v2 v3 v4 v5 v6 v7 : Value} {n : Nat} (hn : n = Y.heap.size) (k : Below (Y.alloc (.cells #[a0, a1, a2, a3, a4, a5, a6, a7] t)).heap.size (Y.alloc (.cells #[a0, a1, a2, a3, a4, a5, a6, a7] t)) w9) : HasB (((((((((w9.setCell ⟨n, 0, none⟩ v0).setCell ⟨n, 1, none⟩ v1).setCell ⟨n, 2, none⟩ v2).setCell ⟨n, 3, none⟩ v3).setCell ⟨n, 4, none⟩ v4).setCell ⟨n, 5, none⟩ v5).setCell ⟨n, 6, none⟩ v6).setCell ⟨n, 7, none⟩ v7)) n #[v0, v1, v2, v3, v4, v5, v6, v7] t := by
  have h := (HasB.set (HasB.set (HasB.set (HasB.set (HasB.set (HasB.set (HasB.set (HasB.set (HasB.below (HasB.newAt hn (cs := #[a0, a1, a2, a3, a4, a5, a6, a7]) (t := t)) k) 0 v0) 1 v1) 2 v2) 3 v3) 4 v4) 5 v5) 6 v6) 7 v7)
  simp at h
  exact h
abbrev bnum7 (b : Bnd) : Array Value := #[.int .i64 0, .int .i64 b.k, .bool false, .float .f64 b.n, .string ⟨#[]⟩, .int .i64 0, .string ⟨#[]⟩]
theorem build_doneV (b : Bnd) (w : World) : (Instr.build 37 #[(1, .agg #[.int .i64 b.k, .bool false, .float .f64 b.n, .string ⟨#[]⟩, .int .i64 0])]).run Tryz.prog w = .ok (.agg (bnum7 b)) w := run_build w 37 _ _ (by kernel_rfl)
attribute [local go_sem] build_done7 build_doneV
set_option maxHeartbeats 4000000 in
set_option maxRecDepth 100000 in
theorem env_Value (n : Nat) (r : EnvR) (nm : ByteArray) (hr : E[n]? = some r) (hl : r.l.length ≤ 1048575) (j : Nat) (hh : bix nm r.l = some j) (b : Bnd) (hb : r.l[j]? = some b) (B0 : Nat) (a : World) (hB : Below B0 a w) (hBm : B0 ≤ m) (H : EvM m h B cM v kn E used w) :
    Calls Tryz.prog 98 #[.pointer (some ⟨m, 0, none⟩), .int .i64 n, .string nm] w fun e w' => e = .returned (.agg (bnum7 b)) ∧ EvM m h B cM v kn E used w' ∧ Below B0 a w' ∧ Kept w w' := by
  have hlm := H.ltm
  go_enter Tryz.func98, Tryz.ntmps98
  go_upto_region 1 with (fail)
  refine wp_gen (fun X => CreS w m h B cM v kn E used B0 a X) ?_ ?_
  · exact ⟨H.below (by go_grown), HasB.newAt rfl, Below.alloc hB (by omega) _, Kept.of (by go_grown)⟩
  intro X hS0
  have hS := Lib.hid hS0
  clear hS0 H hB
  have hjl := bix_lt nm r.l j hh
  have hbj : r.l[j] = b := (List.getElem?_eq_some_iff.1 hb).2
  have hj1 : ¬ ((j : Int) < 0) := by omega
  have hj2 : (j : Int) < (r.l.length : Int) := by omega
  have hp : bplace nm r.l = j := by simp [bplace, hh]
  have hbs : bhas nm r.l = true := by simp [bhas, hh]
  clear hb
  go_upto_region 9 with (first
    | (go_at_call 93; refine (env_limit hS.out.1).mono ?_; rintro e w' ⟨rfl, k⟩; replace hS := Lib.hid (hS.out.go hBm k); clear k)
    | ((with_reducible refine at_store 37 ?_); refine wpList_storeB (HasB.new _ _ _) done7 rfl rfl rfl rfl rfl (by kernel_rfl) (by kernel_rfl) ?_; intro V h1 hk hoff; have kk := hk _ _ (Nat.le_refl _) (Below.alloc (Below.refl _ _) (Nat.le_refl _) _); replace hS := Lib.hid (hS.out.go hBm kk); clear h1 hk hoff kk)
    | (go_at_call 94; refine (Machine_Env n r hr (by omega) hS.out.1).mono ?_; rintro e wE ⟨v', rfl, hN', k⟩; obtain ⟨g, c2, rfl, hgB⟩ := names_some hN' hjl; replace hS := Lib.hid (hS.out.go hBm k); have HN := Lib.hid hN'; clear k hN')
    | ((with_reducible refine at_store 138 ?_); refine wpList_storeB (HasB.new _ _ _) (env3 r.outer (.slice (some ⟨g, 0, none⟩) r.l.length c2)) rfl rfl rfl rfl rfl (by kernel_rfl) (by kernel_rfl) ?_; intro V h1 hk hoff; have kk := hk _ _ (Nat.le_refl _) (Below.alloc (Below.refl _ _) (Nat.le_refl _) _); replace hS := Lib.hid (hS.out.go hBm kk); have H11 := Lib.hid h1; replace HN := Lib.hid (owns_below HN.out kk); clear h1 hk hoff kk)
    | ((with_reducible refine at_load 138 ?_); refine wpList_loadB H11.out _ rfl rfl rfl rfl rfl (by kernel_rfl) ?_)
    | (go_at_call 95; refine (env_has _ r.outer (.slice (some ⟨g, 0, none⟩) r.l.length c2) r.l nm _ (by omega) (NamesFrom.at HN.out)).mono ?_; rw [hbs]; rintro e w' ⟨rfl, k⟩; replace hS := Lib.hid (hS.out.go hBm k); have H12 := H11.out.below k; clear H11; have e1 : w'.cell? ⟨wE.heap.size, 1, none⟩ = some (.int .i64 (-1)) := H12.cell 1; replace HN := Lib.hid (owns_below HN.out k); have H11 := Lib.hid H12; clear H12 k))
  refine wp_gen (fun Y => (CreS w m h B cM v kn E used B0 a Y ∧ HasB Y wE.heap.size (env3 r.outer (.slice (some ⟨g, 0, none⟩) r.l.length c2)) 138) ∧ NamesAt Y (.slice (some ⟨g, 0, none⟩) r.l.length c2) r.l) ⟨⟨hS.out, H11.out⟩, NamesFrom.at HN.out⟩ ?_
  clear hS HN H11 e1
  rintro Y ⟨⟨hS0, hE⟩, hN⟩
  have hS := Lib.hid (show CreS w m h B cM v kn E used B0 a Y.drew from ⟨hS0.1, hS0.2.1, Below.drew hS0.2.2.1, hS0.2.2.2⟩)
  have e0 : Y.cell? ⟨wE.heap.size, 0, none⟩ = some (.int .i64 r.outer) := hE.cell 0
  have e1 : Y.cell? ⟨wE.heap.size, 1, none⟩ = some (.int .i64 (-1)) := hE.cell 1
  have e2 : Y.cell? ⟨wE.heap.size, 2, none⟩ = some (.slice (some ⟨g, 0, none⟩) r.l.length c2) := hE.cell 2
  obtain ⟨nc, nf, nl⟩ := names_cells hN hjl
  rw [hbj] at nc
  have n0 : Y.cell? ⟨g, j * 8, none⟩ = some (.string b.nm) := nc 0 _ (by decide) rfl
  have n1 := nc 1 _ (by decide) rfl
  have n2 := nc 2 _ (by decide) rfl
  have n3 := nc 3 _ (by decide) rfl
  have n4 := nc 4 _ (by decide) rfl
  have n5 := nc 5 _ (by decide) rfl
  have n6 := nc 6 _ (by decide) rfl
  have n7 := nc 7 _ (by decide) rfl
  have HN := Lib.hid (show NamesAt Y.drew (.slice (some ⟨g, 0, none⟩) r.l.length c2) r.l from hN)
  have hEl := hE.lt
  clear nc hS0 hE hN hbj
  go_region_law (first
    | ((go_simp; go_at_call 97; refine (env_place r.outer (.slice (some ⟨g, 0, none⟩) r.l.length c2) r.l nm _ (by omega) HN.out).mono ?_; rw [hp]; rintro e w9 ⟨rfl, k⟩; have e29 := below_keep k e2; have n09 := below_keep k n0; have n19 := below_keep k n1; have n29 := below_keep k n2; have n39 := below_keep k n3; have n49 := below_keep k n4; have n59 := below_keep k n5; have n69 := below_keep k n6; have n79 := below_keep k n7; have g9 : g < w9.heap.size := Nat.lt_of_lt_of_le nl k.size; have E9 : wE.heap.size < w9.heap.size := Nat.lt_of_lt_of_le hEl k.size; have k9 := Lib.hid k; clear k))
    | (go_must (go_simp; go_at_call 97; refine (env_place r.outer (.slice (some ⟨g, 0, none⟩) r.l.length c2) r.l nm _ (by omega) (owns_below HN.out (Below.alloc (Below.refl _ _) (Nat.le_refl _) _))).mono ?_; rw [hp]; rintro e y9 ⟨rfl, k⟩; have e29 := below_keep k (Lib.cell?_alloc_some _ e2); have n09 := below_keep k (Lib.cell?_alloc_some _ n0); have n19 := below_keep k (Lib.cell?_alloc_some _ n1); have n29 := below_keep k (Lib.cell?_alloc_some _ n2); have n39 := below_keep k (Lib.cell?_alloc_some _ n3); have n49 := below_keep k (Lib.cell?_alloc_some _ n4); have n59 := below_keep k (Lib.cell?_alloc_some _ n5); have n69 := below_keep k (Lib.cell?_alloc_some _ n6); have n79 := below_keep k (Lib.cell?_alloc_some _ n7); have g9 : g < y9.heap.size := Nat.lt_of_lt_of_le nl (Nat.le_trans (by simp) k.size); have E9 : wE.heap.size < y9.heap.size := Nat.lt_of_lt_of_le hEl (Nat.le_trans (by simp) k.size); have hD9 := (HasB.drew (HasB.new Y _ _)).below k; have d0 := hD9.cell 0; have d1 := hD9.cell 1; have d2 := hD9.cell 2; have d3 := hD9.cell 3; have d4 := hD9.cell 4; have d5 := hD9.cell 5; have d6 := hD9.cell 6; have d7 := hD9.cell 7; have df := hD9.free; have dl := hD9.lt; clear hD9; have K9 := Lib.hid k; clear k)))
  all_goals (
    first
      | refine end_gen (fun Z => CreS w m h B cM v kn E used B0 a Z ∧ HasB Z w9.heap.size (bcells b).toArray 143) ⟨(hS.out.go hBm k9.out).go hBm (Below.alloc (Below.refl _ _) (Nat.le_refl _) _), HasB.newAt rfl⟩ ?_
      | refine end_gen (fun Z => CreS w m h B cM v kn E used B0 a Z ∧ HasB Z Y.heap.size (bcells b).toArray 143) ⟨hS.out.go hBm (below_old8 (Y := Y.drew) rfl K9.out), HasB.old8 (Y := Y.drew) rfl K9.out⟩ ?_
    try clear K9
    try clear k9
    try clear d0 d1 d2 d3 d4 d5 d6 d7 df dl
    clear e0 e1 e2 n0 n1 n2 n3 n4 n5 n6 n7 e29 n09 n19 n29 n39 n49 n59 n69 n79 g9 E9 hS HN nf nl
    rintro Z ⟨hS0, hZ⟩
    have hS := Lib.hid hS0
    have z1 := hZ.cell 1
    have z2 := hZ.cell 2
    have z3 := hZ.cell 3
    have z4 := hZ.cell 4
    have z5 := hZ.cell 5
    have z7 := hZ.cell 7
    clear hS0 hZ
    go_wp2_with ((with_reducible refine at_store 37 ?_); refine wpList_storeB hS.out.2.1 (bnum7 b) rfl rfl rfl rfl rfl (by kernel_rfl) (by kernel_rfl) ?_; intro Z2 h4 hk hoff; have HZ := Lib.hid h4; have HM := Lib.hid (hS.out.1.off hS.out.2.1 hoff); have HB := Lib.hid (hk _ _ (by omega) hS.out.2.2.1); have HK := Lib.hid (hS.out.2.2.2.off (hk _ _ (Nat.zero_le _) (Below.refl _ _)).size (Nat.le_refl _) hoff); clear h4 hk hoff)
    have hl4 := fun ty dd hu hd hi => HasB.loads (P := Tryz.prog) (ty := ty) HZ.out dd hu hd hi
    replace hl4 := hl4 37 _ rfl rfl (by kernel_rfl)
    exact bodyPost_ret (results_cell rfl rfl hl4) rfl ⟨rfl, HM.out, HB.out, HK.out⟩)
end Go.Proofs.YtngodcoefmihlaaGreatDoor
