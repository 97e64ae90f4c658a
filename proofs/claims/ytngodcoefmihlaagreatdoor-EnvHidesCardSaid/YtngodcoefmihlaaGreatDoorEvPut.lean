/-
  env.Set of a name that is there. Conditions: the machine's cells are as said.
-/
import Derived.Test.YtngodcoefmihlaaGreatDoorEvCreateN
import Derived.Test.YtngodcoefmihlaaGreatDoorEvPlain
namespace Go.Proofs.YtngodcoefmihlaaGreatDoor
open Go.RowKit
variable {m h B : Nat} {cM used : Int} {v : Value} {kn : Value × Value} {E : List EnvR} {W W' w : World}

abbrev num5 (f : Nat) : Array Value := #[.int .i64 3, .bool false, .float .f64 f, .string ⟨#[]⟩, .int .i64 0]
/-- On the way: the machine, the value handed in, the answer's cells, the frame. -/
def PutS (w : World) (m h B : Nat) (cM : Int) (v : Value) (kn : Value × Value) (E : List EnvR) (used : Int) (f : Nat) (B0 : Nat) (a : World) (W : World) : Prop :=
  EvM m h B cM v kn E used W ∧ HasB W w.heap.size (num5 f) 35 ∧ HasB W (w.heap.size + 1) done7 37 ∧ Below B0 a W ∧ Kept w W
theorem PutS.go {f B0 : Nat} {a : World} (x : PutS w m h B cM v kn E used f B0 a W) (hBm : B0 ≤ m) (k : Below W.heap.size W W') : PutS w m h B cM v kn E used f B0 a W' :=
  ⟨x.1.below k, x.2.1.below k, x.2.2.1.below k, below_via k x.2.2.2.1 (Nat.le_trans hBm (Nat.le_of_lt x.1.ltm)), x.2.2.2.2.below k⟩
theorem bix_lt (nm : ByteArray) : ∀ (l : List Bnd) (j : Nat), bix nm l = some j → j < l.length
  | [], _, h => by simp [bix] at h
  | b :: r, j, h => by
    unfold bix at h
    split at h
    · have : j = 0 := by simpa using h.symm
      simp; omega
    · cases h2 : bix nm r with
      | none => rw [h2] at h; simp at h
      | some i =>
        rw [h2] at h
        have := bix_lt nm r i h2
        have : i + 1 = j := by simpa using h
        simp; omega
theorem names_some {b0 : Nat} {v : Value} {l : List Bnd} {j : Nat} (h : NamesFrom b0 W v l) (hj : j < l.length) : ∃ g c, v = .slice (some ⟨g, 0, none⟩) l.length c ∧ b0 ≤ g := by
  rcases h.2 with ⟨-, hn⟩ | ⟨g, cap, cur, hv, hb, -⟩
  · omega
  · exact ⟨g, cap, hv, hb⟩
theorem names_cells {b0 g c : Nat} {l : List Bnd} {j : Nat} (h : W.ownsRow b0 143 8 (.slice (some ⟨g, 0, none⟩) l.length c) l.length (bflat l)) (hj : j < l.length) :
    (∀ i u, i < 8 → (bcells l[j])[i]? = some u → W.cell? ⟨g, j * 8 + i, none⟩ = some u) ∧ (∀ o, W.frozen? ⟨g, o, none⟩ = false) ∧ g < W.heap.size := by
  refine ⟨fun i u hi hu => ?_, ?_⟩
  · rw [World.ownsRow.cellAt (g := g) (cap := c) h (j * 8 + i) (by omega), bflat_get l j i hi, List.getElem?_eq_getElem hj]
    exact hu
  · rcases h.2 with ⟨hv, hn⟩ | ⟨g', cap, cur, hv, hb, hg, -⟩
    · cases hv
    · simp only [Value.slice.injEq, Option.some.injEq, Addr.mk.injEq, and_true, true_and] at hv
      obtain ⟨rfl, rfl⟩ := hv
      exact ⟨fun o => by simp [World.frozen?, hg], (Array.getElem?_eq_some_iff.1 hg).1⟩
theorem bflat_set (nm : ByteArray) (f : Nat) : ∀ (l : List Bnd) (j : Nat), bix nm l = some j → ((((((bflat l).set (j * 8 + 1) (.int .i64 3)).set (j * 8 + 2) (.bool false)).set (j * 8 + 3) (.float .f64 f)).set (j * 8 + 4) (.string ⟨#[]⟩)).set (j * 8 + 5) (.int .i64 0)).set (j * 8 + 7) (.bool true) = bflat (bset nm f l)
  | [], _, h => by simp [bix] at h
  | b :: r, j, h => by
    unfold bix at h
    unfold bset
    split at h
    · rename_i hb
      have : j = 0 := by simpa using h.symm
      subst this
      rw [if_pos hb]
      rfl
    · rename_i hb
      rw [if_neg hb]
      cases h2 : bix nm r with
      | none => rw [h2] at h; simp at h
      | some i =>
        rw [h2] at h
        have e : i + 1 = j := by simpa using h
        subst e
        have ih := bflat_set nm f r i h2
        have e8 : (i + 1) * 8 = i * 8 + 8 := by omega
        rw [e8]
        simp only [bflat, bcells, List.cons_append, List.nil_append, List.set_cons_succ, Nat.add_right_comm _ 8] at ih ⊢
        rw [← ih]
/-- On the way: .. and the environment that was told. -/
def PutN (w : World) (m h B : Nat) (cM : Int) (v : Value) (kn : Value × Value) (E : List EnvR) (used : Int) (f : Nat) (B0 : Nat) (a : World) (d : Nat) (o : Int) (nv : Value) (l : List Bnd) (W : World) : Prop :=
  PutS w m h B cM v kn E used f B0 a W ∧ HasB W d (env3 o nv) 138 ∧ NamesFrom w.heap.size W nv l
theorem EvM.setB {d i : Nat} {u : Value} {cs : Array Value} (H : EvM m h B cM v kn E used W) (hx : HasB W d cs 143) (hlow : ∀ e ∈ E, ∀ b, e.nv.ownBlock = some b → b < d) : EvM m h B cM v kn E used (W.setCell ⟨d, i, none⟩ u) :=
  ⟨HasB.far H.1 (ne_types hx H.1 (by decide)) _, HasB.far H.2.1 (ne_types hx H.2.1 (by decide)) _, owns_other H.2.2.1 hx (by decide) _, fun e he => owns_far (H.2.2.2 e he) (fun e1 => by have := hlow e he d e1; omega) _⟩
/-- The names' block is turned. -/
def PutM (w : World) (m h B : Nat) (cM : Int) (v : Value) (kn : Value × Value) (E : List EnvR) (used : Int) (f : Nat) (B0 : Nat) (a : World) (d : Nat) (o : Int) (nv : Value) (k : Nat) (xs : List Value) (W : World) : Prop :=
  PutS w m h B cM v kn E used f B0 a W ∧ HasB W d (env3 o nv) 138 ∧ W.ownsRow w.heap.size 143 8 nv k xs
theorem PutM.set {f B0 : Nat} {a : World} {d g c k : Nat} {o : Int} {xs : List Value} (x : PutM w m h B cM v kn E used f B0 a d o (.slice (some ⟨g, 0, none⟩) k c) k xs W) (hB : B0 ≤ w.heap.size) (hlow : ∀ e ∈ E, ∀ b, e.nv.ownBlock = some b → b < w.heap.size) (i : Nat) (u : Value) :
    PutM w m h B cM v kn E used f B0 a d o (.slice (some ⟨g, 0, none⟩) k c) k (xs.set i u) (W.setCell ⟨g, i, none⟩ u) := by
  obtain ⟨⟨hM, hV, hD, hb, hK⟩, hE, hN⟩ := x
  have hg : ∃ cur, HasB W g cur 143 ∧ w.heap.size ≤ g := by
    rcases hN.2 with ⟨h', -⟩ | ⟨g', cap', cur, h', hge, hg, -⟩
    · simp at h'
    · simp only [Value.slice.injEq, Option.some.injEq, Addr.mk.injEq, and_true, true_and] at h'
      obtain ⟨rfl, rfl⟩ := h'
      exact ⟨cur, hg, hge⟩
  obtain ⟨cur, hg, hge⟩ := hg
  have hno : ∀ c cs t, c ≠ g → HasB W c cs t → HasB (W.setCell ⟨g, i, none⟩ u) c cs t := fun c cs t hc hh => HasB.far hh hc _
  exact ⟨⟨hM.setB hg (fun e he b hb => Nat.lt_of_lt_of_le (hlow e he b hb) hge), HasB.far hV (ne_types hg hV (by decide)) _, HasB.far hD (ne_types hg hD (by decide)) _, Below.setCell hb (Nat.le_trans hB hge) _, hK.off (by simp) hge hno⟩, HasB.far hE (ne_types hg hE (by decide)) _, (hN.stored i u).1⟩
theorem PutM.drew {f B0 : Nat} {a : World} {d k : Nat} {o : Int} {nv : Value} {xs : List Value} (x : PutM w m h B cM v kn E used f B0 a d o nv k xs W) : PutM w m h B cM v kn E used f B0 a d o nv k xs W.drew :=
  ⟨⟨x.1.1.drew, HasB.drew x.1.2.1, HasB.drew x.1.2.2.1, Below.drew x.1.2.2.2.1, x.1.2.2.2.2⟩, HasB.drew x.2.1, x.2.2⟩
theorem bflat_set2 (nm : ByteArray) (f : Nat) (l : List Bnd) (j : Nat) (h : bix nm l = some j) : ((((((bflat l).set (j * 8 + 1) (.int .i64 3)).set (j * 8 + 1 + 1) (.bool false)).set (j * 8 + 1 + 2) (.float .f64 f)).set (j * 8 + 1 + 3) (.string ⟨#[]⟩)).set (j * 8 + 1 + 4) (.int .i64 0)).set (j * 8 + 7) (.bool true) = bflat (bset nm f l) := bflat_set nm f l j h
attribute [local go_sem] build_done7
set_option maxHeartbeats 4000000 in
set_option maxRecDepth 100000 in
theorem env_Set (n : Nat) (r : EnvR) (nm : ByteArray) (f : Nat) (hr : E[n]? = some r) (hl : r.l.length ≤ 1048575) (j : Nat) (hh : bix nm r.l = some j) (B0 : Nat) (a : World) (hB : Below B0 a w) (hBm : B0 ≤ m) (hBB : B0 ≤ B) (H : EvM m h B cM v kn E used w) :
    Calls Tryz.prog 38 #[.pointer (some ⟨m, 0, none⟩), .int .i64 n, .string nm, val 3 false f ⟨#[]⟩ 0] w fun e w' => ∃ nv2, e = .returned (doneN 0 false 0 ⟨#[]⟩ 0) ∧ EvM m h B cM v kn (E.set n ⟨r.outer, nv2, bset nm f r.l⟩) used w' ∧ Below B0 a w' ∧ Kept w w' := by
  have hlm := H.ltm
  go_enter Tryz.func38, Tryz.ntmps38
  go_upto_region 1 with (fail)
  refine wp_gen (fun X => PutS w m h B cM v kn E used f B0 a X) ?_ ?_
  · exact ⟨H.below (by go_grown), (HasB.newAt rfl).alloc _, HasB.newAt (by simp), Below.alloc (Below.alloc hB (by omega) _) (by simp; omega) _, Kept.of (by go_grown)⟩
  intro X hS0
  have hS := Lib.hid hS0
  have H1 := H
  clear hS0 H hB
  have hjl := bix_lt nm r.l j hh
  have hj1 : ¬ ((j : Int) < 0) := by omega
  have hj2 : (j : Int) < (r.l.length : Int) := by omega
  have hp : bplace nm r.l = j := by simp [bplace, hh]
  go_upto_region 14 with (first
    | (go_at_call 93; refine (env_limit hS.out.1).mono ?_; rintro e w' ⟨rfl, k⟩; replace hS := Lib.hid (hS.out.go hBm k); clear k)
    | ((with_reducible refine at_store 37 ?_); refine wpList_storeB (HasB.new _ _ _) done7 rfl rfl rfl rfl rfl (by kernel_rfl) (by kernel_rfl) ?_; intro V h1 hk hoff; have kk := hk _ _ (Nat.le_refl _) (Below.alloc (Below.refl _ _) (Nat.le_refl _) _); replace hS := Lib.hid (hS.out.go hBm kk); clear h1 hk hoff kk)
    | (go_at_call 94; refine (Machine_Env n r hr (by omega) hS.out.1).mono ?_; rintro e wE ⟨v', rfl, hN', k⟩; replace hN' : NamesFrom w.heap.size wE v' r.l := owns_le hN' hS.out.2.2.2.2.1; obtain ⟨g, c2, rfl, hgB⟩ := names_some hN' hjl; replace hS := Lib.hid (hS.out.go hBm k); have hdE := hS.out.2.2.2.2.1; have HN := Lib.hid hN'; clear k hN')
    | ((with_reducible refine at_store 138 ?_); refine wpList_storeB (HasB.new _ _ _) (env3 r.outer (.slice (some ⟨g, 0, none⟩) r.l.length c2)) rfl rfl rfl rfl rfl (by kernel_rfl) (by kernel_rfl) ?_; intro V h1 hk hoff; have kk := hk _ _ (Nat.le_refl _) (Below.alloc (Below.refl _ _) (Nat.le_refl _) _); replace hS := Lib.hid (hS.out.go hBm kk); have H11 := Lib.hid h1; replace HN := Lib.hid (owns_below HN.out kk); clear h1 hk hoff kk)
    | ((with_reducible refine at_load 138 ?_); refine wpList_loadB H11.out _ rfl rfl rfl rfl rfl (by kernel_rfl) ?_)
    | (go_at_call 97; refine (env_place r.outer (.slice (some ⟨g, 0, none⟩) r.l.length c2) r.l nm _ (by omega) (NamesFrom.at HN.out)).mono ?_; rw [hp]; rintro e w' ⟨rfl, k⟩; replace hS := Lib.hid (hS.out.go hBm k); have H12 := H11.out.below k; clear H11; have e0 := H12.cell 0; have e1 := H12.cell 1; have e2 := H12.cell 2; replace HN := Lib.hid (owns_below HN.out k); have H11 := Lib.hid H12; obtain ⟨nc, nf, nl⟩ := names_cells HN.out hjl; have n1 := nc 1 _ (by decide) rfl; have n2 := nc 2 _ (by decide) rfl; have n3 := nc 3 _ (by decide) rfl; have n4 := nc 4 _ (by decide) rfl; have n5 := nc 5 _ (by decide) rfl; have n6 := nc 6 _ (by decide) rfl; have n7 := nc 7 _ (by decide) rfl; clear H12 k nc))
  have hlow := H1.low
  refine wp_gen (fun Y => PutN w m h B cM v kn E used f B0 a wE.heap.size r.outer (.slice (some ⟨g, 0, none⟩) r.l.length c2) r.l Y) ⟨hS.out, H11.out, HN.out⟩ ?_
  clear hS HN H11 e0 e1 e2 H1 nf nl n1 n2 n3 n4 n5 n6 n7
  intro Y hY
  have e2 : Y.cell? ⟨wE.heap.size, 2, none⟩ = some (.slice (some ⟨g, 0, none⟩) r.l.length c2) := hY.2.1.cell 2
  have v0 : Y.cell? ⟨w.heap.size, 0, none⟩ = some (.int .i64 3) := hY.1.2.1.cell 0
  have v1 : Y.cell? ⟨w.heap.size, 1, none⟩ = some (.bool false) := hY.1.2.1.cell 1
  have v2 : Y.cell? ⟨w.heap.size, 2, none⟩ = some (.float .f64 f) := hY.1.2.1.cell 2
  have v3 : Y.cell? ⟨w.heap.size, 3, none⟩ = some (.string ⟨#[]⟩) := hY.1.2.1.cell 3
  have v4 : Y.cell? ⟨w.heap.size, 4, none⟩ = some (.int .i64 0) := hY.1.2.1.cell 4
  obtain ⟨nc, nf, nl⟩ := names_cells hY.2.2 hjl
  have n1 := nc 1 _ (by decide) rfl
  have n2 := nc 2 _ (by decide) rfl
  have n3 := nc 3 _ (by decide) rfl
  have n4 := nc 4 _ (by decide) rfl
  have n5 := nc 5 _ (by decide) rfl
  have n7 := nc 7 _ (by decide) rfl
  clear nc
  have hgx : ∃ cur, HasB Y g cur 143 := by
    rcases hY.2.2.2 with ⟨h', -⟩ | ⟨g', cap', cur, h', hge, hg, -⟩
    · simp at h'
    · simp only [Value.slice.injEq, Option.some.injEq, Addr.mk.injEq, and_true, true_and] at h'
      obtain ⟨rfl, rfl⟩ := h'
      exact ⟨cur, hg⟩
  obtain ⟨cur, hgx⟩ := hgx
  have hg1 : ¬ wE.heap.size = g := ne_types hgx hY.2.1 (by decide)
  have hg2 : ¬ w.heap.size = g := ne_types hgx hY.1.2.1 (by decide)
  have hg3 : ¬ g = wE.heap.size := fun e => hg1 e.symm
  have hg4 : ¬ g = w.heap.size := fun e => hg2 e.symm
  clear hgx
  have hB0 : B0 ≤ w.heap.size := by omega
  have x6 := PutM.set (PutM.set (PutM.set (PutM.set (PutM.set (PutM.set (show PutM w m h B cM v kn E used f B0 a wE.heap.size r.outer (.slice (some ⟨g, 0, none⟩) r.l.length c2) r.l.length (bflat r.l) Y from hY) hB0 hlow (j * 8 + 1) (.int .i64 3)) hB0 hlow (j * 8 + 1 + 1) (.bool false)) hB0 hlow (j * 8 + 1 + 2) (.float .f64 f)) hB0 hlow (j * 8 + 1 + 3) (.string ⟨#[]⟩)) hB0 hlow (j * 8 + 1 + 4) (.int .i64 0)) hB0 hlow (j * 8 + 7) (.bool true)
  rw [bflat_set2 nm f r.l j hh] at x6
  have hbl : (bset nm f r.l).length = r.l.length := bset_length nm f r.l
  have X6 := Lib.hid x6.drew
  clear x6
  go_region_law (fail)
  all_goals (
    refine end_gen (fun Z => PutM w m h B cM v kn E used f B0 a wE.heap.size r.outer (.slice (some ⟨g, 0, none⟩) r.l.length c2) r.l.length (bflat (bset nm f r.l)) Z) X6.out ?_
    clear X6 e2 v0 v1 v2 v3 v4 n1 n2 n3 n4 n5 n7 hY nf nl
    intro Z hZ)
  all_goals (
    have hNz : NamesAt Z (.slice (some ⟨g, 0, none⟩) r.l.length c2) (bset nm f r.l) := (by
      have h0 := owns_le hZ.2.2 (Nat.zero_le _)
      rw [← hbl] at h0 ⊢
      exact h0)
    go_wp2_with (first
      | ((with_reducible refine at_load 138 ?_); refine wpList_loadB hZ.2.1 _ rfl rfl rfl rfl rfl (by kernel_rfl) ?_)
      | (go_at_call 96; refine (Machine_SetEnv0 n r r.outer (.slice (some ⟨g, 0, none⟩) r.l.length c2) (bset nm f r.l) hr hbl (by omega) B0 a hZ.1.2.2.2.1 hBm hBB hNz hZ.1.1).mono ?_; rintro e wS ⟨nv2, rfl, hM, hB, hK⟩; have HK := Lib.hid (⟨Nat.le_trans hZ.1.2.2.2.2.1 hK.1, fun b cs t h0 n1 n2 n3 => hK.2 b cs t (hZ.1.2.2.2.2.2 b cs t h0 n1 n2 n3) n1 n2 n3⟩ : Kept w wS); have HD := Lib.hid (hK.2 _ _ _ hZ.1.2.2.1 (by decide) (by decide) (by decide)); have HM := Lib.hid hM; have HB := Lib.hid hB; clear hM hB hK)
      | ((with_reducible refine at_store 37 ?_); go_must (refine wpList_storeB HD.out done7 rfl rfl rfl rfl rfl (by kernel_rfl) (by kernel_rfl) ?_; intro Z2 h4 hk hoff; have HZ := Lib.hid h4; have HM2 := Lib.hid (HM.out.off HD.out hoff); have HB2 := Lib.hid (hk _ _ (by omega) HB.out); have HK2 := Lib.hid (Kept.off HK.out (hk _ _ (Nat.zero_le _) (Below.refl _ _)).size (Nat.le_succ _) hoff); clear h4 hk hoff)))
    have hl4 := fun ty dd hu hd hi => HasB.loads (P := Tryz.prog) (ty := ty) HZ.out dd hu hd hi
    replace hl4 := hl4 37 _ rfl rfl (by kernel_rfl)
    exact bodyPost_ret (results_cell rfl rfl hl4) rfl ⟨nv2, rfl, HM2.out, HB2.out, HK2.out⟩)
end Go.Proofs.YtngodcoefmihlaaGreatDoor
