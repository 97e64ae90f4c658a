/-
  A machine's environment is turned. Conditions: the machine's cells are as said; there is room.
-/
import Derived.Test.YtngodcoefmihlaaGreatDoorEvAdd
import Derived.Laws.OwnMore
namespace Go.Proofs.YtngodcoefmihlaaGreatDoor
open Go.RowKit
variable {m h B : Nat} {cM used : Int} {v : Value} {kn : Value × Value} {E : List EnvR} {W W' w : World}

theorem eflat_set : ∀ (E : List EnvR) (n : Nat) (r : EnvR), n < E.length → (((eflat E).set (n * 3) (.int .i64 r.outer)).set (n * 3 + 1) (.int .i64 (-1))).set (n * 3 + 2) r.nv = eflat (E.set n r)
  | [], n, r, h => absurd h (Nat.not_lt_zero _)
  | e :: E, 0, r, _ => rfl
  | e :: E, n + 1, r, h => by
    have ih := eflat_set E n r (by simpa using h)
    have e3 : (n + 1) * 3 = n * 3 + 3 := by omega
    rw [e3]
    simp only [eflat, List.set_cons_succ, ecells, List.cons_append, List.nil_append] at ih ⊢
    rw [← ih]
theorem EvM.ne_row {X : World} {g c d : Nat} {cs : Array Value} {t : TypeId} (H : EvM m h B cM (.slice (some ⟨g, 0, none⟩) E.length c) kn E used X) (hd : HasB X d cs t) (ht : 138 ≠ t) : d ≠ g := by
  rintro rfl
  rcases H.2.2.1.2 with ⟨h', -⟩ | ⟨g', cap', cur, h', -, hg, -⟩
  · simp at h'
  · simp only [Value.slice.injEq, Option.some.injEq, Addr.mk.injEq, and_true, true_and] at h'
    obtain ⟨rfl, rfl⟩ := h'
    have e1 := hg.symm.trans hd
    simp only [Option.some.injEq, Obj.cells.injEq] at e1
    exact ht e1.2.1
theorem EvM.kept {w0 X : World} {g c i0 i1 i2 : Nat} {u0 u1 u2 : Value} (H : EvM m h B cM (.slice (some ⟨g, 0, none⟩) E.length c) kn E used X) (hk : Kept w0 X) : Kept w0 (((X.setCell ⟨g, i0, none⟩ u0).setCell ⟨g, i1, none⟩ u1).setCell ⟨g, i2, none⟩ u2) := by
  have hx : ∃ cur, HasB X g cur 138 := by
    rcases H.2.2.1.2 with ⟨h', -⟩ | ⟨g', cap', cur, h', -, hg, -⟩
    · simp at h'
    · simp only [Value.slice.injEq, Option.some.injEq, Addr.mk.injEq, and_true, true_and] at h'
      obtain ⟨rfl, rfl⟩ := h'
      exact ⟨cur, hg⟩
  obtain ⟨cur, hx⟩ := hx
  exact hk.but (But.set (But.set (But.set (But.refl g X) _ _ (.inl rfl)) _ _ (.inl rfl)) _ _ (.inl rfl)) hx (.inr (.inr rfl))
theorem names_but {W W' : World} {v : Value} {l : List Bnd} {k : Nat} {cs : Array Value} {t : TypeId} (h : NamesAt W v l) (x : But k W W') (hx : HasB W k cs t) (ht : t ≠ 143) : NamesAt W' v l := owns_but h x hx ht
theorem EvM.turned {X : World} {r : EnvR} {g c n : Nat} (H : EvM m h B cM (.slice (some ⟨g, 0, none⟩) E.length c) kn E used X) (hn : n < E.length) (hN : NamesAt X r.nv r.l) :
    EvM m h B cM (.slice (some ⟨g, 0, none⟩) E.length c) kn (E.set n r) used (((X.setCell ⟨g, n * 3, none⟩ (.int .i64 r.outer)).setCell ⟨g, n * 3 + 1, none⟩ (.int .i64 (-1))).setCell ⟨g, n * 3 + 2, none⟩ r.nv) := by
  obtain ⟨hM, hH, hE⟩ := H
  have hx : ∃ cur, HasB X g cur 138 := by
    rcases hE.1.2 with ⟨h', -⟩ | ⟨g', cap', cur, h', -, hg, -⟩
    · simp at h'
    · simp only [Value.slice.injEq, Option.some.injEq, Addr.mk.injEq, and_true, true_and] at h'
      obtain ⟨rfl, rfl⟩ := h'
      exact ⟨cur, hg⟩
  obtain ⟨cur, hx⟩ := hx
  have ne : ∀ (b : Nat) (cs' : Array Value) (t' : TypeId), HasB X b cs' t' → 138 ≠ t' → b ≠ g := fun b cs' t' hb ht => by
    rintro rfl
    have e1 := hx.symm.trans hb
    simp only [Option.some.injEq, Obj.cells.injEq] at e1
    exact ht e1.2.1
  have hmg := ne _ _ _ hM (by decide)
  have hhg := ne _ _ _ hH (by decide)
  have s1 := (hE.1.stored (n * 3) (.int .i64 r.outer)).1
  have s2 := (s1.stored (n * 3 + 1) (.int .i64 (-1))).1
  have s3 := (s2.stored (n * 3 + 2) r.nv).1
  rw [eflat_set E n r hn] at s3
  refine ⟨HasB.far (HasB.far (HasB.far hM hmg _) hmg _) hmg _, HasB.far (HasB.far (HasB.far hH hhg _) hhg _) hhg _, ⟨by rw [List.length_set]; exact s3, fun e he => ?_⟩⟩
  have key : NamesAt X e.nv e.l := by
    rcases List.mem_or_eq_of_mem_set he with h1 | h1
    · exact hE.2 e h1
    · rw [h1]; exact hN
  exact owns_other (owns_other (owns_other key hx (by decide) _) (hx.set _ _) (by decide) _) ((hx.set _ _).set _ _) (by decide) _
/-- On the way: the machine, what was handed in, the answer. -/
def SetS (w : World) (m h B : Nat) (cM : Int) (v : Value) (kn : Value × Value) (E : List EnvR) (used : Int) (B0 : Nat) (a : World) (o : Int) (nv : Value) (l : List Bnd) (W : World) : Prop :=
  EvM m h B cM v kn E used W ∧ HasB W w.heap.size (env3 o nv) 138 ∧ HasB W (w.heap.size + 1) done7 37 ∧ Below B0 a W ∧ NamesAt W nv l ∧ Kept w W
theorem SetS.drewN {B0 : Nat} {a : World} {o : Int} {nv : Value} {l : List Bnd} {q : Nat} (x : SetS w m h B cM v kn E used B0 a o nv l W) : SetS w m h B cM v kn E used B0 a o nv l (W.drewN q) := ⟨x.1, x.2.1, x.2.2.1, below_drawn x.2.2.2.1, x.2.2.2.2.1, x.2.2.2.2.2⟩
theorem SetS.cells {B0 : Nat} {a : World} {o : Int} {nv : Value} {l : List Bnd} (x : SetS w m h B cM v kn E used B0 a o nv l W) : (W.cell? ⟨w.heap.size, 0, none⟩ = some (.int .i64 o) ∧ W.cell? ⟨w.heap.size, 1, none⟩ = some (.int .i64 (-1)) ∧ W.cell? ⟨w.heap.size, 2, none⟩ = some nv) ∧ W.cell? ⟨m, 6, none⟩ = some (.pointer (some ⟨h, 0, none⟩)) ∧ W.cell? ⟨m, 7, none⟩ = some v :=
  ⟨⟨x.2.1.cell 0, x.2.1.cell 1, x.2.1.cell 2⟩, HasB.cell x.1.1 6, x.1.q7⟩
theorem SetS.take {B0 : Nat} {a : World} {o u2 : Int} {nv : Value} {l : List Bnd} (x : SetS w m h B cM v kn E used B0 a o nv l W) (hmh : h ≠ m) (hlh : h < w.heap.size) (hBh : B0 ≤ h) (h1 : HeapAt W' h kn.2 cM u2) (k : But h W W') : SetS w m h B cM v kn E u2 B0 a o nv l W' :=
  ⟨x.1.take hmh h1 k, k.hasB x.2.1 (by omega), k.hasB x.2.2.1 (by omega), k.below x.2.2.2.1 hBh (by have := x.1.lth; omega), names_but x.2.2.2.2.1 k x.1.2.1 (by decide), x.2.2.2.2.2.but k x.1.2.1 (.inr (.inl rfl))⟩
set_option maxHeartbeats 2000000 in
set_option maxRecDepth 100000 in
theorem Machine_SetEnv0 (n : Nat) (r0 : EnvR) (o : Int) (nv : Value) (l2 : List Bnd) (hr0 : E[n]? = some r0) (hl2 : l2.length = r0.l.length) (hll : l2.length ≤ 1048576) (B0 : Nat) (a : World) (hB : Below B0 a w) (hBm : B0 ≤ m) (hBB : B0 ≤ B) (hN : NamesAt w nv l2) (H : EvM m h B cM v kn E used w) :
    Calls Tryz.prog 96 #[.pointer (some ⟨m, 0, none⟩), .int .i64 n, .agg (env3 o nv)] w fun e w' => ∃ nv2, e = .returned (doneN 0 false 0 ⟨#[]⟩ 0) ∧ EvM m h B cM v kn (E.set n ⟨o, nv2, l2⟩) (used) w' ∧ Below B0 a w' ∧ Kept w w' := by
  have HD := fun w H => @Machine_done m 10 cM 0 0 10 false h v (.slice none 0 0) (.slice none 0 0) .nilFunc kn.1 (.slice none 0 0) 0 0 w H
  obtain ⟨hn, er⟩ := List.getElem?_eq_some_iff.1 hr0
  have hlm := H.ltm
  have hlh := H.lth
  have hn1 : ¬ ((n : Int) < 0) := by omega
  have hn2 : (n : Int) < (E.length : Int) := by omega
  have hsub : IntKind.i64.wrap ((l2.length : Int) - (r0.l.length : Int)) = 0 := by rw [IntKind.wrap_i64]; omega
  clear hl2
  go_enter Tryz.func96, Tryz.ntmps96
  go_upto_region 1 with (fail)
  refine wp_gen (fun X => SetS w m h B cM v kn E used B0 a o nv l2 X) ?_ ?_
  · exact ⟨H.below (by go_grown), (HasB.newAt rfl).alloc _, HasB.newAt (by simp), Below.alloc (Below.alloc hB (by omega) _) (by simp; omega) _, hN.below (by go_grown), Kept.of (by go_grown)⟩
  rintro X hS
  clear H hB hN
  obtain ⟨g, c, rfl, hBg, hlg, c0, c1, c2, cf⟩ := hS.1.2.2.form n hn
  rw [er] at c0 c2
  have hNo := hS.1.2.2.2 E[n] (List.getElem_mem hn)
  rw [er] at hNo
  clear er
  obtain ⟨ao, co, eo⟩ := names_shape hNo
  rw [eo] at c2
  clear hNo
  obtain ⟨an, cn, rfl⟩ := names_shape hS.2.2.2.2.1
  have q7 := hS.1.q7
  have e2 := hS.2.1.cell 2
  have q6 : X.cell? ⟨m, 6, none⟩ = some (.pointer (some ⟨h, 0, none⟩)) := HasB.cell hS.1.1 6
  go_upto_region 5 with (go_at_call 59; refine (HD _ hS.1.1).mono ?_; rintro e w' ⟨rfl, rfl⟩)
  go_quiet (fail)
  clear q7 e2 q6 c0 c1 c2 cf hlg HD
  refine end_gen (fun Y => SetS w m h B cM (.slice (some ⟨g, 0, none⟩) E.length c) kn E used B0 a o (.slice an l2.length cn) l2 Y) hS.drewN ?_
  clear hS
  intro Y hS
  go_upto_region 8 with (fail)
  obtain ⟨⟨e0, e1, e2⟩, q6, q7⟩ := hS.cells
  obtain ⟨g', c', ev, -, hlg, c0, c1, c2, cf⟩ := hS.1.2.2.form n hn
  simp only [Value.slice.injEq, Option.some.injEq, Addr.mk.injEq, and_true, true_and] at ev
  obtain ⟨rfl, rfl⟩ := ev
  go_region_law (go_simp; go_at_call 134; refine (machine_own o (.slice an l2.length cn) l2 Y.drew hll (show NamesAt Y.drew (.slice an l2.length cn) l2 from hS.2.2.2.2.1)).mono ?_; rintro e w3 ⟨nv3, rfl, hN3, k⟩; obtain ⟨a3, c3, rfl⟩ := names_shape hN3; have q73 := below_keep k q7; have c03 := below_keep k c0; have c13 := below_keep k c1; have c23 := below_keep k c2; have cf3 : ∀ o, w3.frozen? ⟨g, o, none⟩ = false := (fun o => (k.frozen (p := ⟨g, o, none⟩) hlg).trans (cf o)); have lg3 : g < w3.heap.size := Nat.lt_of_lt_of_le hlg k.size; have k3 := Lib.hid k; clear k)
  all_goals (
    have hM3 := hS.1.drew.below k3.out
    have hD3 := (HasB.drew hS.2.2.1).below k3.out
    have hdg := hM3.ne_row hD3 (by decide)
    have hB3 := below_via k3.out (Below.drew hS.2.2.2.1) (Nat.le_trans hBm (Nat.le_of_lt hS.1.ltm))
    refine end_gen (fun Z => EvM m h B cM (.slice (some ⟨g, 0, none⟩) E.length c) kn (E.set n ⟨o, .slice a3 l2.length c3, l2⟩) used Z ∧ HasB Z (w.heap.size + 1) done7 37 ∧ Below B0 a Z ∧ Kept w Z) ⟨EvM.turned (r := ⟨o, .slice a3 l2.length c3, l2⟩) hM3 hn hN3, HasB.far (HasB.far (HasB.far hD3 hdg _) hdg _) hdg _, Below.setCell (Below.setCell (Below.setCell hB3 (Nat.le_trans hBB hBg) _) (Nat.le_trans hBB hBg) _) (Nat.le_trans hBB hBg) _, EvM.kept hM3 ((show Kept w Y.drew from hS.2.2.2.2.2).below k3.out)⟩ ?_
    clear hM3 hD3 hdg hB3 k3 q73 c03 c13 c23 cf3 lg3 hS e0 e1 e2 q6 q7 c0 c1 c2 cf hlg
    rintro Z ⟨hM, hD, hB, hK⟩
    have HM := Lib.hid hM
    have HD := Lib.hid hD
    have HB := Lib.hid hB
    have HK := Lib.hid hK
    clear hM hD hB hK
    go_wp2_with (go_at_call 62; refine (Machine_normal 0 false 0 ⟨#[]⟩ 0 _).mono ?_; rintro e w6 ⟨rfl, k⟩; have hM6 := Lib.hid (HM.out.below k); have hD6 := HD.out.below k; have hB6 := Lib.hid (below_via k HB.out (Nat.le_trans hBm (Nat.le_of_lt HM.out.ltm))); obtain ⟨⟨s0, s1, s2, s3, s4, s5, s6⟩, sf⟩ := hD6.seven; have dl6 := hD6.lt; have HD6 := Lib.hid hD6; have HK6 := Lib.hid (HK.out.below k); clear k hD6)
    have hl := fun ty dd hu hd hi => HasB.loads (P := Tryz.prog) (ty := ty) (HasB.set7 (v0 := .int .i64 0) (v1 := .int .i64 0) (v2 := .bool false) (v3 := .float .f64 0) (v4 := .string ⟨#[]⟩) (v5 := .int .i64 0) (v6 := .string ⟨#[]⟩) HD6.out) dd hu hd hi
    replace hl := hl 37 _ rfl rfl (by kernel_rfl)
    exact bodyPost_ret (results_cell rfl rfl hl) rfl ⟨_, rfl, hM6.out.but HD6.out (by decide) (by decide) (by decide) (by decide) But.set7, below_set7 hB6.out (by omega), HK6.out.new But.set7 (Nat.le_succ _)⟩)
set_option maxHeartbeats 2000000 in
set_option maxRecDepth 100000 in
theorem Machine_SetEnv1 (n : Nat) (r0 : EnvR) (o : Int) (nv : Value) (l2 : List Bnd) (hr0 : E[n]? = some r0) (hl2 : l2.length = r0.l.length + 1) (hll : l2.length ≤ 1048576) (B0 : Nat) (a : World) (hB : Below B0 a w) (hBm : B0 ≤ m) (hBh : B0 ≤ h) (hmh : h ≠ m) (hBB : B0 ≤ B) (hu : 0 ≤ used) (hr : 1 ≤ cM - used) (hc : cM ≤ 16777216) (hN : NamesAt w nv l2) (H : EvM m h B cM v kn E used w) :
    Calls Tryz.prog 96 #[.pointer (some ⟨m, 0, none⟩), .int .i64 n, .agg (env3 o nv)] w fun e w' => ∃ nv2, e = .returned (doneN 0 false 0 ⟨#[]⟩ 0) ∧ EvM m h B cM v kn (E.set n ⟨o, nv2, l2⟩) (used + 1) w' ∧ Below B0 a w' ∧ Kept w w' := by
  have HD := fun w H => @Machine_done m 10 cM 0 0 10 false h v (.slice none 0 0) (.slice none 0 0) .nilFunc kn.1 (.slice none 0 0) 0 0 w H
  obtain ⟨hn, er⟩ := List.getElem?_eq_some_iff.1 hr0
  have hlm := H.ltm
  have hlh := H.lth
  have hn1 : ¬ ((n : Int) < 0) := by omega
  have hn2 : (n : Int) < (E.length : Int) := by omega
  have hsub : IntKind.i64.wrap ((l2.length : Int) - (r0.l.length : Int)) = 1 := by rw [IntKind.wrap_i64]; omega
  clear hl2
  go_enter Tryz.func96, Tryz.ntmps96
  go_upto_region 1 with (fail)
  refine wp_gen (fun X => SetS w m h B cM v kn E used B0 a o nv l2 X) ?_ ?_
  · exact ⟨H.below (by go_grown), (HasB.newAt rfl).alloc _, HasB.newAt (by simp), Below.alloc (Below.alloc hB (by omega) _) (by simp; omega) _, hN.below (by go_grown), Kept.of (by go_grown)⟩
  rintro X hS
  clear H hB hN
  obtain ⟨g, c, rfl, hBg, hlg, c0, c1, c2, cf⟩ := hS.1.2.2.form n hn
  rw [er] at c0 c2
  have hNo := hS.1.2.2.2 E[n] (List.getElem_mem hn)
  rw [er] at hNo
  clear er
  obtain ⟨ao, co, eo⟩ := names_shape hNo
  rw [eo] at c2
  clear hNo
  obtain ⟨an, cn, rfl⟩ := names_shape hS.2.2.2.2.1
  have q7 := hS.1.q7
  have e2 := hS.2.1.cell 2
  have q6 : X.cell? ⟨m, 6, none⟩ = some (.pointer (some ⟨h, 0, none⟩)) := HasB.cell hS.1.1 6
  go_upto_region 5 with (go_at_call 59; refine (HD _ hS.1.1).mono ?_; rintro e w' ⟨rfl, rfl⟩)
  go_quiet (fail)
  clear q7 e2 q6 c0 c1 c2 cf hlg HD
  refine end_gen (fun Y => SetS w m h B cM (.slice (some ⟨g, 0, none⟩) E.length c) kn E used B0 a o (.slice an l2.length cn) l2 Y) hS.drewN ?_
  clear hS
  intro Y hS
  obtain ⟨-, q6, -⟩ := hS.cells
  go_upto_region 8 with (go_at_call 114; refine (Heap_Take h _ cM used _ hS.1.2.1 hr hu hc).mono ?_; rintro e w2 ⟨rfl, hH2, hB2⟩)
  refine wp_gen (fun Z => SetS w m h B cM (.slice (some ⟨g, 0, none⟩) E.length c) kn E (used + 1) B0 a o (.slice an l2.length cn) l2 Z) (hS.take hmh hlh hBh hH2 hB2) ?_
  clear hS hH2 hB2 q6
  intro Y hS
  obtain ⟨⟨e0, e1, e2⟩, q6, q7⟩ := hS.cells
  obtain ⟨g', c', ev, -, hlg, c0, c1, c2, cf⟩ := hS.1.2.2.form n hn
  simp only [Value.slice.injEq, Option.some.injEq, Addr.mk.injEq, and_true, true_and] at ev
  obtain ⟨rfl, rfl⟩ := ev
  go_region_law (go_simp; go_at_call 134; refine (machine_own o (.slice an l2.length cn) l2 Y.drew hll (show NamesAt Y.drew (.slice an l2.length cn) l2 from hS.2.2.2.2.1)).mono ?_; rintro e w3 ⟨nv3, rfl, hN3, k⟩; obtain ⟨a3, c3, rfl⟩ := names_shape hN3; have q73 := below_keep k q7; have c03 := below_keep k c0; have c13 := below_keep k c1; have c23 := below_keep k c2; have cf3 : ∀ o, w3.frozen? ⟨g, o, none⟩ = false := (fun o => (k.frozen (p := ⟨g, o, none⟩) hlg).trans (cf o)); have lg3 : g < w3.heap.size := Nat.lt_of_lt_of_le hlg k.size; have k3 := Lib.hid k; clear k)
  all_goals (
    have hM3 := hS.1.drew.below k3.out
    have hD3 := (HasB.drew hS.2.2.1).below k3.out
    have hdg := hM3.ne_row hD3 (by decide)
    have hB3 := below_via k3.out (Below.drew hS.2.2.2.1) (Nat.le_trans hBm (Nat.le_of_lt hS.1.ltm))
    refine end_gen (fun Z => EvM m h B cM (.slice (some ⟨g, 0, none⟩) E.length c) kn (E.set n ⟨o, .slice a3 l2.length c3, l2⟩) (used + 1) Z ∧ HasB Z (w.heap.size + 1) done7 37 ∧ Below B0 a Z ∧ Kept w Z) ⟨EvM.turned (r := ⟨o, .slice a3 l2.length c3, l2⟩) hM3 hn hN3, HasB.far (HasB.far (HasB.far hD3 hdg _) hdg _) hdg _, Below.setCell (Below.setCell (Below.setCell hB3 (Nat.le_trans hBB hBg) _) (Nat.le_trans hBB hBg) _) (Nat.le_trans hBB hBg) _, EvM.kept hM3 ((show Kept w Y.drew from hS.2.2.2.2.2).below k3.out)⟩ ?_
    clear hM3 hD3 hdg hB3 k3 q73 c03 c13 c23 cf3 lg3 hS e0 e1 e2 q6 q7 c0 c1 c2 cf hlg
    rintro Z ⟨hM, hD, hB, hK⟩
    have HM := Lib.hid hM
    have HD := Lib.hid hD
    have HB := Lib.hid hB
    have HK := Lib.hid hK
    clear hM hD hB hK
    go_wp2_with (go_at_call 62; refine (Machine_normal 0 false 0 ⟨#[]⟩ 0 _).mono ?_; rintro e w6 ⟨rfl, k⟩; have hM6 := Lib.hid (HM.out.below k); have hD6 := HD.out.below k; have hB6 := Lib.hid (below_via k HB.out (Nat.le_trans hBm (Nat.le_of_lt HM.out.ltm))); obtain ⟨⟨s0, s1, s2, s3, s4, s5, s6⟩, sf⟩ := hD6.seven; have dl6 := hD6.lt; have HD6 := Lib.hid hD6; have HK6 := Lib.hid (HK.out.below k); clear k hD6)
    have hl := fun ty dd hu hd hi => HasB.loads (P := Tryz.prog) (ty := ty) (HasB.set7 (v0 := .int .i64 0) (v1 := .int .i64 0) (v2 := .bool false) (v3 := .float .f64 0) (v4 := .string ⟨#[]⟩) (v5 := .int .i64 0) (v6 := .string ⟨#[]⟩) HD6.out) dd hu hd hi
    replace hl := hl 37 _ rfl rfl (by kernel_rfl)
    exact bodyPost_ret (results_cell rfl rfl hl) rfl ⟨_, rfl, hM6.out.but HD6.out (by decide) (by decide) (by decide) (by decide) But.set7, below_set7 hB6.out (by omega), HK6.out.new But.set7 (Nat.le_succ _)⟩)
end Go.Proofs.YtngodcoefmihlaaGreatDoor
