/-
  A machine makes an environment. Conditions: the machine's cells are as said; there is room.
-/
import Derived.Test.YtngodcoefmihlaaGreatDoorEvEnv
import Derived.Test.YtngodcoefmihlaaGreatDoorMachAlloc
import Derived.Deep.RegionLaw
namespace Go.Proofs.YtngodcoefmihlaaGreatDoor
open Go.RowKit
variable {m h B : Nat} {cM used : Int} {v : Value} {kn : Value × Value} {E : List EnvR} {W W' w : World}

theorem end_gen {K : Act → World → Prop} {Q : Exit → Act → World → Prop} {a : Act} {X : World} (P : World → Prop) (h : P X) (k : ∀ X, P X → Exit.then K Q .normal a X) : Exit.then K Q .normal a X := k X h
theorem info_env : (Tryz.prog.info? 138).map (fun i => (i.zero, i.size, i.bytes)) = some (some (.agg env0), 3, 40) := by kernel_rfl
abbrev done7 : Array Value := #[.int .i64 0, .int .i64 0, .bool false, .float .f64 0, .string ⟨#[]⟩, .int .i64 0, .string ⟨#[]⟩]
theorem owns_but {X Z : World} {base e size n k : Nat} {u : Value} {xs : List Value} (h0 : X.ownsRow base e size u n xs) (x : But k X Z) {cs : Array Value} {t : TypeId} (hx : HasB X k cs t) (ht : t ≠ e) : Z.ownsRow base e size u n xs := by
  rcases h0.2 with hn | ⟨g, cap, cur, hv, hb, hg, r⟩
  · exact ⟨h0.1, .inl hn⟩
  · have hne : g ≠ k := by
      rintro rfl
      have e1 := hx.symm.trans hg
      simp only [Option.some.injEq, Obj.cells.injEq] at e1
      exact ht e1.2.1
    exact ⟨h0.1, .inr ⟨g, cap, cur, hv, hb, (x.block g (Array.getElem?_eq_some_iff.1 hg).1 hne).trans hg, r⟩⟩
theorem EvM.take {u2 : Int} (H : EvM m h B cM v kn E used W) (hmh : h ≠ m) (h1 : HeapAt W' h kn.2 cM u2) (k : But h W W') : EvM m h B cM v kn E u2 W' :=
  ⟨k.hasB H.1 (Ne.symm hmh), h1, owns_but H.2.2.1 k H.2.1 (by decide), fun e he => owns_but (H.2.2.2 e he) k H.2.1 (by decide)⟩
theorem ecells_one (o : Int) (a : Option Addr) (n c : Nat) : ∀ u ∈ [Value.int .i64 o, .int .i64 (-1), .slice a n c], u.oneCell' = true := by
  intro u hu
  simp only [List.mem_cons, List.not_mem_nil, or_false] at hu
  rcases hu with rfl | rfl | rfl <;> rfl
/-- A row of another kind stays behind an append. -/
theorem owns_grown {X w5 : World} {base base2 e e2 size size2 n n2 : Nat} {u v : Value} {xs xs2 : List Value} (h0 : X.ownsRow base e size u n xs) (hv : X.ownsRow base2 e2 size2 v n2 xs2) (ht : e2 ≠ e) (hg : X.grownBy w5 v.ownBlock) : w5.ownsRow base e size u n xs := by
  refine h0.kept hg ?_
  rcases h0.2 with ⟨hu, -⟩ | ⟨g, cap, cur, hu, -, hgb, -⟩
  · subst hu
    exact .inl rfl
  · rcases hv.2 with ⟨hv2, -⟩ | ⟨g2, cap2, cur2, hv2, -, hgb2, -⟩
    · subst hu hv2
      exact .inr (by simp [Value.ownBlock])
    · subst hu hv2
      refine .inr ?_
      intro e1
      have e1 : g = g2 := by simpa [Value.ownBlock] using e1
      subst e1
      have e3 := hgb2.symm.trans hgb
      simp only [Option.some.injEq, Obj.cells.injEq] at e3
      exact ht e3.2.1
theorem HasB.grownOther {X w5 : World} {k base size n : Nat} {cs : Array Value} {t e : TypeId} {v : Value} {xs : List Value} (hx : HasB X k cs t) (hv : X.ownsRow base e size v n xs) (ht : e ≠ t) (hg : X.grownBy w5 v.ownBlock) : HasB w5 k cs t := by
  refine (hg.block k hx.lt ?_).trans hx
  intro e1
  rcases hv.2 with ⟨hv2, -⟩ | ⟨g2, cap2, cur2, hv2, -, hgb2, -⟩
  · subst hv2
    simp [Value.ownBlock] at e1
  · subst hv2
    have e1 : k = g2 := by simpa [Value.ownBlock] using e1
    subst e1
    have e3 := hgb2.symm.trans hx
    simp only [Option.some.injEq, Obj.cells.injEq] at e3
    exact ht e3.2.1
/-- What lay there of other kinds than machines, heaps, environments lies there as it was. -/
def Kept (w W : World) : Prop := w.heap.size ≤ W.heap.size ∧ ∀ k cs t, HasB w k cs t → t ≠ 90 → t ≠ 148 → t ≠ 138 → HasB W k cs t
theorem Kept.of (k : Below w.heap.size w W) : Kept w W := ⟨k.size, fun _ _ _ h0 _ _ _ => h0.below k⟩
theorem Kept.below (x : Kept w W) (k : Below W.heap.size W W') : Kept w W' := ⟨Nat.le_trans x.1 k.size, fun b cs t h0 h1 h2 h3 => (x.2 b cs t h0 h1 h2 h3).below k⟩
theorem Kept.but {d : Nat} {cs0 : Array Value} {t0 : TypeId} (x : Kept w W) (k : But d W W') (hd : HasB W d cs0 t0) (ht : t0 = 90 ∨ t0 = 148 ∨ t0 = 138) : Kept w W' :=
  ⟨Nat.le_trans x.1 k.size, fun b cs t h0 h1 h2 h3 => by
    have hb := x.2 b cs t h0 h1 h2 h3
    refine k.hasB hb ?_
    rintro rfl
    have e1 := hd.symm.trans hb
    simp only [Option.some.injEq, Obj.cells.injEq] at e1
    obtain ⟨-, rfl, -⟩ := e1
    rcases ht with ht | ht | ht
    · exact h1 ht
    · exact h2 ht
    · exact h3 ht⟩
theorem Kept.new {d : Nat} (x : Kept w W) (k : But d W W') (hd : w.heap.size ≤ d) : Kept w W' :=
  ⟨Nat.le_trans x.1 k.size, fun b cs t h0 h1 h2 h3 => k.hasB (x.2 b cs t h0 h1 h2 h3) (by have := h0.lt; omega)⟩
theorem Kept.grown {base size n : Nat} {u : Value} {xs : List Value} {w5 : World} (x : Kept w W) (hv : W.ownsRow base 138 size u n xs) (hg : W.grownBy w5 u.ownBlock) : Kept w w5 :=
  ⟨Nat.le_trans x.1 hg.size, fun b cs t h0 h1 h2 h3 => HasB.grownOther (x.2 b cs t h0 h1 h2 h3) hv (Ne.symm h3) hg⟩
theorem EvM.far (H : EvM m h B cM v kn E used W) (k : Nat) (hk : k < B) : some k ≠ v.ownBlock := fun e => by
  have := (World.ownsRow.lt H.2.2.1 k e.symm).1
  omega
theorem EvM.grown {X w5 : World} {r : EnvR} {g2 cap : Nat} (H : EvM m h B cM v kn E used X) (hmB : m < B) (hhB : h < B) (hmh : h ≠ m)
    (hown : w5.ownsRow B 138 3 (.slice (some ⟨g2, 0, none⟩) (E.length + 1) cap) (E.length + 1) (eflat E ++ ecells r)) (hg : X.grownBy w5 v.ownBlock) (hN : NamesAt X r.nv r.l) :
    EvM m h B cM (.slice (some ⟨g2, 0, none⟩) (E.length + 1) cap) kn (E ++ [r]) used (w5.setCell ⟨m, 7, none⟩ (.slice (some ⟨g2, 0, none⟩) (E.length + 1) cap)) := by
  have hM : MachAt w5 m 10 cM 0 0 10 false h v (.slice none 0 0) (.slice none 0 0) .nilFunc kn.1 (.slice none 0 0) 0 0 := (hg.block m H.ltm (H.far m hmB)).trans H.1
  have hH : HeapAt w5 h kn.2 cM used := (hg.block h H.lth (H.far h hhB)).trans H.2.1
  refine ⟨?_, HasB.far hH hmh _, ⟨?_, fun e he => owns_other ?_ hM (by decide) _⟩⟩
  · have h := HasB.set hM 7 (.slice (some ⟨g2, 0, none⟩) (E.length + 1) cap)
    simp at h
    exact h
  · have e1 : (E ++ [r]).length = E.length + 1 := by simp
    have e2 : eflat (E ++ [r]) = eflat E ++ ecells r := by rw [eflat_app]; simp [eflat]
    rw [e1, e2]
    exact owns_other hown hM (by decide) _
  · rcases List.mem_append.1 he with he | he
    · exact owns_grown (H.2.2.2 e he) H.2.2.1 (by decide) hg
    · simp only [List.mem_cons, List.not_mem_nil, or_false] at he
      subst he
      exact owns_grown hN H.2.2.1 (by decide) hg
theorem EvM.added {w3 w5 a : World} {r : EnvR} {g2 cap d B0 : Nat} {obj : Obj} (H : EvM m h B cM v kn E used w3) (hmB : m < B) (hhB : h < B) (hmh : h ≠ m) (hBB : B0 ≤ B) (hB3 : B ≤ w3.heap.size) (hBm : B0 ≤ m) (hD : HasB w3 d done7 37) (hb : Below B0 a w3) (hk : Kept w w3)
    (hown : w5.ownsRow B 138 3 (.slice (some ⟨g2, 0, none⟩) (E.length + 1) cap) (E.length + 1) (eflat E ++ ecells r)) (hg : (w3.alloc obj).grownBy w5 v.ownBlock) (hN : NamesAt w3 r.nv r.l) :
    EvM m h B cM (.slice (some ⟨g2, 0, none⟩) (E.length + 1) cap) kn (E ++ [r]) used (w5.setCell ⟨m, 7, none⟩ (.slice (some ⟨g2, 0, none⟩) (E.length + 1) cap)) ∧
      HasB (w5.setCell ⟨m, 7, none⟩ (.slice (some ⟨g2, 0, none⟩) (E.length + 1) cap)) d done7 37 ∧ Below B0 a (w5.setCell ⟨m, 7, none⟩ (.slice (some ⟨g2, 0, none⟩) (E.length + 1) cap)) ∧ Kept w (w5.setCell ⟨m, 7, none⟩ (.slice (some ⟨g2, 0, none⟩) (E.length + 1) cap)) := by
  have ka : Below w3.heap.size w3 (w3.alloc obj) := Below.alloc (Below.refl _ _) (Nat.le_refl _) _
  have hX4 := H.below ka
  have hdm : d ≠ m := by
    rintro rfl
    have e1 := hD.symm.trans H.1
    simp only [Option.some.injEq, Obj.cells.injEq] at e1
    exact absurd e1.2.1 (by decide)
  exact ⟨EvM.grown hX4 hmB hhB hmh hown hg (hN.below ka), HasB.far (HasB.grownOther (hD.alloc obj) hX4.2.2.1 (by decide) hg) hdm _, Below.setCell (below_grown hb (Nat.le_trans hBB hB3) H.2.2.1 hBB hg) hBm _,
    ((hk.below ka).grown hX4.2.2.1 hg).but (But.set (But.refl m w5) ⟨m, 7, none⟩ _ (.inl rfl)) ((hg.block m hX4.ltm (hX4.far m hmB)).trans hX4.1) (.inl rfl)⟩
/-- A block of another kind was turned. -/
theorem EvM.but {d : Nat} {cs : Array Value} {t : TypeId} (H : EvM m h B cM v kn E used W) (hx : HasB W d cs t) (h1 : t ≠ 90) (h2 : t ≠ 148) (h3 : t ≠ 138) (h4 : t ≠ 143) (k : But d W W') : EvM m h B cM v kn E used W' := by
  have ne : ∀ (b : Nat) (cs' : Array Value) (t' : TypeId), HasB W b cs' t' → t ≠ t' → b ≠ d := fun b cs' t' hb ht => by
    rintro rfl
    have e1 := hx.symm.trans hb
    simp only [Option.some.injEq, Obj.cells.injEq] at e1
    exact ht e1.2.1
  exact ⟨k.hasB H.1 (ne _ _ _ H.1 h1), k.hasB H.2.1 (ne _ _ _ H.2.1 h2), owns_but H.2.2.1 k hx h3, fun e he => owns_but (H.2.2.2 e he) k hx h4⟩
theorem But.set7 {d : Nat} {a : World} {v0 v1 v2 v3 v4 v5 v6 : Value} : But d a (((((((a.setCell ⟨d, 0, none⟩ v0).setCell ⟨d, 1, none⟩ v1).setCell ⟨d, 2, none⟩ v2).setCell ⟨d, 3, none⟩ v3).setCell ⟨d, 4, none⟩ v4).setCell ⟨d, 5, none⟩ v5).setCell ⟨d, 6, none⟩ v6) :=
  But.set (But.set (But.set (But.set (But.set (But.set (But.set (But.refl d a) _ _ (.inl rfl)) _ _ (.inl rfl)) _ _ (.inl rfl)) _ _ (.inl rfl)) _ _ (.inl rfl)) _ _ (.inl rfl)) _ _ (.inl rfl)
theorem results_tmp_cell {P : Program} {fn : Func} {t u : Tmp} {ty : TypeId} {tmps : Array Value} {a : Addr} {v : Value} {w : World} (h : fn.results = #[.tmp u, .cell t ty]) (ht : tmps.getD t undef = .pointer (some a)) (hl : (loadVar ty a).run P w = .ok v w) :
    (results fn tmps).run P w = .ok (.tuple #[tmps.getD u undef, v]) w := by
  simp only [Array.getD_eq_getD_getElem?] at ht
  simp [results, h, ht, hl, asAddr]
/-- On the way: the machine, what was handed in, the answer. -/
def AddS (w : World) (m h B : Nat) (cM : Int) (v : Value) (kn : Value × Value) (E : List EnvR) (used : Int) (B0 : Nat) (a : World) (o : Int) (W : World) : Prop :=
  EvM m h B cM v kn E used W ∧ HasB W w.heap.size (env3 o (.slice none 0 0)) 138 ∧ HasB W (w.heap.size + 1) done7 37 ∧ Below B0 a W ∧ Kept w W
set_option maxHeartbeats 2000000 in
set_option maxRecDepth 100000 in
theorem Machine_AddEnv (o : Int) (B0 : Nat) (a : World) (hB : Below B0 a w) (hBm : B0 ≤ m) (hBh : B0 ≤ h) (hmh : h ≠ m) (hBB : B0 ≤ B) (hmB : m < B) (hhB : h < B) (hBw : B ≤ w.heap.size) (hlen : E.length ≤ 2000) (hu : 0 ≤ used) (hr : 1 ≤ cM - used) (hc : cM ≤ 16777216) (H : EvM m h B cM v kn E used w) :
    Calls Tryz.prog 92 #[.pointer (some ⟨m, 0, none⟩), .agg (env3 o (.slice none 0 0))] w fun e w' => ∃ v2 nv, e = .returned (.tuple #[.int .i64 E.length, doneN 0 false 0 ⟨#[]⟩ 0]) ∧ EvM m h B cM v2 kn (E ++ [⟨o, nv, []⟩]) (used + 1) w' ∧ Below B0 a w' ∧ Kept w w' := by
  have HD := fun w H => @Machine_done m 10 cM 0 0 10 false h v (.slice none 0 0) (.slice none 0 0) .nilFunc kn.1 (.slice none 0 0) 0 0 w H
  have hlm := H.ltm
  have hlh := H.lth
  have hwr : IntKind.i64.wrap (E.length : Int) = E.length := by rw [IntKind.wrap_i64]; omega
  go_enter Tryz.func92, Tryz.ntmps92
  go_upto_region 1 with (fail)
  refine wp_gen (fun X => AddS w m h B cM v kn E used B0 a o X) ?_ ?_
  · exact ⟨H.below (by go_grown), (HasB.newAt rfl).alloc _, HasB.newAt (by simp), Below.alloc (Below.alloc hB (by omega) _) (by simp; omega) _, Kept.of (by go_grown)⟩
  rintro X ⟨H1, h1, h2, hb, hk⟩
  clear H hB
  go_upto_region 3 with (go_at_call 59; refine (HD _ H1.1).mono ?_; rintro e w' ⟨rfl, rfl⟩)
  have q6 : X.cell? ⟨m, 6, none⟩ = some (.pointer (some ⟨h, 0, none⟩)) := HasB.cell H1.1 6
  have e2 := h1.cell 2
  go_region_held3 (fun V => V.cell? ⟨m, 6, none⟩ = some (.pointer (some ⟨h, 0, none⟩)) ∧ V.cell? ⟨w.heap.size, 2, none⟩ = some (.slice none 0 0))
    (first
      | assumption
      | exact ⟨q6, e2⟩
      | (go_split_ands; exact ⟨But.cell (by assumption) (by assumption) (by simp; omega), But.cell (by assumption) (by assumption) (by simp; omega)⟩))
    (first | (go_at_call 114; refine (Heap_Take h _ cM used _ (HasB.drew H1.2.1) hr hu hc).mono ?_; rintro e w2 ⟨rfl, hH2, hB2⟩))
  have hlx := H1.lth
  have hS : AddS w m h B cM v kn E (used + 1) B0 a o w2 := ⟨H1.drew.take hmh hH2 hB2, hB2.hasB (HasB.drew h1) (by omega), hB2.hasB (HasB.drew h2) (by omega), hB2.below (Below.drew hb) hBh (by have := hb.size; show B0 ≤ X.heap.size; omega), (show Kept w X.drew from hk).but hB2 (show HasB X.drew h _ _ from H1.2.1) (.inr (.inl rfl))⟩
  rename_i hHeld
  clear hHeld hH2 hB2 q6 e2 H1 h1 h2 hb hk HD hlx
  refine end_gen (fun Y => AddS w m h B cM v kn E (used + 1) B0 a o Y) hS ?_
  clear hS
  intro Y hS
  obtain ⟨i0, hi, hz0, hz1, hz2⟩ := info_parts info_env
  have q7 := hS.1.q7
  have e0 := hS.2.1.cell 0
  have e1 := hS.2.1.cell 1
  have e2 := hS.2.1.cell 2
  go_upto_region 5 with (fail)
  go_region_law (first
    | (go_simp; go_at_call 134; refine (machine_own o (.slice none 0 0) [] _ (by decide) (NamesAt.nil _)).mono ?_; rintro e w3 ⟨nv, rfl, hN3, k⟩; obtain ⟨a3, c3, rfl⟩ := names_shape hN3; have q73 := below_keep k q7; have m3 : m < w3.heap.size := Nat.lt_of_lt_of_le hS.1.ltm k.size; have hB3 : B ≤ w3.heap.size := Nat.le_trans hBw (Nat.le_trans (Nat.le_of_lt (Nat.lt_trans (Nat.lt_succ_self _) hS.2.2.1.lt)) k.size); have k3 := Lib.hid k; clear k)
    | (refine step_append_lies _ rfl _ _ 84 rfl B 138 i0 (.agg env0) 3 40 Tryz.underlying84 hi hz0 hz1 hz2 rfl (by decide) _ E.length (eflat E) rfl (owns_below (owns_below hS.1.drew.2.2.1 k3.out) (Below.alloc (Below.refl _ _) (Nat.le_refl _) _)) ⟨w3.heap.size, 0, none⟩ 1 1 [.int .i64 o, .int .i64 (-1), .slice a3 0 c3] rfl rfl (World.news_of_block (cs := #[.int .i64 o, .int .i64 (-1), .slice a3 0 c3]) (t := 138) (fr := (0, 0)) (heap_alloc_new w3 _)) (ecells_one _ _ _ _) (by decide) (by unfold maxLen; omega) (by omega) (by simp; omega) _ rfl ?_; intro g2 cap w5 hown hg hat hlt5; have hX3 := hS.1.drew.below k3.out; have hX4 := hX3.below (Below.alloc (Below.refl _ _) (Nat.le_refl _) (.cells #[.int .i64 o, .int .i64 (-1), .slice a3 0 c3] 138)); have c7 : w5.cell? ⟨m, 7, none⟩ = some v := (World.cell?_of_block (hg.block m hX4.ltm (hX4.far m hmB))).trans hX4.q7; have f7 : w5.frozen? ⟨m, 7, none⟩ = false := (World.frozen?_of_block (hg.block m hX4.ltm (hX4.far m hmB))).trans (HasB.free hX4.1 7); have HZ := Lib.hid (EvM.added (r := ⟨o, .slice a3 0 c3, []⟩) hX3 hmB hhB hmh hBB hB3 hBm ((HasB.drew hS.2.2.1).below k3.out) (below_via k3.out (Below.drew hS.2.2.2.1) (Nat.le_trans hBm (Nat.le_of_lt hS.1.ltm))) ((show Kept w Y.drew from hS.2.2.2.2).below k3.out) hown hg hN3); clear hX3 hX4 hown hat hg))
  all_goals (
    refine end_gen (fun Z => EvM m h B cM (.slice (some ⟨g2, 0, none⟩) (E.length + 1) cap) kn (E ++ [⟨o, .slice a3 0 c3, []⟩]) (used + 1) Z ∧ HasB Z (w.heap.size + 1) done7 37 ∧ Below B0 a Z ∧ Kept w Z) HZ.out ?_
    clear HZ c7 f7 m3 hB3 k3 q73 hS q7 e0 e1 e2
    rintro Z ⟨hM, hD, hB, hK⟩
    have z7 := hM.q7
    have hdl := hD.lt
    go_upto_region 6 with (fail)
    go_region_law (first
      | (go_simp; go_at_call 62; refine (Machine_normal 0 false 0 ⟨#[]⟩ 0 _).mono ?_; rintro e w6 ⟨rfl, k⟩; have z76 := below_keep k z7; have hM6 := hM.drew.below k; have hD6 := (HasB.drew hD).below k; have hB6 := below_via k (Below.drew hB) (Nat.le_trans hBm (Nat.le_of_lt hM.ltm)); obtain ⟨⟨s0, s1, s2, s3, s4, s5, s6⟩, sf⟩ := hD6.seven; have dl6 := hD6.lt; have hK6 := (show Kept w Z.drew from hK).below k; clear k)))
  all_goals (
    clear s0 s1 s2 s3 s4 s5 s6 sf z76 hM hD hB hK z7
    go_wp2_with fail
    have hl := fun ty dd hu hd hi => HasB.loads (P := Tryz.prog) (ty := ty) (HasB.set7 (v0 := .int .i64 0) (v1 := .int .i64 0) (v2 := .bool false) (v3 := .float .f64 0) (v4 := .string ⟨#[]⟩) (v5 := .int .i64 0) (v6 := .string ⟨#[]⟩) hD6) dd hu hd hi
    replace hl := hl 37 _ rfl rfl (by kernel_rfl)
    refine bodyPost_ret (results_tmp_cell rfl rfl hl) rfl ⟨_, _, rfl, hM6.but hD6 (by decide) (by decide) (by decide) (by decide) But.set7, below_set7 hB6 (by omega), hK6.new But.set7 (Nat.le_succ _)⟩)
end Go.Proofs.YtngodcoefmihlaaGreatDoor
