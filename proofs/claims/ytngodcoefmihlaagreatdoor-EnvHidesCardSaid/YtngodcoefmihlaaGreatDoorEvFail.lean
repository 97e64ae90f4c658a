/-
  machine.Known, value.Object, machine.Fail. Conditions: the machine's cells are as said; no object is known and none was made; there is room.
-/
import Derived.Test.YtngodcoefmihlaaGreatDoorEvPut
namespace Go.Proofs.YtngodcoefmihlaaGreatDoor
open Go.RowKit
variable {m h B : Nat} {cM used : Int} {v : Value} {kn : Value × Value} {E : List EnvR} {W W' w : World}

/-- The list of known objects: none is known. -/
def KnAt (W : World) (v : Value) : Prop := W.ownsRow 0 3 1 v 15 (List.replicate 15 (.int .i64 (-1)))
theorem KnAt.below {v : Value} (h : KnAt W v) (k : Below W.heap.size W W') : KnAt W' v := owns_below h k
theorem KnAt.kept {v : Value} (h : KnAt w v) (k : Kept w W) : KnAt W v := by
  rcases h.2 with hn | ⟨g, cap, cur, hv, hb, hg, r⟩
  · exact ⟨h.1, .inl hn⟩
  · exact ⟨h.1, .inr ⟨g, cap, cur, hv, hb, k.2 g cur _ hg (by decide) (by decide) (by decide), r⟩⟩
theorem KnAt.form {v : Value} (h : KnAt W v) : ∃ g c, v = .slice (some ⟨g, 0, none⟩) 15 c ∧ ∀ j, j < 15 → W.cell? ⟨g, j, none⟩ = some (.int .i64 (-1)) := by
  have h0 := h
  rcases h.2 with ⟨hv, hn⟩ | ⟨g, cap, cur, hv, hb, hg, r⟩
  · cases hn
  · subst hv
    refine ⟨g, cap, rfl, fun j hj => ?_⟩
    rw [World.ownsRow.cellAt (g := g) (cap := cap) h0 j (by simpa using hj), List.getElem?_replicate, if_pos hj]
theorem EvM.taken {u2 : Int} {l2 : Value} (H : EvM m h B cM v kn E used W) (hmh : h ≠ m) (h1 : HeapAt W' h l2 cM u2) (k : But h W W') : EvM m h B cM v (kn.1, l2) E u2 W' :=
  ⟨k.hasB H.1 (Ne.symm hmh), h1, owns_but H.2.2.1 k H.2.1 (by decide), fun e he => owns_but (H.2.2.2 e he) k H.2.1 (by decide)⟩
theorem Machine_Known (k : Nat) (hk : k < 15) (hK : KnAt w kn.1) (H : EvM m h B cM v kn E used w) :
    Calls Tryz.prog 52 #[.pointer (some ⟨m, 0, none⟩), .int .i64 k] w fun e w' => e = .returned (.int .i64 (-1)) ∧ w = w' := by
  have HI := fun w H => @Machine_is m 10 cM 0 0 10 false h v (.slice none 0 0) (.slice none 0 0) .nilFunc kn.1 (.slice none 0 0) 0 0 w H
  have HJ := HI w H.1
  clear HI
  obtain ⟨kv, kh⟩ := kn
  obtain ⟨g, c, e, hat⟩ := hK.form
  have e : kv = .slice (some ⟨g, 0, none⟩) 15 c := e
  subst e
  have q11 : w.cell? ⟨m, 11, none⟩ = some (.slice (some ⟨g, 0, none⟩) 15 c) := HasB.cell H.1 11
  have hn1 : ¬ ((k : Int) < 0) := by omega
  have hn2 : (k : Int) < 15 := by omega
  have hn3 : ¬ ((15 : Int) ≤ (k : Int)) := by omega
  have hg := hat k hk
  clear hat H hK hk
  go_enter Tryz.func52, Tryz.ntmps52
  go_wp2_with (go_at_call 55; refine HJ.mono ?_; rintro e w' ⟨rfl, rfl⟩)
  go_ret
  exact ⟨rfl, rfl⟩
theorem value_Object0 (w : World) : Calls Tryz.prog 86 #[.int .i64 0] w fun e w' => e = .returned (val 5 false 0 ⟨#[]⟩ 0) ∧ Below w.heap.size w w' := by
  go_enter Tryz.func86, Tryz.ntmps86
  go_wp2
  go_returns
  exact ⟨rfl, by go_grown⟩
theorem build_obj7 (w : World) : (Instr.build 59 #[(0, .int .i64 7), (1, .int .i64 (-1))]).run Tryz.prog w = .ok (obj0 7 (-1) 0) w := run_build w 59 _ _ (by kernel_rfl)
abbrev throw7 : Array Value := #[.int .i64 1, .int .i64 5, .bool false, .float .f64 0, .string ⟨#[]⟩, .int .i64 0, .string ⟨#[]⟩]
theorem build_throw (w : World) : (Instr.build 37 #[(0, .int .i64 1), (1, val 5 false 0 ⟨#[]⟩ 0)]).run Tryz.prog w = .ok (.agg throw7) w := run_build w 37 _ _ (by kernel_rfl)
attribute [local go_sem] build_obj7 build_throw
set_option maxHeartbeats 4000000 in
set_option maxRecDepth 100000 in
theorem Machine_Fail (k : Nat) (hk : k < 15) (B0 : Nat) (a : World) (hB : Below B0 a w) (hBm : B0 ≤ m) (hBh : B0 ≤ h) (hmh : h ≠ m) (hu : 0 ≤ used) (hR : 1 ≤ cM - used) (hc : cM ≤ 16777216) (hkn : kn.2 = .slice none 0 0) (hK : KnAt w kn.1) (H : EvM m h B cM v kn E used w) :
    Calls Tryz.prog 77 #[.pointer (some ⟨m, 0, none⟩), .int .i64 k] w fun e w' => ∃ l2, e = .returned (.agg throw7) ∧ EvM m h B cM v (kn.1, l2) E (used + 1) w' ∧ Below B0 a w' ∧ Kept w w' := by
  have hlm := H.ltm
  obtain ⟨kv, kh⟩ := kn
  have hkn : kh = .slice none 0 0 := hkn
  subst hkn
  go_enter Tryz.func77, Tryz.ntmps77
  go_upto_region 1 with (fail)
  refine wp_gen (fun X => CreS w m h B cM v (kv, .slice none 0 0) E used B0 a X ∧ KnAt X kv) ?_ ?_
  · exact ⟨⟨H.below (by go_grown), HasB.newAt rfl, Below.alloc hB (by omega) _, Kept.of (by go_grown)⟩, KnAt.below hK (by go_grown)⟩
  intro X hS0
  have hS := Lib.hid hS0
  clear hS0 H hB hK
  go_upto_region 2 with (first
    | (go_at_call 52; refine (Machine_Known k hk hS.out.2 hS.out.1.1).mono ?_; rintro e w' ⟨rfl, rfl⟩)
    | (go_at_call 23; refine (Machine_Alloc 7 0 cM used hS.out.1.1.1 hS.out.1.1.2.1 (Ne.symm hmh) (.inr (.inr rfl)) (by decide) hR hu hc).mono ?_; rintro e w2 ⟨rfl, ⟨g1, c1, x1, y1, z1, mp1, -, -, hH2, -, -⟩, hBut⟩; have hT := Lib.hid (show CreS w m h B cM v (kv, .slice (some ⟨g1, 0, none⟩) 1 c1) E (used + 1) B0 a w2 from ⟨hS.out.1.1.taken hmh hH2 hBut, hBut.hasB hS.out.1.2.1 (ne_types hS.out.1.1.2.1 hS.out.1.2.1 (by decide)), hBut.below hS.out.1.2.2.1 hBh (by have := hS.out.1.1.lth; omega), hS.out.1.2.2.2.but hBut hS.out.1.1.2.1 (.inr (.inl rfl))⟩); clear hH2 hBut)
    | ((with_reducible refine at_store 37 ?_); refine wpList_storeB (HasB.new _ _ _) done7 rfl rfl rfl rfl rfl (by kernel_rfl) (by kernel_rfl) ?_; intro V h1 hk hoff; have kk := hk _ _ (Nat.le_refl _) (Below.alloc (Below.refl _ _) (Nat.le_refl _) _); replace hT := Lib.hid (hT.out.go hBm kk); have c0 := h1.cell 0; clear h1 hk hoff kk))
  go_wp2_with (first
    | (go_at_call 86; refine (value_Object0 _).mono ?_; rintro e w' ⟨rfl, k⟩; replace hT := Lib.hid (hT.out.go hBm k); clear k c0)
    | ((with_reducible refine at_store 37 ?_); refine wpList_storeB hT.out.2.1 throw7 rfl rfl rfl rfl rfl (by kernel_rfl) (by kernel_rfl) ?_; intro Z h4 hk hoff; have HZ := Lib.hid h4; have HM := Lib.hid (hT.out.1.off hT.out.2.1 hoff); have HB := Lib.hid (hk _ _ (by omega) hT.out.2.2.1); have HK := Lib.hid (hT.out.2.2.2.off (hk _ _ (Nat.zero_le _) (Below.refl _ _)).size (Nat.le_refl _) hoff); clear h4 hk hoff))
  have hl4 := fun ty dd hu hd hi => HasB.loads (P := Tryz.prog) (ty := ty) HZ.out dd hu hd hi
  replace hl4 := hl4 37 _ rfl rfl (by kernel_rfl)
  exact bodyPost_ret (results_cell rfl rfl hl4) rfl ⟨_, rfl, HM.out, HB.out, HK.out⟩
end Go.Proofs.YtngodcoefmihlaaGreatDoor
