/-
  An environment of its own; where an environment has a name, and whether it has it. Conditions: its names lie in memory.
-/
import Derived.Test.YtngodcoefmihlaaGreatDoorEvPlace
import Derived.Deep.Cut
namespace Go.Proofs.YtngodcoefmihlaaGreatDoor
open Go.RowKit

abbrev env3 (o : Int) (v : Value) : Array Value := #[.int .i64 o, .int .i64 (-1), v]
abbrev env0 : Array Value := #[.int .i64 0, .int .i64 0, .slice none 0 0]
theorem names_shape {W : World} {v : Value} {l : List Bnd} (h : NamesAt W v l) : ∃ a c, v = .slice a l.length c := own_shape h
theorem owns_off {X Z : World} {base e size n : Nat} {v : Value} {xs : List Value} (h : X.ownsRow base e size v n xs) {b : Nat} {cs : Array Value} {t : TypeId} (hx : HasB X b cs t) (ht : t ≠ e) (hoff : ∀ c cs t, c ≠ b → HasB X c cs t → HasB Z c cs t) : Z.ownsRow base e size v n xs := by
  rcases h.2 with hn | ⟨g, cap, cur, hv, hb, hg, r⟩
  · exact ⟨h.1, .inl hn⟩
  · have hne : g ≠ b := by
      rintro rfl
      have e1 := hx.symm.trans hg
      simp only [Option.some.injEq, Obj.cells.injEq] at e1
      exact ht e1.2.1
    exact ⟨h.1, .inr ⟨g, cap, cur, hv, hb, hoff g cur e hne hg, r⟩⟩
def EOwnS (w : World) (o : Int) (v : Value) (l : List Bnd) (W : World) : Prop := Below w.heap.size w W ∧ HasB W w.heap.size (env3 o v) 138 ∧ HasB W (w.heap.size + 1) env0 138 ∧ NamesAt W v l
theorem HasB.set3c {w : World} {b : Nat} {t : TypeId} {a0 a1 a2 v2 : Value} (h : HasB w b #[a0, a1, a2] t) : HasB (w.setCell ⟨b, 2, none⟩ v2) b #[a0, a1, v2] t := by
  have h := HasB.set h 2 v2
  simp at h
  exact h
set_option maxHeartbeats 1000000 in
set_option maxRecDepth 100000 in
theorem machine_ownF (o : Int) (v : Value) (l : List Bnd) (w : World) (hl : l.length ≤ 1048576) (hN : NamesAt w v l) :
    Calls Tryz.prog 134 #[.agg (env3 o v)] w fun e w' => ∃ v', e = .returned (.agg (env3 o v')) ∧ NamesFrom w.heap.size w' v' l ∧ Below w.heap.size w w' := by
  obtain ⟨a, c, rfl⟩ := names_shape hN
  go_enter Tryz.func134, Tryz.ntmps134
  go_upto_region 1 with (fail)
  refine wp_gen (fun W => EOwnS w o (.slice a l.length c) l W) ?_ ?_
  · exact ⟨by go_grown, (HasB.newAt rfl).alloc _, HasB.newAt (by simp), hN.below (by go_grown)⟩
  rintro W ⟨hb, h1, h2, hN1⟩
  clear hN
  have q2 := h1.cell 2
  go_upto_region 2 with (go_at_call 174; refine (Clone_bndF l _ _ hl hN1).mono ?_; rintro e w' ⟨v', rfl, hN2, k⟩; replace hN2 : NamesFrom w.heap.size w' v' l := owns_le hN2 (Nat.le_of_lt (Nat.lt_trans (Nat.lt_succ_self _) h2.lt)); have r1 := h1.below k; have r2 := h2.below k; have rb := below_via k hb hb.size; have r1f := r1.free; have r1l := r1.lt; have s2 := r1.cell 2; obtain ⟨a2, c2, rfl⟩ := names_shape hN2.at; clear k hb h1 h2 hN1 q2)
  refine wp_gen (fun X => Below w.heap.size w X ∧ HasB X w.heap.size (env3 o (.slice a2 l.length c2)) 138 ∧ HasB X (w.heap.size + 1) env0 138 ∧ NamesFrom w.heap.size X (.slice a2 l.length c2) l) ?_ ?_
  · exact ⟨Below.setCell rb (Nat.le_refl _) _, r1.set3c, r2.far (by simp) _, owns_other hN2 r1 (by decide) _⟩
  clear r1 r2 rb r1f r1l hN2 s2
  rintro X ⟨hb, h1, h2, hN2⟩
  go_wp2_with (first
    | ((with_reducible refine at_load 138 ?_); refine wpList_loadB h1 _ rfl rfl rfl rfl rfl (by kernel_rfl) ?_)
    | ((with_reducible refine at_store 138 ?_); refine wpList_storeB h2 (env3 o (.slice a2 l.length c2)) rfl rfl rfl rfl rfl (by kernel_rfl) (by kernel_rfl) ?_; intro Z h4 hk hoff; have HBZ := hk _ _ (Nat.le_succ _) hb; have hNZ : NamesFrom w.heap.size Z (.slice a2 l.length c2) l := owns_off hN2 h2 (by decide) hoff; clear hk hoff))
  have hl4 := fun ty d hu hd hi => HasB.loads (P := Tryz.prog) (ty := ty) h4 d hu hd hi
  replace hl4 := hl4 138 _ rfl rfl (by kernel_rfl)
  exact bodyPost_ret (results_cell rfl rfl hl4) rfl ⟨_, rfl, hNZ, HBZ⟩

theorem machine_own (o : Int) (v : Value) (l : List Bnd) (w : World) (hl : l.length ≤ 1048576) (hN : NamesAt w v l) :
    Calls Tryz.prog 134 #[.agg (env3 o v)] w fun e w' => ∃ v', e = .returned (.agg (env3 o v')) ∧ NamesAt w' v' l ∧ Below w.heap.size w w' :=
  (machine_ownF o v l w hl hN).mono fun _ _ ⟨v', h1, h2, h3⟩ => ⟨v', h1, h2.at, h3⟩
theorem env_place (o : Int) (v : Value) (l : List Bnd) (nm : ByteArray) (w : World) (hl : l.length ≤ 1048576) (hN : NamesAt w v l) :
    Calls Tryz.prog 97 #[.agg (env3 o v), .string nm] w fun e w' => e = .returned (.int .i64 (bplace nm l)) ∧ Below w.heap.size w w' := by
  go_enter Tryz.func97, Tryz.ntmps97
  go_upto_region 1 with (fail)
  refine wp_gen (fun W => (Below w.heap.size w W ∧ NamesAt W v l) ∧ W.cell? ⟨w.heap.size, 2, none⟩ = some v ∧ HasB W (w.heap.size + 1) #[.string nm] 9) ?_ ?_
  · exact ⟨⟨by go_grown, hN.below (by go_grown)⟩, ((HasB.newAt rfl).alloc _).cell 2, HasB.newAt (by simp)⟩
  rintro W ⟨⟨hb, hN1⟩, q2, h2⟩
  have HB := Lib.hid hb
  clear hN hb
  go_wp2_with (go_at_call 135; refine (IndexFunc_bnd l v _ nm _ hl hN1 h2).mono ?_; rintro e w' ⟨rfl, k⟩)
  go_ret
  exact ⟨rfl, below_via k HB.out HB.out.size⟩
def bhas (nm : ByteArray) (l : List Bnd) : Bool := (bix nm l).isSome
theorem bplace_has (nm : ByteArray) (l : List Bnd) : decide ((0 : Int) ≤ bplace nm l) = bhas nm l := by
  unfold bplace bhas
  cases bix nm l <;> simp
set_option maxRecDepth 100000 in
theorem env_has (p : Value) (o : Int) (v : Value) (l : List Bnd) (nm : ByteArray) (w : World) (hl : l.length ≤ 1048576) (hN : NamesAt w v l) :
    Calls Tryz.prog 95 #[p, .agg (env3 o v), .string nm] w fun e w' => e = .returned (.bool (bhas nm l)) ∧ Below w.heap.size w w' := by
  go_enter Tryz.func95, Tryz.ntmps95
  go_upto_region 1 with (fail)
  refine wp_gen (fun W => (Below w.heap.size w W ∧ NamesAt W v l) ∧ HasB W w.heap.size (env3 o v) 138) ?_ ?_
  · exact ⟨⟨by go_grown, hN.below (by go_grown)⟩, HasB.newAt rfl⟩
  rintro W ⟨⟨hb, hN1⟩, h2⟩
  have q1 := h2.cell 1
  have HB := Lib.hid hb
  have hpl := bplace_has nm l
  clear hN hb
  go_wp2_with (first
    | ((with_reducible refine at_load 138 ?_); refine wpList_loadB h2 _ rfl rfl rfl rfl rfl (by kernel_rfl) ?_)
    | (go_at_call 97; refine (env_place o v l nm _ hl hN1).mono ?_; rintro e w' ⟨rfl, k⟩))
  go_ret
  refine ⟨?_, below_via k HB.out HB.out.size⟩
  rw [← hpl]
  rfl
end Go.Proofs.YtngodcoefmihlaaGreatDoor
