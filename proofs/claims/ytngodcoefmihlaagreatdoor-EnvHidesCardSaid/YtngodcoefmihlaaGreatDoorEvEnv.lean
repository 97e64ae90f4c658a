/-
  What a machine answers when it is asked for an environment. Conditions: the machine's cells are as said.
-/
import Derived.Test.YtngodcoefmihlaaGreatDoorEvOwn
namespace Go.Proofs.YtngodcoefmihlaaGreatDoor
open Go.RowKit

/-- A machine that has environments alone: its own cells, its heap's, its environments'. -/
def EvM (m h B : Nat) (cM : Int) (v : Value) (kn : Value × Value) (E : List EnvR) (used : Int) (W : World) : Prop :=
  MachAt W m 10 cM 0 0 10 false h v (.slice none 0 0) (.slice none 0 0) .nilFunc kn.1 (.slice none 0 0) 0 0 ∧ HeapAt W h kn.2 cM used ∧ EnvsAt W B v E
variable {m h B : Nat} {cM used : Int} {v : Value} {kn : Value × Value} {E : List EnvR} {W W' w : World}
theorem EvM.below (H : EvM m h B cM v kn E used W) (k : Below W.heap.size W W') : EvM m h B cM v kn E used W' := ⟨HasB.below H.1 k, HasB.below H.2.1 k, H.2.2.below k⟩
theorem EvM.drew (H : EvM m h B cM v kn E used W) : EvM m h B cM v kn E used W.drew := H
theorem EvM.q7 (H : EvM m h B cM v kn E used W) : W.cell? ⟨m, 7, none⟩ = some v := HasB.cell H.1 7
theorem EvM.ltm (H : EvM m h B cM v kn E used W) : m < W.heap.size := HasB.lt H.1
theorem EvM.lth (H : EvM m h B cM v kn E used W) : h < W.heap.size := HasB.lt H.2.1
def EnvAns (w : World) (o : Int) (l : List Bnd) (e : Ending) (w' : World) : Prop := ∃ v', e = .returned (.tuple #[.agg (env3 o v'), .bool true]) ∧ NamesFrom w.heap.size w' v' l ∧ Below w.heap.size w w'
set_option maxHeartbeats 2000000 in
set_option maxRecDepth 100000 in
theorem Machine_Env (n : Nat) (r : EnvR) (hr : E[n]? = some r) (hl : r.l.length ≤ 1048576) (H : EvM m h B cM v kn E used w) :
    Calls Tryz.prog 94 #[.pointer (some ⟨m, 0, none⟩), .int .i64 n] w (EnvAns w r.outer r.l) := by
  obtain ⟨hn, er⟩ := List.getElem?_eq_some_iff.1 hr
  have HI := fun w H => @Machine_is m 10 cM 0 0 10 false h v (.slice none 0 0) (.slice none 0 0) .nilFunc kn.1 (.slice none 0 0) 0 0 w H
  have hn1 : ¬ ((n : Int) < 0) := by omega
  have hn2 : (n : Int) < (E.length : Int) := by omega
  go_enter Tryz.func94, Tryz.ntmps94
  go_upto_region 1 with (fail)
  refine wp_gen (fun X => (Below w.heap.size w X ∧ EvM m h B cM v kn E used X) ∧ HasB X w.heap.size env0 138) ?_ ?_
  · exact ⟨⟨by go_grown, H.below (by go_grown)⟩, HasB.newAt rfl⟩
  rintro X ⟨⟨hb, H1⟩, h0⟩
  clear H
  have q7 := H1.q7
  obtain ⟨g, c, rfl, -, hg, c0, c1, c2, cf⟩ := H1.2.2.form n hn
  have hN := H1.2.2.2 E[n] (List.getElem_mem hn)
  rw [er] at c0 c2 hN
  clear er hr
  have HB := Lib.hid hb
  have HH := Lib.hid h0
  clear hb h0
  go_upto_region 3 with (go_at_call 55; refine (HI _ H1.1).mono ?_; rintro e w' ⟨rfl, rfl⟩)
  go_wp2_with (first
    | (go_at_call 134; refine (machine_ownF r.outer r.nv r.l _ hl hN).mono ?_; rintro e w' ⟨v', rfl, hN', k⟩; replace hN' : NamesFrom w.heap.size w' v' r.l := owns_le hN' HB.out.size; obtain ⟨a2, c2, rfl⟩ := names_shape hN'.at; have HH' := Lib.hid (HH.out.below k); have HB' := Lib.hid (below_via k HB.out HB.out.size))
    | ((with_reducible refine at_store 138 ?_); refine wpList_storeB HH'.out (env3 r.outer (.slice a2 r.l.length c2)) rfl rfl rfl rfl rfl (by kernel_rfl) (by kernel_rfl) ?_; intro Z h4 hk hoff; have HBZ := hk _ _ (Nat.le_refl _) HB'.out; have hNZ : NamesFrom w.heap.size Z (.slice a2 r.l.length c2) r.l := owns_off hN' HH'.out (by decide) hoff; clear hk hoff))
  have hl4 := fun ty d hu hd hi => HasB.loads (P := Tryz.prog) (ty := ty) h4 d hu hd hi
  replace hl4 := hl4 138 _ rfl rfl (by kernel_rfl)
  exact bodyPost_ret (results_cell_tmp rfl rfl hl4) rfl ⟨_, rfl, hNZ, HBZ⟩
theorem build_env0 (w : World) : (Instr.build 138 #[]).run Tryz.prog w = .ok (.agg env0) w := run_build w 138 #[] _ (by kernel_rfl)
attribute [local go_sem] build_env0
set_option maxRecDepth 100000 in
/-- There is none at a number below nought. -/
theorem Machine_Env_none (H : EvM m h B cM v kn E used w) :
    Calls Tryz.prog 94 #[.pointer (some ⟨m, 0, none⟩), .int .i64 (-1)] w fun e w' => e = .returned (.tuple #[.agg env0, .bool false]) ∧ Below w.heap.size w w' := by
  have HI := fun w H => @Machine_is m 10 cM 0 0 10 false h v (.slice none 0 0) (.slice none 0 0) .nilFunc kn.1 (.slice none 0 0) 0 0 w H
  go_enter Tryz.func94, Tryz.ntmps94
  go_upto_region 1 with (fail)
  refine wp_gen (fun X => (Below w.heap.size w X ∧ EvM m h B cM v kn E used X) ∧ HasB X w.heap.size env0 138) ?_ ?_
  · exact ⟨⟨by go_grown, H.below (by go_grown)⟩, HasB.newAt rfl⟩
  rintro X ⟨⟨hb, H1⟩, h0⟩
  clear H
  go_wp2_with (first
    | (go_at_call 55; refine (HI _ H1.1).mono ?_; rintro e w' ⟨rfl, rfl⟩)
    | ((with_reducible refine at_store 138 ?_); refine wpList_storeB h0 env0 rfl rfl rfl rfl rfl (by kernel_rfl) (by kernel_rfl) ?_; intro Z h4 hk hoff; have HBZ := hk _ _ (Nat.le_refl _) hb; clear hk hoff))
  have hl4 := fun ty d hu hd hi => HasB.loads (P := Tryz.prog) (ty := ty) h4 d hu hd hi
  replace hl4 := hl4 138 _ rfl rfl (by kernel_rfl)
  exact bodyPost_ret (results_cell_tmp rfl rfl hl4) rfl ⟨rfl, HBZ⟩
/-- It is not over. -/
theorem env_limit (H : EvM m h B cM v kn E used w) :
    Calls Tryz.prog 93 #[.pointer (some ⟨m, 0, none⟩)] w fun e w' => e = .returned (.tuple #[done0, .bool false]) ∧ Below w.heap.size w w' := by
  have HH := fun w H => @Machine_Heap m 10 cM 0 0 10 false h v (.slice none 0 0) (.slice none 0 0) .nilFunc kn.1 (.slice none 0 0) 0 0 w H
  have HO := fun w H => @Machine_Over m 10 cM 0 0 10 false h v (.slice none 0 0) (.slice none 0 0) .nilFunc kn.1 (.slice none 0 0) 0 0 w H
  have hlt := H.ltm
  go_enter Tryz.func93, Tryz.ntmps93
  go_wp2_with (first | (go_at_call 100; refine (HH _ (HasB.alloc H.1 _)).mono ?_; rintro e w' ⟨rfl, rfl⟩) | (go_at_call 10; refine (HO _ (HasB.alloc H.1 _)).mono ?_; rintro e w' ⟨rfl, rfl⟩))
  refine bodyPost_ret (v := .tuple #[done0, .bool false]) (by simp [results, Tryz.results93, go_sem]) rfl ⟨rfl, ?_⟩
  go_grown
end Go.Proofs.YtngodcoefmihlaaGreatDoor
