/-
  quilllaw03.NumtextFixed answers true for every float and integer, and leaves its argument as it was (the tied card). No condition beyond the card's own.
-/
import Derived.Test.YtdpbpdhamekcdaaGreatDoorCards
import Derived.Test.YtdpbpdhamekcdaaGreatDoorTie
import Derived.Test.YtdpbpdhamekcdaaGreatDoorFiM24
import Derived.Test.YtdpbpdhamekcdaaGreatDoorFiM25
import Derived.Test.YtdpbpdhamekcdaaGreatDoorNumtextFixedClosed
import Derived.ProofKit
import Derived.Lay
import Derived.LaidOnce
import Derived.SevenTiedAt
import Derived.Laws.Cover2
namespace Go.Proofs.YtdpbpdhamekcdaaGreatDoor.numtextFixed
open Go.ChangeShapes Go.WideShapes Go.ChangeAt Go.RowKit
open Us

theorem own : ownKnob Tryz.prog.godebug = none := by kernel_rfl
set_option maxRecDepth 100000 in
theorem lifted (os : Os) (started : os.Started) (H : Type) (enc : TypeId × Value → H) :
    ReturnsInHanded {} Tryz.checked os 9 .any (fun w args => (Rows.numtextFixedSpec.pre enc Tryz.prog Tryz.f9 [] false w args ∧ laidMetH Tryz.prog Rows.numtextFixedRow.laid w) ∧ sizedMet enc Tryz.prog Tryz.f9 (OpenSpec.ofChange Rows.numtextFixedSpec) false w args)
      (Rows.numtextFixedSpec.post enc Tryz.prog Tryz.f9 false true false false) := by
  refine handed_laid (laid := Rows.numtextFixedRow.laid) own started (by kernel_rfl) Tryz.func9
    (ChangeSpec.witness_shaped (enc := enc) (C := Tryz.checked) (os := os) (X := fun w _ => laidMetH Tryz.prog Rows.numtextFixedRow.laid w) false (World.laidAll Tryz.prog os Rows.numtextFixedRow.laid) #[.float .f64 0, .int .i64 0] 16 (World.laidAll_os _ _ _)
      (World.shaped_of_ZipB (by kernel_rfl) (by kernel_rfl)) (by kernel_rfl) (by kernel_rfl) (by kernel_rfl)
      (by rw [MakeChecks.laidMetH_plain _ _ _ (by kernel_rfl)]; exact laidMet_laidAll _ (by kernel_rfl) (by kernel_rfl))) ?_
  intro W base args ds gs before hval0 hW _ hL hS
  have hval : ∀ (j : Nat) t v, Tryz.f9.params[j]? = some t → args[j]? = some v → Value.okWide Tryz.prog W .any base t v := hval0
  have hW' := hW
  obtain ⟨p, q, hA0, hV, rfl, _, _⟩ := hW
  have hA : DataW.TrodAll enc Tryz.prog W 0 (fun _ => true) true Tryz.f9.params.toList args.toList ds p := hA0
  rw [Tryz.params9] at hA hval
  obtain ⟨v0, v1, d0, d1, p0, p1, rfl, rfl, rfl, h0, h1⟩ := trodAll_two hA
  obtain ⟨rfl, rfl⟩ := trodVars_none hV
  obtain ⟨x, rfl, rfl, rfl, wx⟩ := open_float Tryz.underlying24 (hval 0 24 v0 rfl rfl) h0
  obtain ⟨z, rfl, rfl, rfl, wz⟩ := open_int Tryz.underlying3 (hval 1 3 v1 rfl rfl) h1
  have hx : x < 18446744073709551616 := by simpa [Lit.wf] using wx
  rw [MakeChecks.laidMetH_plain _ _ _ (by kernel_rfl)] at hL
  have hT : Tabs W := ⟨p10_of (Lib.laidMet.reads hL (List.mem_of_getElem? (i := 13) rfl)), u10_of (Lib.laidMet.reads hL (List.mem_of_getElem? (i := 8) rfl)), some_len hS⟩
  have hR : Rds W := rds_of (Lib.laidMet.reads hL (List.mem_of_getElem? (i := 4) rfl)) (Lib.laidMet.reads hL (List.mem_of_getElem? (i := 3) rfl)) (Lib.laidMet.reads hL (List.mem_of_getElem? (i := 6) rfl))
  have hZ : Tz W := tz_of (Lib.laidMet.reads hL (List.mem_of_getElem? (i := 1) rfl))
  simp only [List.append_nil] at hW'
  refine (law_Fixed hx hR hT hZ).mono fun e W' ⟨he, hb⟩ => ?_
  subst he
  exact ⟨_, rfl, _, _, _, [], [], [], hW', trodAll_mk1 (shut_bool Tryz.underlying4 _), trodAll_mk2 (shut_float Tryz.underlying24 wx) (shut_int Tryz.underlying3 wz), rfl, hb.frame _, fun h => by cases h⟩

theorem said : Rows.NumtextFixedSaid :=
  OpenClaim.holds_of_wide 9 Tryz.f9 rfl rfl rfl rfl rfl rfl rfl ⟨rfl, rfl, rfl, rfl, rfl⟩ rfl rfl rfl rfl rfl (by kernel_rfl) Tryz.func9 closed
    (of_decide_eq_true (by kernel_rfl)) (by unfold Func.isWrapper; first | (rw [if_pos (by decide +kernel)]; kernel_rfl) | (rw [if_neg (by decide +kernel)]; exact ⟨rfl, rfl⟩))
    (fun os started H enc _ => lifted os started H enc)

theorem plain (f : FuncId) (fn : Func) (hf : Tryz.pinned.checked.prog.funcNamed "quill/quilllaw03.NumtextFixed" = some f) (hfn : Tryz.pinned.checked.prog.funcs[f]? = some fn) :
    true = Tryz.pinned.checked.prog.looks [] ∧ ∀ (j : Nat) t, fn.params[j]? = some t → Tryz.pinned.checked.prog.wantsStandIn t = false := by
  obtain rfl : f = 9 := Option.some.inj ((show Tryz.prog.funcNamed "quill/quilllaw03.NumtextFixed" = some 9 by kernel_rfl).symm.trans hf) |>.symm
  obtain rfl : fn = Tryz.f9 := (Option.some.inj (Tryz.func9.symm.trans hfn)).symm
  refine ⟨by kernel_rfl, fun j t ht => ?_⟩
  rw [Tryz.params9] at ht
  have hm : t ∈ [24, 3] := by simpa using Array.mem_of_getElem? ht
  have hall : ([24, 3].all fun u => !Tryz.prog.wantsStandIn u) = true := by kernel_rfl
  exact (show Tryz.prog.wantsStandIn t = false by simpa using List.all_eq_true.1 hall t hm)

theorem card : Rows.NumtextFixedCardSaid :=
  Claim7.holds_tied_plain_at .later [] _ _ _ _ said (fun _ h => by cases h) (by kernel_rfl) (fun _ h => by cases h) numtextFixed_row_tie rfl ⟨rfl, rfl⟩ (by kernel_rfl) rfl plain (by kernel_rfl)
#print axioms card
end Go.Proofs.YtdpbpdhamekcdaaGreatDoor.numtextFixed
