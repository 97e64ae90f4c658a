/-
  quilllaw03.NumtextFew answers true for every float, and leaves its argument as it was (the tied card). No condition beyond the card's own.
-/
import Derived.Test.YtdpbpdhamekcdaaGreatDoorCards
import Derived.Test.YtdpbpdhamekcdaaGreatDoorTie
import Derived.Test.YtdpbpdhamekcdaaGreatDoorFxM36
import Derived.Test.YtdpbpdhamekcdaaGreatDoorFxM37
import Derived.Test.YtdpbpdhamekcdaaGreatDoorNumtextFewClosed
import Derived.ProofKit
import Derived.Lay
import Derived.LaidOnce
import Derived.SevenTiedAt
import Derived.Laws.Cover2
namespace Go.Proofs.YtdpbpdhamekcdaaGreatDoor.numtextFew
open Go.ChangeShapes Go.WideShapes Go.ChangeAt Go.RowKit
open Us

theorem own : ownKnob Tryz.prog.godebug = none := by kernel_rfl
set_option maxRecDepth 100000 in
theorem lifted (os : Os) (started : os.Started) (H : Type) (enc : TypeId × Value → H) :
    ReturnsInHanded {} Tryz.checked os 10 .any (fun w args => (Rows.numtextFewSpec.pre enc Tryz.prog Tryz.f10 [] false w args ∧ laidMetH Tryz.prog Rows.numtextFewRow.laid w) ∧ sizedMet enc Tryz.prog Tryz.f10 (OpenSpec.ofChange Rows.numtextFewSpec) false w args)
      (Rows.numtextFewSpec.post enc Tryz.prog Tryz.f10 false true false false) := by
  refine handed_laid (laid := Rows.numtextFewRow.laid) own started (by kernel_rfl) Tryz.func10
    (ChangeSpec.witness_shaped (enc := enc) (C := Tryz.checked) (os := os) (X := fun w _ => laidMetH Tryz.prog Rows.numtextFewRow.laid w) false (World.laidAll Tryz.prog os Rows.numtextFewRow.laid) #[.float .f64 0] 8 (World.laidAll_os _ _ _)
      (World.shaped_of_ZipB (by kernel_rfl) (by kernel_rfl)) (by kernel_rfl) (by kernel_rfl) (by kernel_rfl)
      (by rw [MakeChecks.laidMetH_plain _ _ _ (by kernel_rfl)]; exact laidMet_laidAll _ (by kernel_rfl) (by kernel_rfl))) ?_
  intro W base args ds gs before hval0 hW _ hL hS
  have hval : ∀ (j : Nat) t v, Tryz.f10.params[j]? = some t → args[j]? = some v → Value.okWide Tryz.prog W .any base t v := hval0
  have hW' := hW
  obtain ⟨p, q, hA0, hV, rfl, _, _⟩ := hW
  have hA : DataW.TrodAll enc Tryz.prog W 0 (fun _ => true) true Tryz.f10.params.toList args.toList ds p := hA0
  rw [Tryz.params10] at hA hval
  obtain ⟨v0, d0, rfl, rfl, h0⟩ := trodAll_one hA
  obtain ⟨rfl, rfl⟩ := trodVars_none hV
  obtain ⟨x, rfl, rfl, rfl, wx⟩ := open_float Tryz.underlying24 (hval 0 24 v0 rfl rfl) h0
  have hx : x < 18446744073709551616 := by simpa [Lit.wf] using wx
  rw [MakeChecks.laidMetH_plain _ _ _ (by kernel_rfl)] at hL
  have hT : Tabs W := ⟨p10_of (Lib.laidMet.reads hL (List.mem_of_getElem? (i := 13) rfl)), u10_of (Lib.laidMet.reads hL (List.mem_of_getElem? (i := 8) rfl)), some_len hS⟩
  have hR : Rdt W := rdt_of (Lib.laidMet.reads hL (List.mem_of_getElem? (i := 4) rfl)) (Lib.laidMet.reads hL (List.mem_of_getElem? (i := 3) rfl)) (Lib.laidMet.reads hL (List.mem_of_getElem? (i := 6) rfl)) (Lib.laidMet.reads hL (List.mem_of_getElem? (i := 10) rfl))
  have hZ : Tz W := tz_of (Lib.laidMet.reads hL (List.mem_of_getElem? (i := 1) rfl))
  simp only [List.append_nil] at hW'
  refine (law_Few hx hR hT hZ).mono fun e W' ⟨he, hb⟩ => ?_
  subst he
  exact ⟨_, rfl, _, _, _, [], [], [], hW', trodAll_mk1 (shut_bool Tryz.underlying4 _), trodAll_mk1 (shut_float Tryz.underlying24 wx), rfl, hb.frame _, fun h => by cases h⟩

theorem said : Rows.NumtextFewSaid :=
  OpenClaim.holds_of_wide 10 Tryz.f10 rfl rfl rfl rfl rfl rfl rfl ⟨rfl, rfl, rfl, rfl, rfl⟩ rfl rfl rfl rfl rfl (by kernel_rfl) Tryz.func10 closed
    (of_decide_eq_true (by kernel_rfl)) (by unfold Func.isWrapper; first | (rw [if_pos (by decide +kernel)]; kernel_rfl) | (rw [if_neg (by decide +kernel)]; exact ⟨rfl, rfl⟩))
    (fun os started H enc _ => lifted os started H enc)

theorem plain (f : FuncId) (fn : Func) (hf : Tryz.pinned.checked.prog.funcNamed "quill/quilllaw03.NumtextFew" = some f) (hfn : Tryz.pinned.checked.prog.funcs[f]? = some fn) :
    true = Tryz.pinned.checked.prog.looks [] ∧ ∀ (j : Nat) t, fn.params[j]? = some t → Tryz.pinned.checked.prog.wantsStandIn t = false := by
  obtain rfl : f = 10 := Option.some.inj ((show Tryz.prog.funcNamed "quill/quilllaw03.NumtextFew" = some 10 by kernel_rfl).symm.trans hf) |>.symm
  obtain rfl : fn = Tryz.f10 := (Option.some.inj (Tryz.func10.symm.trans hfn)).symm
  refine ⟨by kernel_rfl, fun j t ht => ?_⟩
  rw [Tryz.params10] at ht
  have hm : t ∈ [24] := by simpa using Array.mem_of_getElem? ht
  have hall : ([24].all fun u => !Tryz.prog.wantsStandIn u) = true := by kernel_rfl
  exact (show Tryz.prog.wantsStandIn t = false by simpa using List.all_eq_true.1 hall t hm)

theorem card : Rows.NumtextFewCardSaid :=
  Claim7.holds_tied_plain_at .later [] _ _ _ _ said (fun _ h => by cases h) (by kernel_rfl) (fun _ h => by cases h) numtextFew_row_tie rfl ⟨rfl, rfl⟩ (by kernel_rfl) rfl plain (by kernel_rfl)
#print axioms card
end Go.Proofs.YtdpbpdhamekcdaaGreatDoor.numtextFew
