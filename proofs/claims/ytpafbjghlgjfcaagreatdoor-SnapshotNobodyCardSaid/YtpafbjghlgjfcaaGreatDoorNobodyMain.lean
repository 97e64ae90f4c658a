/-
  quilllaw29.SnapshotNobody answers true for every input, and leaves its arguments as they were (the tied card). No condition beyond the card's own.
-/
import Derived.Test.YtpafbjghlgjfcaaGreatDoorCards
import Derived.Test.YtpafbjghlgjfcaaGreatDoorTie
import Derived.Test.YtpafbjghlgjfcaaGreatDoorNobody
import Derived.Test.YtpafbjghlgjfcaaGreatDoorOpenS
import Derived.Test.YtpafbjghlgjfcaaGreatDoorSnapshotNobodyClosed
import Derived.Carry
import Derived.ProofKit
import Derived.Lay
import Derived.LaidOnce
import Derived.SevenTiedAt
import Derived.Laws.Cover2
namespace Go.Proofs.YtpafbjghlgjfcaaGreatDoor.snapshotNobody
open Go.ChangeShapes Go.WideShapes Go.ChangeAt Go.RowKit
open Go.ChangeMaps (open_string shut_string)

theorem laidOut : laidOutB Tryz.prog = true := by kernel_rfl
theorem own : ownKnob Tryz.prog.godebug = none := by kernel_rfl
set_option maxRecDepth 100000 in
theorem lifted (os : Os) (started : os.Started) (H : Type) (enc : TypeId × Value → H) :
    ReturnsInHanded {} Tryz.checked os 3 .any (fun w args => (Rows.snapshotNobodySpec.pre enc Tryz.prog Tryz.f3 [] false w args ∧ laidMetH Tryz.prog Rows.snapshotNobodyRow.laid w) ∧ sizedMet enc Tryz.prog Tryz.f3 (OpenSpec.ofChange Rows.snapshotNobodySpec) false w args)
      (Rows.snapshotNobodySpec.post enc Tryz.prog Tryz.f3 false true false false) := by
  refine returnsInHanded_of_change_and (C := Tryz.checked) (X := fun w _ => laidMetH Tryz.prog Rows.snapshotNobodyRow.laid w) (fun _ _ _ hh h => h.of_heap hh) own started (by kernel_rfl) Tryz.func3
    (ChangeSpec.witness_shaped (enc := enc) (C := Tryz.checked) (os := os) (X := fun w _ => laidMetH Tryz.prog Rows.snapshotNobodyRow.laid w) false (World.laidAll Tryz.prog os Rows.snapshotNobodyRow.laid) #[.bool false, .slice none 0 0] 8 (World.laidAll_os _ _ _)
      (World.shaped_of_ZipB (by kernel_rfl) (by kernel_rfl)) (by kernel_rfl) (by kernel_rfl) (by kernel_rfl)
      (by rw [MakeChecks.laidMetH_plain _ _ _ (by kernel_rfl)]; exact laidMet_laidAll _ (by kernel_rfl) (by kernel_rfl))) ?_
  intro W base args ds gs before hval0 hW _ hSz hL _
  have hval : ∀ (j : Nat) t v, Tryz.f3.params[j]? = some t → args[j]? = some v → Value.okWide Tryz.prog W .any base t v := hval0
  have hW' := hW
  obtain ⟨p, q, hA0, hV, rfl, _, _⟩ := hW
  have hA : DataW.TrodAll enc Tryz.prog W 0 (fun _ => true) true Tryz.f3.params.toList args.toList ds p := hA0
  rw [Tryz.params3] at hA hval hSz
  obtain ⟨v0, v1, d0, d1, p0, p1, rfl, rfl, rfl, h0, h1⟩ := trodAll_two hA
  have hlt := DataW.TrodAll.lt hA
  obtain ⟨rfl, rfl⟩ := trodVars_none hV
  obtain ⟨b, rfl, rfl, rfl⟩ := open_bool Tryz.underlying4 (hval 0 4 v0 rfl rfl) h0
  have hC : ∀ w1, Below W.heap.size W w1 → Calls Tryz.prog 5 #[v1] w1 (AnyList w1) := by
    intro w1 hb
    rcases open_vals h1 (okWide_slice Tryz.underlying22 (hval 1 22 v1 rfl rfl)) with ⟨a, c, rfl⟩ | ⟨bk, off, len, cap, rfl, hbk, hat, elems, rest, rfl, hlen⟩
    · exact CleanAll_none a c w1
    · have hz := sized_slice hSz (j := 1) (t := 22) (e := 56) rfl rfl Tryz.underlying22
      rw [show Tryz.checked.prog.bytesOf 56 = 48 by kernel_rfl, hlen] at hz
      have hr := reachBytes_lt
      refine (law14_CleanAll bk off len cap w1 (Nat.lt_of_lt_of_le hbk hb.size) (by unfold reachBytes at *; omega) (fun i hi => ?_)).mono ?_
      · obtain ⟨k, bb, n, s, o, hs, c0, c1, c2, c3, c4⟩ := hat i hi
        exact ⟨k, bb, n, s, o, hs, (hb.cell (p := ⟨bk, off + i * 5, none⟩) hbk).trans c0, (hb.cell (p := ⟨bk, off + i * 5 + 1, none⟩) hbk).trans c1, (hb.cell (p := ⟨bk, off + i * 5 + 2, none⟩) hbk).trans c2, (hb.cell (p := ⟨bk, off + i * 5 + 3, none⟩) hbk).trans c3, (hb.cell (p := ⟨bk, off + i * 5 + 4, none⟩) hbk).trans c4⟩
      · rintro e w' ⟨v, xs, rfl, hown, hbl⟩
        obtain ⟨a, c, rfl⟩ := own_shape hown
        exact ⟨_, _, _, rfl, hbl⟩
  have hlaw : Calls Tryz.prog 3 #[.bool b, v1] W fun e w' => e = .returned (.bool true) ∧ Below W.heap.size W w' := by
    cases b
    · exact law_false v1 W hC
    · exact law_true v1 W hC
  simp only [List.append_nil] at hW'
  refine hlaw.mono fun e W' ⟨he, hb⟩ => ?_
  subst he
  exact ⟨_, rfl, _, _, _, [], _, [], hW', trodAll_mk1 (shut_bool Tryz.underlying4 _), trodAll_mk2 (shut_bool Tryz.underlying4 _) (Below.trod laidOut (by kernel_rfl) (of_decide_eq_true (by kernel_rfl)) h1 hb (fun x hx => hlt x (List.mem_append.2 (.inr hx)))), rfl, hb.frame _, fun h => by cases h⟩

theorem said : Rows.SnapshotNobodySaid :=
  OpenClaim.holds_of_wide 3 Tryz.f3 rfl rfl rfl rfl rfl rfl rfl ⟨rfl, rfl, rfl, rfl, rfl⟩ rfl rfl rfl rfl rfl (by kernel_rfl) Tryz.func3 closed
    (of_decide_eq_true (by kernel_rfl)) (by unfold Func.isWrapper; first | (rw [if_pos (by decide +kernel)]; kernel_rfl) | (rw [if_neg (by decide +kernel)]; exact ⟨rfl, rfl⟩))
    (fun os started H enc _ => lifted os started H enc)

theorem plain (f : FuncId) (fn : Func) (hf : Tryz.pinned.checked.prog.funcNamed "quill/quilllaw29.SnapshotNobody" = some f) (hfn : Tryz.pinned.checked.prog.funcs[f]? = some fn) :
    true = Tryz.pinned.checked.prog.looks [] ∧ ∀ (j : Nat) t, fn.params[j]? = some t → Tryz.pinned.checked.prog.wantsStandIn t = false := by
  obtain rfl : f = 3 := Option.some.inj ((show Tryz.prog.funcNamed "quill/quilllaw29.SnapshotNobody" = some 3 by kernel_rfl).symm.trans hf) |>.symm
  obtain rfl : fn = Tryz.f3 := (Option.some.inj (Tryz.func3.symm.trans hfn)).symm
  refine ⟨by kernel_rfl, fun j t ht => ?_⟩
  rw [Tryz.params3] at ht
  have hm : t ∈ [4, 22] := by simpa using Array.mem_of_getElem? ht
  have hall : ([4, 22].all fun u => !Tryz.prog.wantsStandIn u) = true := by kernel_rfl
  exact (show Tryz.prog.wantsStandIn t = false by simpa using List.all_eq_true.1 hall t hm)

theorem card : Rows.SnapshotNobodyCardSaid :=
  Claim7.holds_tied_plain_at .later [] _ _ _ _ said (fun _ h => by cases h) (by kernel_rfl) (fun _ h => by cases h) snapshotNobody_row_tie rfl ⟨rfl, rfl⟩ (by kernel_rfl) rfl plain (by kernel_rfl)
#print axioms card
end Go.Proofs.YtpafbjghlgjfcaaGreatDoor.snapshotNobody
