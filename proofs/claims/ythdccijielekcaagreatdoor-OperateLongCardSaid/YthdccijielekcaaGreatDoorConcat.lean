/-
  Contracts of a machine's Stop, and of operate.Concat: of two texts that are too long for the machine together, and of two that are not. Conditions: the machine's own cells are as said, and it is not over.
-/
import Derived.Test.YthdccijielekcaaGreatDoorOpBoth
import Derived.Test.YthdccijielekcaaGreatDoorVal2
import Derived.Test.YthdccijielekcaaGreatDoorHeapOwn
namespace Go.Proofs.YthdccijielekcaaGreatDoor
open Go.RowKit

variable {m : Nat} {f c ch d left : Int} {heap : Nat} {envs codes natives body known draws : Value} {drawn calls : Int} {w : World}

theorem but_set7 {h : Nat} {a w : World} {b : Nat} {v0 v1 v2 v3 v4 v5 v6 : Value} (x : But h a w) (hb : b = h ∨ a.heap.size ≤ b) :
    But h a (((((((w.setCell ⟨b, 0, none⟩ v0).setCell ⟨b, 1, none⟩ v1).setCell ⟨b, 2, none⟩ v2).setCell ⟨b, 3, none⟩ v3).setCell ⟨b, 4, none⟩ v4).setCell ⟨b, 5, none⟩ v5).setCell ⟨b, 6, none⟩ v6) :=
  ((((((x.set _ _ hb).set _ _ hb).set _ _ hb).set _ _ hb).set _ _ hb).set _ _ hb).set _ _ hb
theorem but_set5 {h : Nat} {a w : World} {b : Nat} {v0 v1 v2 v3 v4 : Value} (x : But h a w) (hb : b = h ∨ a.heap.size ≤ b) :
    But h a (((((w.setCell ⟨b, 0, none⟩ v0).setCell ⟨b, 1, none⟩ v1).setCell ⟨b, 2, none⟩ v2).setCell ⟨b, 3, none⟩ v3).setCell ⟨b, 4, none⟩ v4) :=
  ((((x.set _ _ hb).set _ _ hb).set _ _ hb).set _ _ hb).set _ _ hb
theorem machine_limit (w : World) : Calls Tryz.prog 78 #[] w fun e w' => e = .returned doneL ∧ Below w.heap.size w w' := by
  go_enter Tryz.func78, Tryz.ntmps78
  go_wp2_with fail
  refine bodyPost_ret (v := doneL) (by simp [results, Tryz.results78, go_sem]) rfl ⟨rfl, ?_⟩
  go_grown

theorem Machine_Stop (H : MachAt w m f c ch d left false heap envs codes natives body known draws drawn calls) :
    Calls Tryz.prog 79 #[.pointer (some ⟨m, 0, none⟩)] w fun e w' => e = .returned doneL ∧ MachAt w' m f c ch d left true heap envs codes natives body known draws drawn calls ∧ But m w w' := by
  have HI := fun w H => @Machine_is m f c ch d left false heap envs codes natives body known draws drawn calls w H
  have hlt := HasB.lt H
  have q5 : w.cell? ⟨m, 5, none⟩ = some (.bool false) := HasB.cell H 5
  have qf := HasB.free H 5
  have HH := Lib.hid H
  go_enter Tryz.func79, Tryz.ntmps79
  go_wp2_with (first | (go_at_call 51; refine (HI _ (HasB.alloc H _)).mono ?_; rintro e w' ⟨rfl, rfl⟩))
  refine calls_gen (fun W => MachAt W m f c ch d left true heap envs codes natives body known draws drawn calls ∧ But m w W ∧ HasB W w.heap.size (doneCells 0 0 false 0 ⟨#[]⟩ 0 ⟨#[]⟩) 33) ?_ ?_
  · refine ⟨HasB.alloc ?_ _, But.alloc (But.set (But.refl m w) _ _ (.inl rfl)) _, HasB.newAt (by simp)⟩
    have h := HasB.set HH.out 5 (.bool true)
    simp at h
    exact h
  rintro W ⟨hM, hB, h1⟩
  refine (machine_limit W).mono ?_
  rintro e w1 ⟨rfl, kb⟩
  replace hM := HasB.below hM kb
  replace h1 := h1.below kb
  replace hB := hB.trans (But.of kb)
  clear kb q5 qf HH HI H
  have l1 := h1.lt
  obtain ⟨⟨r0, r1, r2, r3, r4, r5, r6⟩, rf⟩ := h1.sevn
  go_wp2_with fail
  refine bodyPost_ret (v := doneL) (by simp [results, Tryz.results79, go_sem, r0, r1, r2, r3, r4, r5, r6]) rfl ⟨rfl, HasB.off7 hM (by omega), ?_⟩
  exact but_set7 hB (.inr (Nat.le_refl _))

theorem run_field_Chars (f c ch d : Int) (w : World) : (Instr.field 28 (.agg #[.int .i64 f, .int .i64 c, .int .i64 ch, .int .i64 d]) 2).run Tryz.prog w = .ok (.int .i64 ch) w := by kernel_rfl
attribute [local go_sem] run_field_Chars

set_option maxRecDepth 100000 in
theorem operate_Concat_short (a b : ByteArray) (ha : a.size ≤ maxLen) (hb : b.size ≤ maxLen) (hs : ((a.size / 2 + b.size / 2 : Nat) : Int) ≤ ch) (hc : ch ≤ 268435456) (H : MachAt w m f c ch d left false heap envs codes natives body known draws drawn calls) :
    Calls Tryz.prog 144 #[.pointer (some ⟨m, 0, none⟩), .string a, .string b] w fun e w' => e = .returned (doneV 0 4 false 0 ((a ++ b).extract 0 ((a ++ b).size / 2 * 2)) 0 ⟨#[]⟩) ∧ Below w.heap.size w w' := by
  have HO := fun w H => @operate_over m f c ch d left false heap envs codes natives body known draws drawn calls w H
  have HL := fun w H => @Machine_Limits m f c ch d left false heap envs codes natives body known draws drawn calls w H
  have hs1 : a.size ≤ 536870914 ∧ b.size ≤ 536870914 := by omega
  have hS := fun w => value_String (a ++ b) w (by rw [ByteArray.size_append]; unfold maxLen; omega)
  have hla := fun w => ustr_Len a w ha
  have hlb := fun w => ustr_Len b w hb
  obtain ⟨hs2, hs3⟩ := hs1
  generalize (a ++ b).extract 0 ((a ++ b).size / 2 * 2) = t at hS ⊢
  clear ha hb
  go_enter Tryz.func144, Tryz.ntmps144
  go_wp2_with (first
    | (go_at_call 49; go_must (refine (HO _ (HasB.alloc H _)).mono ?_); rintro e w' ⟨rfl, rfl⟩)
    | (go_at_call 66; first | (refine (hla _).mono ?_; rintro e w' ⟨rfl, rfl⟩) | (refine (hlb _).mono ?_; rintro e w' ⟨rfl, rfl⟩)))
  refine calls_gen (fun W => (MachAt W m f c ch d left false heap envs codes natives body known draws drawn calls ∧ Below w.heap.size w W) ∧ HasB W w.heap.size (doneCells 0 0 false 0 ⟨#[]⟩ 0 ⟨#[]⟩) 33) ?_ ?_
  · exact ⟨⟨HasB.alloc H _, by go_grown⟩, HasB.newAt rfl⟩
  rintro W ⟨⟨hM, hbl⟩, h1⟩
  refine (HL W hM).mono ?_
  rintro e w1 ⟨rfl, kb⟩
  replace h1 := h1.below kb
  replace hbl := below_via kb hbl hbl.size
  clear kb HL HO H hM
  go_wp2_with (first | (go_at_call 68; go_must (refine (hS _).mono ?_); rintro e w2 ⟨rfl, kb⟩))
  refine calls_gen (fun W => Below w.heap.size w W ∧ HasB W w.heap.size (doneCells 0 0 false 0 ⟨#[]⟩ 0 ⟨#[]⟩) 33) ?_ ?_
  · exact ⟨below_via kb hbl hbl.size, h1.below kb⟩
  clear h1 hbl kb
  rintro W1 ⟨hbl, h1⟩
  refine (operate_normal 4 false 0 t 0 W1).mono ?_
  rintro e w3 ⟨rfl, kb⟩
  replace h1 := h1.below kb
  replace hbl := below_via kb hbl hbl.size
  clear kb
  have l1 := h1.lt
  obtain ⟨⟨r0, r1, r2, r3, r4, r5, r6⟩, rf⟩ := h1.sevn
  go_wp2_with fail
  exact bodyPost_ret (v := doneV 0 4 false 0 t 0 ⟨#[]⟩) (by simp [results, Tryz.results144, go_sem, r0, r1, r2, r3, r4, r5, r6]) rfl ⟨rfl, below_set7 hbl (Nat.le_refl _)⟩

set_option maxRecDepth 100000 in
theorem operate_Concat_long (a b : ByteArray) (ha : a.size ≤ maxLen) (hb : b.size ≤ maxLen) (hs : ch < ((a.size / 2 + b.size / 2 : Nat) : Int)) (H : MachAt w m f c ch d left false heap envs codes natives body known draws drawn calls) :
    Calls Tryz.prog 144 #[.pointer (some ⟨m, 0, none⟩), .string a, .string b] w fun e w' => e = .returned doneL ∧ MachAt w' m f c ch d left true heap envs codes natives body known draws drawn calls ∧ But m w w' := by
  have HO := fun w H => @operate_over m f c ch d left false heap envs codes natives body known draws drawn calls w H
  have HL := fun w H => @Machine_Limits m f c ch d left false heap envs codes natives body known draws drawn calls w H
  have hla := fun w => ustr_Len a w ha
  have hlb := fun w => ustr_Len b w hb
  have hlm := HasB.lt H
  have hA : a.size ≤ 9223372036854775807 := ha
  have hB : b.size ≤ 9223372036854775807 := hb
  clear ha hb
  go_enter Tryz.func144, Tryz.ntmps144
  go_wp2_with (first
    | (go_at_call 49; go_must (refine (HO _ (HasB.alloc H _)).mono ?_); rintro e w' ⟨rfl, rfl⟩)
    | (go_at_call 66; first | (refine (hla _).mono ?_; rintro e w' ⟨rfl, rfl⟩) | (refine (hlb _).mono ?_; rintro e w' ⟨rfl, rfl⟩)))
  refine calls_gen (fun W => (MachAt W m f c ch d left false heap envs codes natives body known draws drawn calls ∧ But m w W) ∧ HasB W w.heap.size (doneCells 0 0 false 0 ⟨#[]⟩ 0 ⟨#[]⟩) 33) ?_ ?_
  · exact ⟨⟨HasB.alloc H _, (But.refl m w).alloc _⟩, HasB.newAt rfl⟩
  rintro W ⟨⟨hM, hbl⟩, h1⟩
  refine (HL W hM).mono ?_
  rintro e w1 ⟨rfl, kb⟩
  replace h1 := h1.below kb
  replace hM := HasB.below hM kb
  replace hbl := hbl.trans (But.of kb)
  clear kb HL HO H
  go_wp2_with fail
  refine (Machine_Stop hM).mono ?_
  rintro e w2 ⟨rfl, hM2, kb⟩
  replace h1 := kb.hasB h1 (by omega)
  replace hbl := hbl.trans kb
  clear kb hM
  have l1 := h1.lt
  obtain ⟨⟨r0, r1, r2, r3, r4, r5, r6⟩, rf⟩ := h1.sevn
  go_wp2_with fail
  exact bodyPost_ret (v := doneL) (by simp [results, Tryz.results144, go_sem, r0, r1, r2, r3, r4, r5, r6]) rfl ⟨rfl, HasB.off7 hM2 (by omega), but_set7 hbl (.inr (Nat.le_refl _))⟩
end Go.Proofs.YthdccijielekcaaGreatDoor
