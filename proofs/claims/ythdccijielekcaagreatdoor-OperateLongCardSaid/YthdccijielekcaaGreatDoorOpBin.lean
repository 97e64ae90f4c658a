/-
  Contract of operate.Binary at the sign of addition, by whatever 'add' tells. Conditions: the machine's own cells are as said, and it is not over.
-/
import Derived.Test.YthdccijielekcaaGreatDoorOpAdd
namespace Go.Proofs.YthdccijielekcaaGreatDoor
open Go.RowKit Go.ChangeMaps Go.WideShapes

variable {m : Nat} {f c ch d left : Int} {over : Bool} {heap : Nat} {envs codes natives body known draws : Value} {drawn calls : Int} {w : World}

theorem zero_fn (w : World) : (zeroValue 103).run Tryz.prog w = .ok .nilFunc w := by kernel_rfl
theorem OpMap.look {g n : Nat} (h : OpMap w g n) : (Instr.lookup 105 (.map (some g)) (.string ⟨#[43]⟩) true).run Tryz.prog w = .ok (.tuple #[addV, .bool true]) w := by
  obtain ⟨D, h0, ha, hh⟩ := h
  obtain ⟨v, ps, hrun, hR⟩ := h0.look_ok key_law Tryz.underlying105 (zero_fn w) (zd := .lit (.int .i64 0)) (zp := []) (by simp [fnElem]) (key_is ⟨#[43]⟩ (by decide))
  have hk : Lit.string (⟨#[43]⟩ : ByteArray).data.toList = plusL := rfl
  rw [hk] at hrun hR
  rw [ha] at hR
  rw [hh] at hrun
  have hv : v = addV := by
    unfold fnElem at hR
    by_cases e : v = addV
    · exact e
    · rw [if_neg e] at hR
      simp at hR
  rw [hrun, hv]

set_option maxRecDepth 100000 in
set_option maxHeartbeats 600000 in
theorem operate_Binary (ka : Int) (ba : Bool) (na : Nat) (sa : ByteArray) (oa : Int) (kb : Int) (bb : Bool) (nb : Nat) (sb : ByteArray) (ob : Int) (kd k' : Int) (b' : Bool) (n' : Nat) (s' : ByteArray) (o' : Int)
    (hC : ∀ W, MachAt W m f c ch d left false heap envs codes natives body known draws drawn calls → Calls Tryz.prog 104 #[.pointer (some ⟨m, 0, none⟩), val ka ba na sa oa, val kb bb nb sb ob] W fun e w' => e = .returned (doneV kd k' b' n' s' o' ⟨#[]⟩) ∧ MachAt w' m f c ch d left over heap envs codes natives body known draws drawn calls ∧ But m W w')
    (H : MachAt w m f c ch d left false heap envs codes natives body known draws drawn calls) :
    Calls Tryz.prog 9 #[.pointer (some ⟨m, 0, none⟩), .string ⟨#[43]⟩, val ka ba na sa oa, val kb bb nb sb ob] w fun e w' => e = .returned (doneV kd k' b' n' s' o' ⟨#[]⟩) ∧ MachAt w' m f c ch d left over heap envs codes natives body known draws drawn calls ∧ But m w w' := by
  have HC := Lib.hid hC
  have HO := fun w H => @operate_over m f c ch d left false heap envs codes natives body known draws drawn calls w H
  have hlt := HasB.lt H
  clear hC
  go_enter Tryz.func9, Tryz.ntmps9
  go_wp2_with (go_at_call 49; go_must (refine (HO _ (HasB.alloc (HasB.alloc (HasB.alloc H _) _) _)).mono ?_); rintro e w' ⟨rfl, rfl⟩)
  refine calls_gen (fun W => (MachAt W m f c ch d left false heap envs codes natives body known draws drawn calls ∧ Below w.heap.size w W) ∧ HasB W w.heap.size (valCells ka ba na sa oa) 31 ∧ HasB W (w.heap.size + 1) (valCells kb bb nb sb ob) 31 ∧ HasB W (w.heap.size + 1 + 1) (doneCells 0 0 false 0 ⟨#[]⟩ 0 ⟨#[]⟩) 33) ?_ ?_
  · exact ⟨⟨H.alloc _ |>.alloc _ |>.alloc _, by go_grown⟩, ((HasB.newAt rfl).alloc _).alloc _, (HasB.newAt (by simp)).alloc _, HasB.newAt (by simp)⟩
  rintro W ⟨⟨hM, hbl⟩, h1, h2, h3⟩
  refine (operate_operators W).mono ?_
  rintro e w1 ⟨g, rfl, hO, kb⟩
  replace hM := HasB.below hM kb
  replace h1 := h1.below kb
  replace h2 := h2.below kb
  replace h3 := h3.below kb
  replace hbl := below_via kb hbl hbl.size
  have hlook := hO.look
  clear kb H hO HO
  obtain ⟨p0, p1, p2, p3, p4, pf⟩ := h1.five
  obtain ⟨q0, q1, q2, q3, q4, qf⟩ := h2.five
  go_wp2_with fail
  clear hlook p0 p1 p2 p3 p4 pf q0 q1 q2 q3 q4 qf h1 h2
  refine (HC.out w1 hM).mono ?_
  rintro e w4 ⟨rfl, hM4, kb⟩
  replace h3 := kb.hasB h3 (by omega)
  have hb4 : But m w w4 := (But.of hbl).trans kb
  clear kb hM hbl HC
  have l4 := h3.lt
  obtain ⟨⟨r0, r1, r2, r3, r4, r5, r6⟩, rf⟩ := h3.sevn
  go_wp2_with fail
  exact bodyPost_ret (v := doneV kd k' b' n' s' o' ⟨#[]⟩) (by simp [results, Tryz.results9, go_sem, r0, r1, r2, r3, r4, r5, r6]) rfl ⟨rfl, HasB.off7 hM4 (by omega), but_set7 hb4 (.inr (by omega))⟩
end Go.Proofs.YthdccijielekcaaGreatDoor
