/-
  Contracts of operate.add, of two texts (by whatever Concat tells of them), and of two numbers. Conditions: the machine's own cells are as said, and it is not over.
-/
import Derived.Test.YthdccijielekcaaGreatDoorConcat
namespace Go.Proofs.YthdccijielekcaaGreatDoor
open Go.RowKit

variable {m : Nat} {f c ch d left : Int} {over : Bool} {heap : Nat} {envs codes natives body known draws : Value} {drawn calls : Int} {w : World}

theorem But.keep {h : Nat} {w w' : World} (x : But h w w') {a : Addr} {v : Value} (hv : w.cell? a = some v) (hne : a.block ≠ h) : w'.cell? a = some v :=
  (World.cell?_of_block (x.block a.block (World.block_lt_of_cell? w _ hv) hne)).trans hv

set_option maxRecDepth 100000 in
set_option maxHeartbeats 600000 in
theorem operate_add_text (a b : ByteArray) (kd k' : Int) (b' : Bool) (n' : Nat) (s' : ByteArray) (o' : Int)
    (hC : ∀ W, MachAt W m f c ch d left false heap envs codes natives body known draws drawn calls → Calls Tryz.prog 144 #[.pointer (some ⟨m, 0, none⟩), .string a, .string b] W fun e w' => e = .returned (doneV kd k' b' n' s' o' ⟨#[]⟩) ∧ MachAt w' m f c ch d left over heap envs codes natives body known draws drawn calls ∧ But m W w')
    (H : MachAt w m f c ch d left false heap envs codes natives body known draws drawn calls) :
    Calls Tryz.prog 104 #[.pointer (some ⟨m, 0, none⟩), val 4 false 0 a 0, val 4 false 0 b 0] w fun e w' => e = .returned (doneV kd k' b' n' s' o' ⟨#[]⟩) ∧ MachAt w' m f c ch d left over heap envs codes natives body known draws drawn calls ∧ But m w w' := by
  have HC := Lib.hid hC
  have hlt := HasB.lt H
  clear hC
  go_enter Tryz.func104, Tryz.ntmps104
  go_wp2_with fail
  refine calls_gen (fun W => (MachAt W m f c ch d left false heap envs codes natives body known draws drawn calls ∧ W.cell? ⟨w.heap.size, 0, none⟩ = some (.pointer (some ⟨m, 0, none⟩)) ∧ Below w.heap.size w W) ∧
      HasB W (w.heap.size + 1 + 1 + 1) (doneCells 0 0 false 0 ⟨#[]⟩ 0 ⟨#[]⟩) 33) ?_ ?_
  · refine ⟨⟨H.alloc _ |>.alloc _ |>.alloc _ |>.alloc _, ?_, by go_grown⟩, HasB.newAt (by simp)⟩
    exact HasB.cell ((((HasB.new w #[.pointer (some ⟨m, 0, none⟩)] 23).alloc _).alloc _).alloc _) 0
  rintro W ⟨⟨hM, hB, hbl⟩, h1⟩
  refine (operate_both w.heap.size 4 false 0 a 0 4 false 0 b 0 rfl rfl hM hB).mono ?_
  rintro e w1 ⟨rfl, kb⟩
  replace hM := HasB.below hM kb
  replace hB := below_keep kb hB
  replace h1 := h1.below kb
  replace hbl := below_via kb hbl hbl.size
  clear kb H
  have l1 := h1.lt
  go_wp2_with fail
  refine calls_gen (fun W => (MachAt W m f c ch d left false heap envs codes natives body known draws drawn calls ∧ W.cell? ⟨w.heap.size, 0, none⟩ = some (.pointer (some ⟨m, 0, none⟩)) ∧ Below w.heap.size w W) ∧
      HasB W (w.heap.size + 1 + 1 + 1) (doneCells 0 0 false 0 ⟨#[]⟩ 0 ⟨#[]⟩) 33 ∧ HasB W (w1.heap.size + 1) (valCells 4 false 0 b 0) 31) ?_ ?_
  · exact ⟨⟨HasB.alloc (HasB.alloc (HasB.alloc hM _) _) _, ((show Below w1.heap.size w1 _ from by go_grown).cell (p := ⟨w.heap.size, 0, none⟩) (by simp; omega)).trans hB, ((hbl.alloc hbl.size _).alloc (by simp; omega) _).alloc (by simp; omega) _⟩, HasB.alloc (HasB.alloc (HasB.alloc h1 _) _) _, HasB.alloc (HasB.newAt (by simp)) _⟩
  clear hM hB hbl h1
  rintro W1 ⟨⟨hM, hB, hbl⟩, h1, h2⟩
  refine (value_ToString_string a W1).mono ?_
  rintro e w2 ⟨rfl, kb⟩
  replace hM := HasB.below hM kb
  replace hB := below_keep kb hB
  replace h1 := h1.below kb
  replace h2 := h2.below kb
  replace hbl := below_via kb hbl hbl.size
  clear kb
  obtain ⟨q0, q1, q2, q3, q4, qf⟩ := h2.five
  go_wp2_with fail
  clear q0 q1 q2 q3 q4 qf h2
  refine (value_ToString_string b w2).mono ?_
  rintro e w3 ⟨rfl, kb⟩
  replace hM := HasB.below hM kb
  replace hB := below_keep kb hB
  replace h1 := h1.below kb
  replace hbl := below_via kb hbl hbl.size
  clear kb
  go_wp2_with fail
  refine (HC.out w3 hM).mono ?_
  rintro e w4 ⟨rfl, hM4, kb⟩
  replace h1 := kb.hasB h1 (by omega)
  have hb4 : But m w w4 := (But.of hbl).trans kb
  clear kb hM hB hbl HC
  have l4 := h1.lt
  obtain ⟨⟨r0, r1, r2, r3, r4, r5, r6⟩, rf⟩ := h1.sevn
  go_wp2_with fail
  exact bodyPost_ret (v := doneV kd k' b' n' s' o' ⟨#[]⟩) (by simp [results, Tryz.results104, go_sem, r0, r1, r2, r3, r4, r5, r6]) rfl ⟨rfl, HasB.off7 hM4 (by omega), but_set7 hb4 (.inr (by omega))⟩

theorem value_Add_nums (x y z : Nat) (hx : toldN x = x) (hy : toldN y = y) (hadd : ∀ (t : TypeId) (w : World), (binOp .add t (.float .f64 x) (.float .f64 y)).run Tryz.prog w = .ok (.float .f64 z) w) (hz2 : toldN z = z) (w : World) :
    Calls Tryz.prog 145 #[val 3 false x ⟨#[]⟩ 0, val 3 false y ⟨#[]⟩ 0] w fun e w' => e = .returned (.tuple #[val 3 false z ⟨#[]⟩ 0, .int .i64 0]) ∧ Below w.heap.size w w' := by
  have hX := value_ToNumber_number x
  have hY := value_ToNumber_number y
  have hZ := value_Number z
  rw [hx] at hX
  rw [hy] at hY
  rw [hz2] at hZ
  have HX := Lib.hid hX
  have HY := Lib.hid hY
  have HZ := Lib.hid hZ
  have HA := Lib.hid hadd
  clear hx hy hX hY hz2 hZ hadd
  go_enter Tryz.func145, Tryz.ntmps145
  go_wp2_with fail
  refine calls_gen (fun W => Below w.heap.size w W ∧ HasB W (w.heap.size + 1) (valCells 3 false y ⟨#[]⟩ 0) 31 ∧ HasB W (w.heap.size + 1 + 1) (valCells 0 false 0 ⟨#[]⟩ 0) 31) ?_ ?_
  · exact ⟨by go_grown, HasB.alloc (HasB.newAt (by simp)) _, HasB.newAt (by simp)⟩
  rintro W ⟨hbl, h1, h2⟩
  refine (HX.out W).mono ?_
  rintro e w1 ⟨rfl, kb⟩
  replace h1 := h1.below kb
  replace h2 := h2.below kb
  replace hbl := below_via kb hbl hbl.size
  clear kb
  obtain ⟨q0, q1, q2, q3, q4, qf⟩ := h1.five
  go_wp2_with fail
  refine (HY.out w1).mono ?_
  rintro e w2 ⟨rfl, kb⟩
  clear q0 q1 q2 q3 q4 qf h1
  replace h2 := h2.below kb
  replace hbl := below_via kb hbl hbl.size
  clear kb
  go_wp2_with fail
  rw [HA.out]
  simp only [Result.andThen]
  rw [Oper.upon_value]
  go_wp2_with fail
  refine (HZ.out w2).mono ?_
  rintro e w3 ⟨rfl, kb⟩
  replace h2 := h2.below kb
  replace hbl := below_via kb hbl hbl.size
  clear kb
  have l2 := h2.lt
  obtain ⟨q0, q1, q2, q3, q4, qf⟩ := h2.five
  go_wp2_with fail
  exact bodyPost_ret (v := .tuple #[val 3 false z ⟨#[]⟩ 0, .int .i64 0]) (by simp [results, Tryz.results145, go_sem, q0, q1, q2, q3, q4]) rfl ⟨rfl, below_set5 hbl (by omega)⟩

set_option maxRecDepth 100000 in
set_option maxHeartbeats 600000 in
theorem operate_add_nums (x y z : Nat) (hx : toldN x = x) (hy : toldN y = y) (hadd : ∀ (t : TypeId) (w : World), (binOp .add t (.float .f64 x) (.float .f64 y)).run Tryz.prog w = .ok (.float .f64 z) w) (hz2 : toldN z = z)
    (H : MachAt w m f c ch d left false heap envs codes natives body known draws drawn calls) :
    Calls Tryz.prog 104 #[.pointer (some ⟨m, 0, none⟩), val 3 false x ⟨#[]⟩ 0, val 3 false y ⟨#[]⟩ 0] w fun e w' => e = .returned (doneV 0 3 false z ⟨#[]⟩ 0 ⟨#[]⟩) ∧ Below w.heap.size w w' := by
  have HV := Lib.hid (fun w => value_Add_nums x y z hx hy hadd hz2 w)
  have hlt := HasB.lt H
  clear hx hy hadd hz2
  go_enter Tryz.func104, Tryz.ntmps104
  go_wp2_with fail
  refine calls_gen (fun W => (MachAt W m f c ch d left false heap envs codes natives body known draws drawn calls ∧ W.cell? ⟨w.heap.size, 0, none⟩ = some (.pointer (some ⟨m, 0, none⟩)) ∧ Below w.heap.size w W) ∧
      HasB W (w.heap.size + 1 + 1 + 1) (doneCells 0 0 false 0 ⟨#[]⟩ 0 ⟨#[]⟩) 33) ?_ ?_
  · refine ⟨⟨H.alloc _ |>.alloc _ |>.alloc _ |>.alloc _, ?_, by go_grown⟩, HasB.newAt (by simp)⟩
    exact HasB.cell ((((HasB.new w #[.pointer (some ⟨m, 0, none⟩)] 23).alloc _).alloc _).alloc _) 0
  rintro W ⟨⟨hM, hB, hbl⟩, h1⟩
  refine (operate_both w.heap.size 3 false x ⟨#[]⟩ 0 3 false y ⟨#[]⟩ 0 rfl rfl hM hB).mono ?_
  rintro e w1 ⟨rfl, kb⟩
  replace h1 := h1.below kb
  replace hbl := below_via kb hbl hbl.size
  clear kb H hM hB
  have l1 := h1.lt
  go_wp2_with fail
  refine calls_gen (fun W => Below w.heap.size w W ∧ HasB W (w.heap.size + 1 + 1 + 1) (doneCells 0 0 false 0 ⟨#[]⟩ 0 ⟨#[]⟩) 33) ?_ ?_
  · exact ⟨((hbl.alloc hbl.size _).alloc (by simp; omega) _).alloc (by simp; omega) _, HasB.alloc (HasB.alloc (HasB.alloc h1 _) _) _⟩
  clear hbl h1
  rintro W1 ⟨hbl, h1⟩
  refine (HV.out W1).mono ?_
  rintro e w2 ⟨rfl, kb⟩
  replace h1 := h1.below kb
  replace hbl := below_via kb hbl hbl.size
  clear kb HV
  go_wp2_with fail
  refine calls_gen (fun W => Below w.heap.size w W ∧ HasB W (w.heap.size + 1 + 1 + 1) (doneCells 0 0 false 0 ⟨#[]⟩ 0 ⟨#[]⟩) 33) ?_ ?_
  · exact ⟨hbl.alloc hbl.size _, HasB.alloc h1 _⟩
  clear hbl h1
  rintro W2 ⟨hbl, h1⟩
  refine (operate_normal 3 false z ⟨#[]⟩ 0 W2).mono ?_
  rintro e w3 ⟨rfl, kb⟩
  replace h1 := h1.below kb
  replace hbl := below_via kb hbl hbl.size
  clear kb
  have l4 := h1.lt
  obtain ⟨⟨r0, r1, r2, r3, r4, r5, r6⟩, rf⟩ := h1.sevn
  go_wp2_with fail
  exact bodyPost_ret (v := doneV 0 3 false z ⟨#[]⟩ 0 ⟨#[]⟩) (by simp [results, Tryz.results104, go_sem, r0, r1, r2, r3, r4, r5, r6]) rfl ⟨rfl, below_set7 hbl (by omega)⟩
end Go.Proofs.YthdccijielekcaaGreatDoor
