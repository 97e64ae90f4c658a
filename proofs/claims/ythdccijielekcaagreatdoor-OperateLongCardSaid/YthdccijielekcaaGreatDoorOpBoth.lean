/-
  Contracts of operate.both with the conversion that 'add' hands it, of two values that are no objects. Conditions: the machine's own cells are as said, and it is not over.
-/
import Derived.Test.YthdccijielekcaaGreatDoorOpMap
import Derived.Test.YthdccijielekcaaGreatDoorKit3
import Derived.Deep.RegionHeld3
import Derived.Deep.DeepCutAuto
import Derived.Deep.QuietTactic
import Derived.BigQuiet
namespace Go.Proofs.YthdccijielekcaaGreatDoor
open Go.RowKit

variable {m : Nat} {f c ch d left : Int} {heap : Nat} {envs codes natives body known draws : Value} {drawn calls : Int} {w : World}

abbrev valCells (k : Int) (b : Bool) (n : Nat) (s : ByteArray) (o : Int) : Array Value := #[.int .i64 k, .bool b, .float .f64 n, .string s, .int .i64 o]
abbrev doneCells (kd k : Int) (b : Bool) (n : Nat) (s : ByteArray) (o : Int) (l : ByteArray) : Array Value := #[.int .i64 kd, .int .i64 k, .bool b, .float .f64 n, .string s, .int .i64 o, .string l]

theorem operate_add1 (bx : Nat) (k : Int) (b : Bool) (n : Nat) (s : ByteArray) (o : Int) (hk : (k == 5) = false) (H : MachAt w m f c ch d left false heap envs codes natives body known draws drawn calls)
    (hb : w.cell? ⟨bx, 0, none⟩ = some (.pointer (some ⟨m, 0, none⟩))) :
    Calls Tryz.prog 142 #[val k b n s o, .pointer (some ⟨bx, 0, none⟩)] w fun e w' => e = .returned (doneV 0 k b n s o ⟨#[]⟩) ∧ Below w.heap.size w w' := by
  have HP := fun w H => @Primitive_plain m f c ch d left heap envs codes natives body known draws drawn calls w k b n s o 0 hk H
  have hlt := HasB.lt H
  have hl := World.block_lt_of_cell? w _ hb
  simp only at hl
  clear hk
  go_enter Tryz.func142, Tryz.ntmps142
  go_wp2_with fail
  refine (HP _ (HasB.alloc (HasB.alloc H _) _)).mono ?_
  rintro e w1 ⟨rfl, kb⟩
  have B1 := (HasB.new (w.alloc (.cells (valCells k b n s o) 31)) (doneCells 0 0 false 0 ⟨#[]⟩ 0 ⟨#[]⟩) 33).below kb
  have HB := Lib.hid (show Below w.heap.size w w1 from below_via kb (by go_grown) (by simp; omega))
  simp at B1
  have hz1 : w.heap.size + 1 < w1.heap.size := B1.lt
  clear kb H HP hb
  obtain ⟨⟨r0, r1, r2, r3, r4, r5, r6⟩, rf⟩ := B1.sevn
  clear B1
  go_wp2_with fail
  refine bodyPost_ret (v := doneV 0 k b n s o ⟨#[]⟩) (by simp [results, Tryz.results142, go_sem, r0, r1, r2, r3, r4, r5, r6]) rfl ⟨rfl, ?_⟩
  exact ((((((HB.out.setCell (by simp) _).setCell (by simp) _).setCell (by simp) _).setCell (by simp) _).setCell (by simp) _).setCell (by simp) _).setCell (by simp) _

set_option maxRecDepth 100000 in
set_option maxHeartbeats 1000000 in
theorem operate_both (bx : Nat) (k : Int) (b : Bool) (n : Nat) (s : ByteArray) (o : Int) (k' : Int) (b' : Bool) (n' : Nat) (s' : ByteArray) (o' : Int) (hk : (k == 5) = false) (hk' : (k' == 5) = false)
    (H : MachAt w m f c ch d left false heap envs codes natives body known draws drawn calls) (hb : w.cell? ⟨bx, 0, none⟩ = some (.pointer (some ⟨m, 0, none⟩))) :
    Calls Tryz.prog 141 #[.pointer (some ⟨m, 0, none⟩), val k b n s o, val k' b' n' s' o', .func (.func 142) #[] #[.pointer (some ⟨bx, 0, none⟩)]] w
      fun e w' => e = .returned (.tuple #[val k b n s o, val k' b' n' s' o', doneV 0 k' b' n' s' o' ⟨#[]⟩]) ∧ Below w.heap.size w w' := by
  have HP := fun w H hb => @operate_add1 m f c ch d left heap envs codes natives body known draws drawn calls w bx k b n s o hk H hb
  have HQ := fun w H hb => @operate_add1 m f c ch d left heap envs codes natives body known draws drawn calls w bx k' b' n' s' o' hk' H hb
  have hlt := HasB.lt H
  have hl := World.block_lt_of_cell? w _ hb
  simp only at hl
  clear hk hk'
  go_enter Tryz.func141, Tryz.ntmps141
  go_wp2_with fail
  refine calls_gen (fun W => (MachAt W m f c ch d left false heap envs codes natives body known draws drawn calls ∧ W.cell? ⟨bx, 0, none⟩ = some (.pointer (some ⟨m, 0, none⟩)) ∧ Below w.heap.size w W) ∧
      HasB W (w.heap.size + 1) (valCells k' b' n' s' o') 31 ∧ HasB W (w.heap.size + 1 + 1) (valCells 0 false 0 ⟨#[]⟩ 0) 31 ∧ HasB W (w.heap.size + 1 + 1 + 1) (valCells 0 false 0 ⟨#[]⟩ 0) 31 ∧ HasB W (w.heap.size + 1 + 1 + 1 + 1) (doneCells 0 0 false 0 ⟨#[]⟩ 0 ⟨#[]⟩) 33) ?_ ?_
  · refine ⟨⟨H.alloc _ |>.alloc _ |>.alloc _ |>.alloc _ |>.alloc _, ((show Below w.heap.size w _ from by go_grown).cell (p := ⟨bx, 0, none⟩) hl).trans hb, by go_grown⟩, ?_, ?_, ?_, ?_⟩
    · exact (((HasB.newAt (by simp)).alloc _).alloc _).alloc _
    · exact ((HasB.newAt (by simp)).alloc _).alloc _
    · exact (HasB.newAt (by simp)).alloc _
    · exact HasB.newAt (by simp)
  rintro W ⟨⟨hM, hB, hbl⟩, h1, h2, h3, h4⟩
  refine (HP W hM hB).mono ?_
  rintro e w1 ⟨rfl, kb⟩
  replace hM := HasB.below hM kb
  replace hB := below_keep kb hB
  replace h1 := h1.below kb
  replace h2 := h2.below kb
  replace h3 := h3.below kb
  replace h4 := h4.below kb
  replace hbl := below_via kb hbl hbl.size
  clear kb HP H hb
  have l4 := h4.lt
  obtain ⟨p0, p1, p2, p3, p4, pf⟩ := h1.five
  obtain ⟨q0, q1, q2, q3, q4, qf⟩ := h2.five
  obtain ⟨⟨r0, r1, r2, r3, r4, r5, r6⟩, rf⟩ := h4.sevn
  go_wp2_with fail
  refine calls_gen (fun W => (MachAt W m f c ch d left false heap envs codes natives body known draws drawn calls ∧ W.cell? ⟨bx, 0, none⟩ = some (.pointer (some ⟨m, 0, none⟩)) ∧ Below w.heap.size w W) ∧
      HasB W (w.heap.size + 1 + 1) (valCells k b n s o) 31 ∧ HasB W (w.heap.size + 1 + 1 + 1) (valCells 0 false 0 ⟨#[]⟩ 0) 31 ∧ HasB W (w.heap.size + 1 + 1 + 1 + 1) (doneCells 0 k b n s o ⟨#[]⟩) 33) ?_ ?_
  · have n1 : m ≠ w.heap.size + 1 + 1 + 1 + 1 := by omega
    have n2 : m ≠ w.heap.size + 1 + 1 := by omega
    exact ⟨⟨HasB.off5 (HasB.off7 hM n1) n2, cell_off5 (cell_off7 hB (by simp; omega)) (by simp; omega), below_set5 (below_set7 hbl (by omega)) (by omega)⟩, HasB.set5 (HasB.off7 h2 (by omega)), HasB.off5 (HasB.off7 h3 (by omega)) (by omega), HasB.off5 (HasB.set7 h4) (by omega)⟩
  clear p0 p1 p2 p3 p4 pf q0 q1 q2 q3 q4 qf r0 r1 r2 r3 r4 r5 r6 rf h1 h2 h3 h4 hM hB hbl l4
  rintro W1 ⟨⟨hM, hB, hbl⟩, h2, h3, h4⟩
  refine (HQ W1 hM hB).mono ?_
  rintro e w2 ⟨rfl, kb⟩
  replace h2 := h2.below kb
  replace h3 := h3.below kb
  replace h4 := h4.below kb
  replace hbl := below_via kb hbl hbl.size
  clear kb HQ hM hB
  have l4 := h4.lt
  obtain ⟨p0, p1, p2, p3, p4, pf⟩ := h2.five
  obtain ⟨q0, q1, q2, q3, q4, qf⟩ := h3.five
  obtain ⟨⟨r0, r1, r2, r3, r4, r5, r6⟩, rf⟩ := h4.sevn
  go_wp2_with fail
  refine wp_gen (fun W => Below w.heap.size w W ∧ HasB W (w.heap.size + 1 + 1) (valCells k b n s o) 31 ∧ HasB W (w.heap.size + 1 + 1 + 1) (valCells 0 false 0 ⟨#[]⟩ 0) 31 ∧ HasB W (w.heap.size + 1 + 1 + 1 + 1) (doneCells 0 k' b' n' s' o' ⟨#[]⟩) 33) ?_ ?_
  · exact ⟨below_set7 hbl (by omega), HasB.off7 h2 (by omega), HasB.off7 h3 (by omega), HasB.set7 h4⟩
  clear p0 p1 p2 p3 p4 pf q0 q1 q2 q3 q4 qf r0 r1 r2 r3 r4 r5 r6 rf h2 h3 h4 hbl l4
  rintro W2 ⟨hbl, h2, h3, h4⟩
  have HB := Lib.hid hbl
  have H2 := Lib.hid h2
  have H3 := Lib.hid h3
  have H4 := Lib.hid h4
  have l4 := h4.lt
  obtain ⟨p0, p1, p2, p3, p4, pf⟩ := h2.five
  obtain ⟨q0, q1, q2, q3, q4, qf⟩ := h3.five
  obtain ⟨⟨r0, r1, r2, r3, r4, r5, r6⟩, rf⟩ := h4.sevn
  clear hbl h2 h3 h4
  go_region
  all_goals go_wp2_with fail
  all_goals
    refine post_gen (fun W => Below w.heap.size w W ∧ HasB W (w.heap.size + 1 + 1) (valCells k b n s o) 31 ∧ HasB W (w.heap.size + 1 + 1 + 1) (valCells k' b' n' s' o') 31 ∧ HasB W (w.heap.size + 1 + 1 + 1 + 1) (doneCells 0 k' b' n' s' o' ⟨#[]⟩) 33) ?_ ?_
    · exact ⟨Below.drew (below_set7 (below_set5 (below_set5 HB.out (by omega)) (by omega)) (by omega)), HasB.drew (HasB.off7 (HasB.off5 (HasB.set5 H2.out) (by omega)) (by omega)), HasB.drew (HasB.off7 (HasB.set5 (HasB.off5 H3.out (by omega))) (by omega)), HasB.drew (HasB.set7 (HasB.off5 (HasB.off5 H4.out (by omega)) (by omega)))⟩
    clear p0 p1 p2 p3 p4 pf q0 q1 q2 q3 q4 qf r0 r1 r2 r3 r4 r5 r6 rf HB H2 H3 H4 l4
    rintro W3 ⟨hbl, h2, h3, h4⟩
    obtain ⟨p0, p1, p2, p3, p4, pf⟩ := h2.five
    obtain ⟨q0, q1, q2, q3, q4, qf⟩ := h3.five
    obtain ⟨⟨r0, r1, r2, r3, r4, r5, r6⟩, rf⟩ := h4.sevn
    exact bodyPost_ret (v := .tuple #[val k b n s o, val k' b' n' s' o', doneV 0 k' b' n' s' o' ⟨#[]⟩]) (by simp [results, Tryz.results141, go_sem, p0, p1, p2, p3, p4, q0, q1, q2, q3, q4, r0, r1, r2, r3, r4, r5, r6]) rfl ⟨rfl, hbl⟩
end Go.Proofs.YthdccijielekcaaGreatDoor
