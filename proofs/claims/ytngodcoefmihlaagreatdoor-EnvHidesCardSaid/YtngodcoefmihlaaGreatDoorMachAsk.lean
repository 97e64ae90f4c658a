/-
  Contracts of a made machine's small questions (is it over, its limits, the end of all), and of conversions of a value that is no object. Conditions: the machine's own cells are as said.
-/
import Derived.Test.YtngodcoefmihlaaGreatDoorMach
namespace Go.Proofs.YtngodcoefmihlaaGreatDoor
open Go.RowKit

theorem HasB.sevn {w : World} {b : Nat} {t : TypeId} {v0 v1 v2 v3 v4 v5 v6 : Value} (h : HasB w b #[v0, v1, v2, v3, v4, v5, v6] t) :
    (w.cell? ⟨b, 0, none⟩ = some v0 ∧ w.cell? ⟨b, 1, none⟩ = some v1 ∧ w.cell? ⟨b, 2, none⟩ = some v2 ∧ w.cell? ⟨b, 3, none⟩ = some v3 ∧ w.cell? ⟨b, 4, none⟩ = some v4 ∧ w.cell? ⟨b, 5, none⟩ = some v5 ∧ w.cell? ⟨b, 6, none⟩ = some v6) ∧ ∀ o, w.frozen? ⟨b, o, none⟩ = false :=
  ⟨⟨h.cell 0, h.cell 1, h.cell 2, h.cell 3, h.cell 4, h.cell 5, h.cell 6⟩, h.free⟩

/-- An end, as Go hands it. -/
abbrev doneV (kd k : Int) (b : Bool) (n : Nat) (s : ByteArray) (o : Int) (l : ByteArray) : Value := .agg #[.int .i64 kd, .int .i64 k, .bool b, .float .f64 n, .string s, .int .i64 o, .string l]
abbrev doneL : Value := doneV 5 0 false 0 ⟨#[]⟩ 0 ⟨#[]⟩
abbrev done0 : Value := doneV 0 0 false 0 ⟨#[]⟩ 0 ⟨#[]⟩

variable {m : Nat} {f c ch d left : Int} {over : Bool} {heap : Nat} {envs codes natives body known draws : Value} {drawn calls : Int} {w : World}

theorem Machine_Over (H : MachAt w m f c ch d left over heap envs codes natives body known draws drawn calls) :
    Calls Tryz.prog 10 #[.pointer (some ⟨m, 0, none⟩)] w fun e w' => e = .returned (.bool over) ∧ w = w' := by
  have HI := Machine_is H
  have q5 : w.cell? ⟨m, 5, none⟩ = some (.bool over) := HasB.cell H 5
  clear H
  go_enter Tryz.func10, Tryz.ntmps10
  go_wp2_with (go_at_call 55; refine HI.mono ?_; rintro e w' ⟨rfl, rfl⟩)
  go_ret
  exact ⟨rfl, rfl⟩
theorem convert_limit (H : MachAt w m f c ch d left false heap envs codes natives body known draws drawn calls) :
    Calls Tryz.prog 89 #[.pointer (some ⟨m, 0, none⟩)] w fun e w' => e = .returned (.tuple #[done0, .bool false]) ∧ Below w.heap.size w w' := by
  have HH := fun w H => @Machine_Heap m f c ch d left false heap envs codes natives body known draws drawn calls w H
  have HO := fun w H => @Machine_Over m f c ch d left false heap envs codes natives body known draws drawn calls w H
  have hlt := HasB.lt H
  go_enter Tryz.func89, Tryz.ntmps89
  go_wp2_with (first | (go_at_call 100; refine (HH _ (HasB.alloc H _)).mono ?_; rintro e w' ⟨rfl, rfl⟩) | (go_at_call 10; refine (HO _ (HasB.alloc H _)).mono ?_; rintro e w' ⟨rfl, rfl⟩))
  refine bodyPost_ret (v := .tuple #[done0, .bool false]) (by simp [results, Tryz.results89, go_sem]) rfl ⟨rfl, ?_⟩
  go_grown
theorem convert_normal (k : Int) (b : Bool) (n : Nat) (s : ByteArray) (o : Int) (w : World) : Calls Tryz.prog 90 #[val k b n s o] w fun e w' => e = .returned (doneV 0 k b n s o ⟨#[]⟩) ∧ Below w.heap.size w w' := by
  go_enter Tryz.func90, Tryz.ntmps90
  go_wp2_with fail
  refine bodyPost_ret (v := doneV 0 k b n s o ⟨#[]⟩) (by simp [results, Tryz.results90, go_sem]) rfl ⟨rfl, ?_⟩
  go_grown

set_option maxRecDepth 100000 in
theorem Primitive_plain (k : Int) (b : Bool) (n : Nat) (s : ByteArray) (o hint : Int) (hk : (k == 5) = false) (H : MachAt w m f c ch d left false heap envs codes natives body known draws drawn calls) :
    Calls Tryz.prog 32 #[.pointer (some ⟨m, 0, none⟩), val k b n s o, .int .i64 hint] w fun e w' => e = .returned (doneV 0 k b n s o ⟨#[]⟩) ∧ Below w.heap.size w w' := by
  have HL := fun w H => @convert_limit m f c ch d left heap envs codes natives body known draws drawn calls w H
  have hlt := HasB.lt H
  have hk2 : (k != 5) = true := by simp [bne, hk]
  go_enter Tryz.func32, Tryz.ntmps32
  go_wp2_with fail
  refine (HL _ (HasB.alloc (HasB.alloc H _) _)).mono ?_
  rintro e w1 ⟨rfl, kb⟩
  have B0 := ((HasB.new w #[.int .i64 k, .bool b, .float .f64 n, .string s, .int .i64 o] 35).alloc (.cells #[.int .i64 0, .int .i64 0, .bool false, .float .f64 0, .string ⟨#[]⟩, .int .i64 0, .string ⟨#[]⟩] 37)).below kb
  have B1 := (HasB.new (w.alloc (.cells #[.int .i64 k, .bool b, .float .f64 n, .string s, .int .i64 o] 35)) #[.int .i64 0, .int .i64 0, .bool false, .float .f64 0, .string ⟨#[]⟩, .int .i64 0, .string ⟨#[]⟩] 37).below kb
  have HB := Lib.hid (show Below w.heap.size w w1 from below_via kb (by go_grown) (by simp; omega))
  have hz := kb.size
  simp at B1 hz
  have hz0 : w.heap.size < w1.heap.size := by omega
  have hz1 : w.heap.size + 1 < w1.heap.size := by omega
  obtain ⟨p0, p1, p2, p3, p4, pf⟩ := B0.five
  obtain ⟨⟨s0, s1, s2, s3, s4, s5, s6⟩, sf⟩ := B1.sevn
  clear kb B0 H HL
  go_wp2_with fail
  refine (convert_normal k b n s o _).mono ?_
  rintro e w2 ⟨rfl, kb⟩
  have B2 := (B1.alloc (.cells #[.int .i64 0, .int .i64 0, .bool false, .float .f64 0, .string ⟨#[]⟩, .int .i64 0, .string ⟨#[]⟩] 37)).below kb
  have HB2 := Lib.hid (show Below w.heap.size w w2 from below_via kb (HB.out.alloc (by omega) _) (by simp; omega))
  have hy1 : w.heap.size + 1 < w2.heap.size := B2.lt
  clear kb p0 p1 p2 p3 p4 pf s0 s1 s2 s3 s4 s5 s6 sf HB B1
  obtain ⟨⟨r0, r1, r2, r3, r4, r5, r6⟩, rf⟩ := B2.sevn
  clear B2
  go_wp2_with fail
  refine bodyPost_ret (v := doneV 0 k b n s o ⟨#[]⟩) (by simp [results, Tryz.results32, go_sem, r0, r1, r2, r3, r4, r5, r6]) rfl ⟨rfl, ?_⟩
  exact ((((((HB2.out.setCell (by simp) _).setCell (by simp) _).setCell (by simp) _).setCell (by simp) _).setCell (by simp) _).setCell (by simp) _).setCell (by simp) _
end Go.Proofs.YtngodcoefmihlaaGreatDoor
