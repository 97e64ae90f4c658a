/-
  Contracts of heap.own of an object without properties and without bound values, and of a heap's Take. Conditions: the object is such a one; the heap's own cells are as said, and there is room.
-/
import Derived.Test.YtngodcoefmihlaaGreatDoorHeapMay
import Derived.Deep.RegionHeld3
import Derived.Deep.DeepMust
import Derived.Deep.AppendLies
namespace Go.Proofs.YtngodcoefmihlaaGreatDoor
open Go.RowKit

/-- Everything but one block is as it was. -/
structure But (h : Nat) (w w' : World) : Prop where
  os : w'.os = w.os
  tape : w'.tape = w.tape
  output : w'.output = w.output
  size : w.heap.size ≤ w'.heap.size
  block : ∀ k, k < w.heap.size → k ≠ h → w'.heap[k]? = w.heap[k]?
theorem But.refl (h : Nat) (w : World) : But h w w := ⟨rfl, rfl, rfl, Nat.le_refl _, fun _ _ _ => rfl⟩
theorem But.trans {h : Nat} {a b c : World} (x : But h a b) (y : But h b c) : But h a c :=
  ⟨y.os.trans x.os, y.tape.trans x.tape, y.output.trans x.output, Nat.le_trans x.size y.size, fun k hk hne => (y.block k (Nat.lt_of_lt_of_le hk x.size) hne).trans (x.block k hk hne)⟩
theorem But.of {h : Nat} {w w' : World} (x : Below w.heap.size w w') : But h w w' := ⟨x.os, x.tape, x.output, x.size, fun k hk _ => x.block k hk⟩
theorem But.below {h B : Nat} {a w w' : World} (x : But h w w') (b : Below B a w) (hB : B ≤ h) (hB2 : B ≤ w.heap.size) : Below B a w' :=
  ⟨x.os.trans b.os, x.tape.trans b.tape, x.output.trans b.output, Nat.le_trans b.size x.size, fun k hk => (x.block k (by omega) (by omega)).trans (b.block k hk)⟩
theorem But.hasB {h : Nat} {w w' : World} {b : Nat} {cs : Array Value} {t : TypeId} (x : But h w w') (H : HasB w b cs t) (hne : b ≠ h) : HasB w' b cs t := (x.block b H.lt hne).trans H
theorem But.set {h : Nat} {a w : World} (x : But h a w) (ad : Addr) (v : Value) (hb : ad.block = h ∨ a.heap.size ≤ ad.block) : But h a (w.setCell ad v) :=
  ⟨x.os, x.tape, x.output, by have := x.size; simp [World.setCell]; exact this, fun k hk hne => (Below.heap_setCell w ad v k (by omega)).trans (x.block k hk hne)⟩
theorem But.alloc {h : Nat} {a w : World} (x : But h a w) (o : Obj) : But h a (w.alloc o) :=
  ⟨x.os, x.tape, x.output, by have := x.size; simp; omega, fun k hk hne => (Below.heap_alloc w o k (by have := x.size; omega)).trans (x.block k hk hne)⟩

theorem But.drew {h : Nat} {w w' : World} (x : But h w w') : But h w w'.drew := ⟨x.os, x.tape, x.output, x.size, x.block⟩

/-- An object as a heap keeps it: its two lists are of no length, and not nil. -/
abbrev obj1 (cl p nat : Int) (b1 b2 : Nat) : Value := .agg #[.int .i64 cl, .int .i64 p, .bool false, .slice (some ⟨b2, 0, none⟩) 0 0, .int .i64 0, .bool false, .float .f64 0, .string ⟨#[]⟩, .int .i64 0, .int .i64 nat, .int .i64 0, .int .i64 0, .slice (some ⟨b1, 0, none⟩) 0 0]

set_option maxRecDepth 100000 in
theorem heap_own (cl p nat : Int) (w : World) : Calls Tryz.prog 115 #[obj0 cl p nat] w fun e w' => ∃ b1 b2, e = .returned (obj1 cl p nat b1 b2) ∧ Below w.heap.size w w' := by
  have hmk : ∀ w : World, (Instr.makeSlice 57 (.int .i64 0) (.int .i64 0)).run Tryz.prog w = .ok (.slice (some ⟨w.heap.size, 0, none⟩) 0 0) (w.alloc (.cells #[] 100)) := fun _ => by kernel_rfl
  have hmv : ∀ w : World, (Instr.makeSlice 22 (.int .i64 0) (.int .i64 0)).run Tryz.prog w = .ok (.slice (some ⟨w.heap.size, 0, none⟩) 0 0) (w.alloc (.cells #[] 35)) := fun _ => by kernel_rfl
  go_enter Tryz.func115, Tryz.ntmps115
  go_wp2_with fail
  have hc1 : ∀ (b : Nat) (w : World), (Builtin.copy_ #[57, 57] 3 #[.slice (some ⟨b, 0, none⟩) 0 0, .slice none 0 0]).run Tryz.prog w = .ok (.int .i64 0) w := fun _ _ => by kernel_rfl
  have hc2 : ∀ (b : Nat) (w : World), (Builtin.copy_ #[22, 22] 3 #[.slice (some ⟨b, 0, none⟩) 0 0, .slice none 0 0]).run Tryz.prog w = .ok (.int .i64 0) w := fun _ _ => by kernel_rfl
  have htwo : ∀ o1 o2 : Obj, Below w.heap.size w ((w.alloc o1).alloc o2).drew := fun o1 o2 => Below.drew (Below.alloc (Below.alloc (Below.refl _ w) (Nat.le_refl _) _) (by simp) _)
  go_region_held3 (fun w' => (w'.cell? ⟨w.heap.size, 3, none⟩ = some (.slice none 0 0) ∧ w'.cell? ⟨w.heap.size, 12, none⟩ = some (.slice none 0 0)) ∧ w.heap.size + 2 ≤ w'.heap.size ∧ Below w.heap.size w w')
    (first
      | (refine ⟨⟨?_, ?_⟩, ?_, ?_⟩ <;> first | (simp [go_sem]; done) | exact htwo _ _)
      | (go_split_ands; refine ⟨⟨?_, ?_⟩, ?_, ?_⟩ <;> first | assumption | (simp [*, go_sem]; done) | (simp; omega) | exact Below.alloc (by assumption) (by omega) _))
    (fail)
  all_goals (try clear htwo; rename_i hH; have hfin := hH.2.2; clear hH)
  all_goals go_wp2_with fail
  · refine bodyPost_ret (v := obj1 cl p nat (w.heap.size + 1 + 1 + 1) (w.heap.size + 1 + 1)) (by simp [results, Tryz.results115, go_sem]) rfl ⟨_, _, rfl, ?_⟩
    go_grown
  · refine bodyPost_ret (v := obj1 cl p nat (w.heap.size + 1 + 1) (w.heap.size + 1 + 1 + 1)) (by simp [results, Tryz.results115, go_sem]) rfl ⟨_, _, rfl, ?_⟩
    go_grown

set_option maxRecDepth 100000 in
theorem heap_own1 (cl p nat : Int) (c1 c2 : Nat) (w : World) : Calls Tryz.prog 115 #[obj1 cl p nat c1 c2] w fun e w' => ∃ b1 b2, e = .returned (obj1 cl p nat b1 b2) ∧ Below w.heap.size w w' := by
  have hmk : ∀ w : World, (Instr.makeSlice 57 (.int .i64 0) (.int .i64 0)).run Tryz.prog w = .ok (.slice (some ⟨w.heap.size, 0, none⟩) 0 0) (w.alloc (.cells #[] 100)) := fun _ => by kernel_rfl
  have hmv : ∀ w : World, (Instr.makeSlice 22 (.int .i64 0) (.int .i64 0)).run Tryz.prog w = .ok (.slice (some ⟨w.heap.size, 0, none⟩) 0 0) (w.alloc (.cells #[] 35)) := fun _ => by kernel_rfl
  go_enter Tryz.func115, Tryz.ntmps115
  go_wp2_with fail
  have hc1 : ∀ (b c : Nat) (w : World), (Builtin.copy_ #[57, 57] 3 #[.slice (some ⟨b, 0, none⟩) 0 0, .slice (some ⟨c, 0, none⟩) 0 0]).run Tryz.prog w = .ok (.int .i64 0) w := fun _ _ _ => by kernel_rfl
  have hc2 : ∀ (b c : Nat) (w : World), (Builtin.copy_ #[22, 22] 3 #[.slice (some ⟨b, 0, none⟩) 0 0, .slice (some ⟨c, 0, none⟩) 0 0]).run Tryz.prog w = .ok (.int .i64 0) w := fun _ _ _ => by kernel_rfl
  have htwo : ∀ o1 o2 : Obj, Below w.heap.size w ((w.alloc o1).alloc o2).drew := fun o1 o2 => Below.drew (Below.alloc (Below.alloc (Below.refl _ w) (Nat.le_refl _) _) (by simp) _)
  go_region_held3 (fun w' => (w'.cell? ⟨w.heap.size, 3, none⟩ = some (.slice (some ⟨c2, 0, none⟩) 0 0) ∧ w'.cell? ⟨w.heap.size, 12, none⟩ = some (.slice (some ⟨c1, 0, none⟩) 0 0)) ∧ w.heap.size + 2 ≤ w'.heap.size ∧ Below w.heap.size w w')
    (first
      | (refine ⟨⟨?_, ?_⟩, ?_, ?_⟩ <;> first | (simp [go_sem]; done) | exact htwo _ _)
      | (go_split_ands; refine ⟨⟨?_, ?_⟩, ?_, ?_⟩ <;> first | assumption | (simp [*, go_sem]; done) | (simp; omega) | exact Below.alloc (by assumption) (by omega) _))
    (fail)
  all_goals (try clear htwo; rename_i hH; have hfin := hH.2.2; clear hH)
  all_goals go_wp2_with fail
  · refine bodyPost_ret (v := obj1 cl p nat (w.heap.size + 1 + 1 + 1) (w.heap.size + 1 + 1)) (by simp [results, Tryz.results115, go_sem]) rfl ⟨_, _, rfl, ?_⟩
    go_grown
  · refine bodyPost_ret (v := obj1 cl p nat (w.heap.size + 1 + 1) (w.heap.size + 1 + 1 + 1)) (by simp [results, Tryz.results115, go_sem]) rfl ⟨_, _, rfl, ?_⟩
    go_grown

theorem Heap_Take (h : Nat) (l : Value) (room used : Int) (w : World) (H : HeapAt w h l room used) (h1 : 1 ≤ room - used) (hu : 0 ≤ used) (hr : room ≤ 16777216) :
    Calls Tryz.prog 114 #[.pointer (some ⟨h, 0, none⟩), .int .i64 1] w fun e w' => e = .returned (.bool true) ∧ HeapAt w' h l room (used + 1) ∧ But h w w' := by
  have hB := But.refl h w
  have hwr : IntKind.i64.wrap (room - used) = room - used := by rw [IntKind.wrap_i64]; omega
  have HI := fun w H => Heap_is h l room used w H
  obtain ⟨q0, q1, q2, q3, qf⟩ := HasB.four H
  go_enter Tryz.func114, Tryz.ntmps114
  go_wp2_with fail
  go_region_held3 (fun w' => (w'.cell? ⟨h, 1, none⟩ = some (.int .i64 room) ∧ w'.cell? ⟨h, 2, none⟩ = some (.int .i64 used)) ∧ HeapAt w' h l room used ∧ But h w w')
    (first | (refine ⟨⟨?_, ?_⟩, ?_, ?_⟩ <;> first | exact q1 | exact q2 | exact hB.drew | exact H.drew) | (go_split_ands; refine ⟨⟨?_, ?_⟩, ?_, ?_⟩ <;> assumption))
    (first | (go_at_call 112; refine (HI _ ‹HeapAt _ h l room used›).mono ?_; rintro e w' ⟨rfl, rfl⟩))
  go_wp2_with fail
  go_ret
  exact ⟨rfl, (H.set 2 _).drew, (hB.set _ _ (.inl rfl)).drew⟩
end Go.Proofs.YtngodcoefmihlaaGreatDoor
