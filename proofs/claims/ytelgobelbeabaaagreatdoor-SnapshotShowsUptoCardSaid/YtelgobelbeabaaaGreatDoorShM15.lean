/-
  Contracts of heap.New and of a new heap's small questions (is it made, how many objects, does it have one). Conditions: the cells asked for are within the bounds; the heap's own cells are as said. Contracts of the questions that the heap asks of a plain object (no properties, nothing bound, no value of its own) before it keeps it. Conditions: the object is such a one. Contracts of heap.own of an object without properties and without bound values, and of a heap's Take. Conditions: the object is such a one; the heap's own cells are as said, and there is room. Contract of a heap's Alloc of a plain object, as the heap's first. Conditions: the heap is empty and has room for one cell; the object has no prototype. Contract of machine.New, without draws: the machine that it makes, cell by cell. Conditions: the limits are within their bounds; no draws are handed in. Contracts of a made machine's small questions: is it made, is it done, its heap; the end of all, and a value told. Condition: the machine's own cells are as said. Contracts of a machine's Alloc of its first object, a plain one, and of a heap's questions on it (is it there, what is it). Conditions: the machine's and the heap's own cells are as said. Contract of a heap's Object, of the heap's one object. Condition: the heap holds one plain object. The teller of package snapshot: its own block; contracts of what it writes with. Conditions: the teller's cells are as said; what it has written is a row of bytes of its own. Contract of the teller's put: words, a blank between each two, behind what is written. Conditions: as at WriteString; something is written, and not too much.
-/
import Derived.Test.YtelgobelbeabaaaGreatDoorShM4
import Derived.Test.YtelgobelbeabaaaGreatDoorShM10
import Derived.Deep.RegionHeld3
import Derived.Deep.DeepMust
import Derived.Deep.QuietTactic
import Derived.BigQuiet
import Derived.Deep.AppendLies
import Derived.Deep.RegionLaw
import Derived.Test.YtelgobelbeabaaaGreatDoorShM7
namespace Go.Proofs.YtelgobelbeabaaaGreatDoor
open Go.RowKit

/-- A heap's own block. -/
def HeapAt (w : World) (h : Nat) (l : Value) (room used : Int) : Prop := HasB w h #[l, .int .i64 room, .int .i64 used, .bool true] 112

theorem HasB.four {w : World} {b : Nat} {t : TypeId} {v0 v1 v2 v3 : Value} (h : HasB w b #[v0, v1, v2, v3] t) :
    w.cell? ⟨b, 0, none⟩ = some v0 ∧ w.cell? ⟨b, 1, none⟩ = some v1 ∧ w.cell? ⟨b, 2, none⟩ = some v2 ∧ w.cell? ⟨b, 3, none⟩ = some v3 ∧ ∀ o, w.frozen? ⟨b, o, none⟩ = false :=
  ⟨h.cell 0, h.cell 1, h.cell 2, h.cell 3, h.free⟩

theorem heap_New (c : Int) (w : World) (h0 : 0 ≤ c) (h1 : c ≤ 16777216) :
    Calls Tryz.prog 38 #[.int .i64 c] w fun e w' => e = .returned (.tuple #[.pointer (some ⟨w.heap.size, 0, none⟩), .int .i64 0]) ∧ w.alloc (.cells #[.slice none 0 0, .int .i64 c, .int .i64 0, .bool true] 112) = w' := by
  go_enter Tryz.func38, Tryz.ntmps38
  go_wp2
  go_returns
  exact ⟨rfl, rfl⟩

theorem Heap_is (h : Nat) (l : Value) (room used : Int) (w : World) (H : HeapAt w h l room used) :
    Calls Tryz.prog 76 #[.pointer (some ⟨h, 0, none⟩)] w fun e w' => e = .returned (.bool true) ∧ w = w' := by
  obtain ⟨q0, q1, q2, q3, qf⟩ := HasB.four H
  clear H
  go_enter Tryz.func76, Tryz.ntmps76
  go_wp2
  go_ret
  exact ⟨rfl, rfl⟩
theorem Heap_is_nil (w : World) :
    Calls Tryz.prog 76 #[.pointer none] w fun e w' => e = .returned (.bool false) ∧ w = w' := by
  go_enter Tryz.func76, Tryz.ntmps76
  go_wp2
  go_ret
  exact ⟨rfl, rfl⟩
theorem Heap_Len (h : Nat) (a : Option Addr) (n c : Nat) (room used : Int) (w : World) (H : HeapAt w h (.slice a n c) room used) :
    Calls Tryz.prog 85 #[.pointer (some ⟨h, 0, none⟩)] w fun e w' => e = .returned (.int .i64 n) ∧ w = w' := by
  have HI := Heap_is h _ room used w H
  obtain ⟨q0, q1, q2, q3, qf⟩ := HasB.four H
  clear H
  go_enter Tryz.func85, Tryz.ntmps85
  go_wp2_with (go_at_call 76; refine HI.mono ?_; rintro e w' ⟨rfl, rfl⟩)
  go_ret
  exact ⟨rfl, rfl⟩
end Go.Proofs.YtelgobelbeabaaaGreatDoor
namespace Go.Proofs.YtelgobelbeabaaaGreatDoor
open Go.RowKit

/-- A plain object, as Go hands it. -/
abbrev obj0 (cl p nat : Int) : Value := .agg #[.int .i64 cl, .int .i64 p, .bool false, .slice none 0 0, .int .i64 0, .bool false, .float .f64 0, .string ⟨#[]⟩, .int .i64 0, .int .i64 nat, .int .i64 0, .int .i64 0, .slice none 0 0]

attribute [local go_sem] run_Float64bits
theorem value_Check_zero (w : World) : Calls Tryz.prog 110 #[.agg #[.int .i64 0, .bool false, .float .f64 0, .string ⟨#[]⟩, .int .i64 0]] w fun e w' => e = .returned (.int .i64 0) ∧ Below w.heap.size w w' := by
  go_enter Tryz.func110, Tryz.ntmps110
  go_wp2
  go_ret
  exact ⟨rfl, by go_grown⟩

theorem heap_inside (cl p nat : Int) (hc : cl = 1 ∨ cl = 2 ∨ cl = 7) (w : World) : Calls Tryz.prog 107 #[obj0 cl p nat] w fun e w' => e = .returned (.bool true) ∧ Below w.heap.size w w' := by
  rcases hc with rfl | rfl | rfl
  all_goals
    go_enter Tryz.func107, Tryz.ntmps107
    go_wp2_with fail
    refine (value_Check_zero _).mono ?_
    rintro e w' ⟨rfl, k'⟩
    go_wp2
    go_ret
    exact ⟨rfl, below_via k' (by go_grown) (by simp)⟩

theorem IndexFunc_vals_nil (f : Value) (w : World) : Calls Tryz.prog 145 #[.slice none 0 0, f] w fun e w' => e = .returned (.int .i64 (-1)) ∧ w = w' := by
  go_enter Tryz.func145, Tryz.ntmps145
  go_wp2_with fail
  go_rounds 1
  go_ret
  exact ⟨rfl, rfl⟩
theorem ContainsFunc_vals_nil (f : Value) (w : World) : Calls Tryz.prog 108 #[.slice none 0 0, f] w fun e w' => e = .returned (.bool false) ∧ w = w' := by
  go_enter Tryz.func108, Tryz.ntmps108
  go_wp2_with (go_at_call 145; refine (IndexFunc_vals_nil _ _).mono ?_; rintro e w' ⟨rfl, rfl⟩)
  go_ret
  exact ⟨rfl, rfl⟩
theorem IndexFunc_keyed_nil (f : Value) (w : World) : Calls Tryz.prog 152 #[.slice none 0 0, f] w fun e w' => e = .returned (.int .i64 (-1)) ∧ w = w' := by
  go_enter Tryz.func152, Tryz.ntmps152
  go_wp2_with fail
  go_rounds 1
  go_ret
  exact ⟨rfl, rfl⟩
theorem ContainsFunc_keyed_nil (f : Value) (w : World) : Calls Tryz.prog 113 #[.slice none 0 0, f] w fun e w' => e = .returned (.bool false) ∧ w = w' := by
  go_enter Tryz.func113, Tryz.ntmps113
  go_wp2_with (go_at_call 152; refine (IndexFunc_keyed_nil _ _).mono ?_; rintro e w' ⟨rfl, rfl⟩)
  go_ret
  exact ⟨rfl, rfl⟩
theorem heap_indexes_nil (w : World) : Calls Tryz.prog 111 #[.slice none 0 0] w fun e w' => e = .returned (.tuple #[.map (some w.heap.size), .bool true]) ∧ w.alloc (.map #[] 0) = w' := by
  have hmm := @run_makeMap Tryz.prog
  go_enter Tryz.func111, Tryz.ntmps111
  go_wp2_with fail
  go_rounds 1
  go_returns
  exact ⟨rfl, rfl⟩

/-- An empty map of the call's own came back, and a yes. -/
def EmptyMap (w : World) (e : Ending) (w' : World) : Prop := ∃ g, e = .returned (.tuple #[.map (some g), .bool true]) ∧ w'.heap[g]? = some (.map #[] 0) ∧ w.heap.size ≤ g ∧ Below w.heap.size w w'

theorem map_new (w : World) : (w.alloc (.map #[] 0)).heap[w.heap.size]? = some (.map #[] 0) := heap_alloc_new w _

theorem HasB.obj {w : World} {b : Nat} {t : TypeId} {v0 v1 v2 v3 v4 v5 v6 v7 v8 v9 v10 v11 v12 : Value} (h : HasB w b #[v0, v1, v2, v3, v4, v5, v6, v7, v8, v9, v10, v11, v12] t) :
    (w.cell? ⟨b, 0, none⟩ = some v0 ∧ w.cell? ⟨b, 1, none⟩ = some v1 ∧ w.cell? ⟨b, 2, none⟩ = some v2 ∧ w.cell? ⟨b, 3, none⟩ = some v3 ∧ w.cell? ⟨b, 4, none⟩ = some v4 ∧ w.cell? ⟨b, 5, none⟩ = some v5 ∧ w.cell? ⟨b, 6, none⟩ = some v6) ∧
    w.cell? ⟨b, 7, none⟩ = some v7 ∧ w.cell? ⟨b, 8, none⟩ = some v8 ∧ w.cell? ⟨b, 9, none⟩ = some v9 ∧ w.cell? ⟨b, 10, none⟩ = some v10 ∧ w.cell? ⟨b, 11, none⟩ = some v11 ∧ w.cell? ⟨b, 12, none⟩ = some v12 ∧ ∀ o, w.frozen? ⟨b, o, none⟩ = false :=
  ⟨⟨h.cell 0, h.cell 1, h.cell 2, h.cell 3, h.cell 4, h.cell 5, h.cell 6⟩, h.cell 7, h.cell 8, h.cell 9, h.cell 10, h.cell 11, h.cell 12, h.free⟩

set_option maxHeartbeats 1000000 in
theorem heap_may (cl p nat : Int) (ahead : Nat) (hc : cl = 1 ∨ cl = 2 ∨ cl = 7) (hp : -1 ≤ p) (hp' : p < ahead) (hn : 0 ≤ nat) (w : World) :
    Calls Tryz.prog 77 #[obj0 cl p nat, .int .i64 ahead] w (EmptyMap w) := by
  have hI := fun w => heap_inside cl p nat hc w
  have hmf : ∀ (fn : Fn) (first cap : Array Value) (w : World), (Instr.makeFunc fn first cap).run Tryz.prog w = .ok (.func fn first cap) w := fun _ _ _ _ => rfl
  rcases hc with rfl | rfl | rfl
  all_goals
    go_enter Tryz.func77, Tryz.ntmps77
    go_wp2_with fail
    refine (hI _).mono ?_
    rintro e w1 ⟨rfl, hb⟩
    have HB := (HasB.new w _ _).below hb
    obtain ⟨⟨q0, q1, q2, q3, q4, q5, q6⟩, q7, q8, q9, q10, q11, q12, qf⟩ := HB.obj
    have hb' : Below w.heap.size w w1 := below_via hb ((Below.refl _ w).alloc (Nat.le_refl _) _) (by simp)
    clear hb
    have hlt := HB.lt
    clear HB
    go_wp2_with (first | (go_at_call 108; refine (ContainsFunc_vals_nil _ _).mono ?_; rintro e w' ⟨rfl, rfl⟩) | (go_at_call 111; refine (heap_indexes_nil _).mono ?_; rintro e w' ⟨rfl, rfl⟩) | (go_at_call 113; refine (ContainsFunc_keyed_nil _ _).mono ?_; rintro e w' ⟨rfl, rfl⟩))
    go_returns
    exact ⟨_, rfl, map_new _, by omega, hb'.alloc (by omega) _⟩
end Go.Proofs.YtelgobelbeabaaaGreatDoor
namespace Go.Proofs.YtelgobelbeabaaaGreatDoor
open Go.RowKit

/-- Everything but one block is as it was. -/
structure But (h : Nat) (w w' : World) : Prop where
  os : w'.os = w.os
  tape : w'.tape = w.tape
  output : w'.output = w.output
  size : w.heap.size ≤ w'.heap.size
  block : ∀ k, k < w.heap.size → k ≠ h → w'.heap[k]? = w.heap[k]?
theorem But.refl (h : Nat) (w : World) : But h w w := ⟨rfl, rfl, rfl, Nat.le_refl _, fun _ _ _ => rfl⟩
theorem But.trans {h : Nat} {a b c : World} (x : But h a b) (y : But h b c) : But h a c :=
  ⟨y.os.trans x.os, y.tape.trans x.tape, y.output.trans x.output, Nat.le_trans x.size y.size, fun k hk hne => (y.block k (Nat.lt_of_lt_of_le hk x.size) hne).trans (x.block k hk hne)⟩
theorem But.of {h : Nat} {w w' : World} (x : Below w.heap.size w w') : But h w w' := ⟨x.os, x.tape, x.output, x.size, fun k hk _ => x.block k hk⟩
theorem But.below {h B : Nat} {a w w' : World} (x : But h w w') (b : Below B a w) (hB : B ≤ h) (hB2 : B ≤ w.heap.size) : Below B a w' :=
  ⟨x.os.trans b.os, x.tape.trans b.tape, x.output.trans b.output, Nat.le_trans b.size x.size, fun k hk => (x.block k (by omega) (by omega)).trans (b.block k hk)⟩
theorem But.hasB {h : Nat} {w w' : World} {b : Nat} {cs : Array Value} {t : TypeId} (x : But h w w') (H : HasB w b cs t) (hne : b ≠ h) : HasB w' b cs t := (x.block b H.lt hne).trans H
theorem But.set {h : Nat} {a w : World} (x : But h a w) (ad : Addr) (v : Value) (hb : ad.block = h ∨ a.heap.size ≤ ad.block) : But h a (w.setCell ad v) :=
  ⟨x.os, x.tape, x.output, by have := x.size; simp [World.setCell]; exact this, fun k hk hne => (Below.heap_setCell w ad v k (by omega)).trans (x.block k hk hne)⟩
theorem But.alloc {h : Nat} {a w : World} (x : But h a w) (o : Obj) : But h a (w.alloc o) :=
  ⟨x.os, x.tape, x.output, by have := x.size; simp; omega, fun k hk hne => (Below.heap_alloc w o k (by have := x.size; omega)).trans (x.block k hk hne)⟩

theorem But.drew {h : Nat} {w w' : World} (x : But h w w') : But h w w'.drew := ⟨x.os, x.tape, x.output, x.size, x.block⟩

/-- An object as a heap keeps it: its two lists are of no length, and not nil. -/
abbrev obj1 (cl p nat : Int) (b1 b2 : Nat) : Value := .agg #[.int .i64 cl, .int .i64 p, .bool false, .slice (some ⟨b2, 0, none⟩) 0 0, .int .i64 0, .bool false, .float .f64 0, .string ⟨#[]⟩, .int .i64 0, .int .i64 nat, .int .i64 0, .int .i64 0, .slice (some ⟨b1, 0, none⟩) 0 0]

set_option maxRecDepth 100000 in
theorem heap_own (cl p nat : Int) (w : World) : Calls Tryz.prog 79 #[obj0 cl p nat] w fun e w' => ∃ b1 b2, e = .returned (obj1 cl p nat b1 b2) ∧ Below w.heap.size w w' := by
  have hmk : ∀ w : World, (Instr.makeSlice 43 (.int .i64 0) (.int .i64 0)).run Tryz.prog w = .ok (.slice (some ⟨w.heap.size, 0, none⟩) 0 0) (w.alloc (.cells #[] 145)) := fun _ => by kernel_rfl
  have hmv : ∀ w : World, (Instr.makeSlice 44 (.int .i64 0) (.int .i64 0)).run Tryz.prog w = .ok (.slice (some ⟨w.heap.size, 0, none⟩) 0 0) (w.alloc (.cells #[] 24)) := fun _ => by kernel_rfl
  go_enter Tryz.func79, Tryz.ntmps79
  go_wp2_with fail
  have hc1 : ∀ (b : Nat) (w : World), (Builtin.copy_ #[43, 43] 3 #[.slice (some ⟨b, 0, none⟩) 0 0, .slice none 0 0]).run Tryz.prog w = .ok (.int .i64 0) w := fun _ _ => by kernel_rfl
  have hc2 : ∀ (b : Nat) (w : World), (Builtin.copy_ #[44, 44] 3 #[.slice (some ⟨b, 0, none⟩) 0 0, .slice none 0 0]).run Tryz.prog w = .ok (.int .i64 0) w := fun _ _ => by kernel_rfl
  have htwo : ∀ o1 o2 : Obj, Below w.heap.size w ((w.alloc o1).alloc o2).drew := fun o1 o2 => Below.drew (Below.alloc (Below.alloc (Below.refl _ w) (Nat.le_refl _) _) (by simp) _)
  go_region_held3 (fun w' => (w'.cell? ⟨w.heap.size, 3, none⟩ = some (.slice none 0 0) ∧ w'.cell? ⟨w.heap.size, 12, none⟩ = some (.slice none 0 0)) ∧ w.heap.size + 2 ≤ w'.heap.size ∧ Below w.heap.size w w')
    (first
      | (refine ⟨⟨?_, ?_⟩, ?_, ?_⟩ <;> first | (simp [go_sem]; done) | exact htwo _ _)
      | (go_split_ands; refine ⟨⟨?_, ?_⟩, ?_, ?_⟩ <;> first | assumption | (simp [*, go_sem]; done) | (simp; omega) | exact Below.alloc (by assumption) (by omega) _))
    (fail)
  all_goals (try clear htwo; rename_i hH; have hfin := hH.2.2; clear hH)
  all_goals go_wp2_with fail
  · refine bodyPost_ret (v := obj1 cl p nat (w.heap.size + 1 + 1 + 1) (w.heap.size + 1 + 1)) (by simp [results, Tryz.results79, go_sem]) rfl ⟨_, _, rfl, ?_⟩
    go_grown
  · refine bodyPost_ret (v := obj1 cl p nat (w.heap.size + 1 + 1) (w.heap.size + 1 + 1 + 1)) (by simp [results, Tryz.results79, go_sem]) rfl ⟨_, _, rfl, ?_⟩
    go_grown

set_option maxRecDepth 100000 in
theorem heap_own1 (cl p nat : Int) (c1 c2 : Nat) (w : World) : Calls Tryz.prog 79 #[obj1 cl p nat c1 c2] w fun e w' => ∃ b1 b2, e = .returned (obj1 cl p nat b1 b2) ∧ Below w.heap.size w w' := by
  have hmk : ∀ w : World, (Instr.makeSlice 43 (.int .i64 0) (.int .i64 0)).run Tryz.prog w = .ok (.slice (some ⟨w.heap.size, 0, none⟩) 0 0) (w.alloc (.cells #[] 145)) := fun _ => by kernel_rfl
  have hmv : ∀ w : World, (Instr.makeSlice 44 (.int .i64 0) (.int .i64 0)).run Tryz.prog w = .ok (.slice (some ⟨w.heap.size, 0, none⟩) 0 0) (w.alloc (.cells #[] 24)) := fun _ => by kernel_rfl
  go_enter Tryz.func79, Tryz.ntmps79
  go_wp2_with fail
  have hc1 : ∀ (b c : Nat) (w : World), (Builtin.copy_ #[43, 43] 3 #[.slice (some ⟨b, 0, none⟩) 0 0, .slice (some ⟨c, 0, none⟩) 0 0]).run Tryz.prog w = .ok (.int .i64 0) w := fun _ _ _ => by kernel_rfl
  have hc2 : ∀ (b c : Nat) (w : World), (Builtin.copy_ #[44, 44] 3 #[.slice (some ⟨b, 0, none⟩) 0 0, .slice (some ⟨c, 0, none⟩) 0 0]).run Tryz.prog w = .ok (.int .i64 0) w := fun _ _ _ => by kernel_rfl
  have htwo : ∀ o1 o2 : Obj, Below w.heap.size w ((w.alloc o1).alloc o2).drew := fun o1 o2 => Below.drew (Below.alloc (Below.alloc (Below.refl _ w) (Nat.le_refl _) _) (by simp) _)
  go_region_held3 (fun w' => (w'.cell? ⟨w.heap.size, 3, none⟩ = some (.slice (some ⟨c2, 0, none⟩) 0 0) ∧ w'.cell? ⟨w.heap.size, 12, none⟩ = some (.slice (some ⟨c1, 0, none⟩) 0 0)) ∧ w.heap.size + 2 ≤ w'.heap.size ∧ Below w.heap.size w w')
    (first
      | (refine ⟨⟨?_, ?_⟩, ?_, ?_⟩ <;> first | (simp [go_sem]; done) | exact htwo _ _)
      | (go_split_ands; refine ⟨⟨?_, ?_⟩, ?_, ?_⟩ <;> first | assumption | (simp [*, go_sem]; done) | (simp; omega) | exact Below.alloc (by assumption) (by omega) _))
    (fail)
  all_goals (try clear htwo; rename_i hH; have hfin := hH.2.2; clear hH)
  all_goals go_wp2_with fail
  · refine bodyPost_ret (v := obj1 cl p nat (w.heap.size + 1 + 1 + 1) (w.heap.size + 1 + 1)) (by simp [results, Tryz.results79, go_sem]) rfl ⟨_, _, rfl, ?_⟩
    go_grown
  · refine bodyPost_ret (v := obj1 cl p nat (w.heap.size + 1 + 1) (w.heap.size + 1 + 1 + 1)) (by simp [results, Tryz.results79, go_sem]) rfl ⟨_, _, rfl, ?_⟩
    go_grown

theorem Heap_Take (h : Nat) (l : Value) (room used : Int) (w : World) (H : HeapAt w h l room used) (h1 : 1 ≤ room - used) (hu : 0 ≤ used) (hr : room ≤ 16777216) :
    Calls Tryz.prog 78 #[.pointer (some ⟨h, 0, none⟩), .int .i64 1] w fun e w' => e = .returned (.bool true) ∧ HeapAt w' h l room (used + 1) ∧ But h w w' := by
  have hB := But.refl h w
  have hwr : IntKind.i64.wrap (room - used) = room - used := by rw [IntKind.wrap_i64]; omega
  have HI := fun w H => Heap_is h l room used w H
  obtain ⟨q0, q1, q2, q3, qf⟩ := HasB.four H
  go_enter Tryz.func78, Tryz.ntmps78
  go_wp2_with fail
  go_region_held3 (fun w' => (w'.cell? ⟨h, 1, none⟩ = some (.int .i64 room) ∧ w'.cell? ⟨h, 2, none⟩ = some (.int .i64 used)) ∧ HeapAt w' h l room used ∧ But h w w')
    (first | (refine ⟨⟨?_, ?_⟩, ?_, ?_⟩ <;> first | exact q1 | exact q2 | exact hB.drew | exact H.drew) | (go_split_ands; refine ⟨⟨?_, ?_⟩, ?_, ?_⟩ <;> assumption))
    (first | (go_at_call 76; refine (HI _ ‹HeapAt _ h l room used›).mono ?_; rintro e w' ⟨rfl, rfl⟩))
  go_wp2_with fail
  go_ret
  exact ⟨rfl, (H.set 2 _).drew, (hB.set _ _ (.inl rfl)).drew⟩
end Go.Proofs.YtelgobelbeabaaaGreatDoor
namespace Go.Proofs.YtelgobelbeabaaaGreatDoor
open Go.RowKit

theorem info_cellp : (Tryz.prog.info? 118).map (fun i => (i.zero, i.size, i.bytes)) = some (some (.pointer none), 1, 8) := by kernel_rfl

/-- The heap's list: one object, and what it is. -/
def OneObj (w : World) (h B : Nat) (cl nat room used : Int) : Prop :=
  ∃ g c x b1 b2 mp, B ≤ g ∧ B ≤ x ∧ HeapAt w h (.slice (some ⟨g, 0, none⟩) 1 c) room used ∧ (w.cell? ⟨g, 0, none⟩ = some (.pointer (some ⟨x, 0, none⟩)) ∧ w.frozen? ⟨g, 0, none⟩ = false) ∧
    HasB w x #[.int .i64 cl, .int .i64 (-1), .bool false, .slice (some ⟨b2, 0, none⟩) 0 0, .int .i64 0, .bool false, .float .f64 0, .string ⟨#[]⟩, .int .i64 0, .int .i64 nat, .int .i64 0, .int .i64 0, .slice (some ⟨b1, 0, none⟩) 0 0, mp] 121

theorem OneObj.below {w w' : World} {h B : Nat} {cl nat room used : Int} (H : OneObj w h B cl nat room used) (b : Below w.heap.size w w') : OneObj w' h B cl nat room used := by
  obtain ⟨g, c, x, b1, b2, mp, hg, hx, h1, ⟨h2, h3⟩, h4⟩ := H
  have hl := World.block_lt_of_cell? w _ h2
  exact ⟨g, c, x, b1, b2, mp, hg, hx, HasB.below h1 b, ⟨(b.cell hl).trans h2, (b.frozen (p := ⟨g, 0, none⟩) hl).trans h3⟩, HasB.below h4 b⟩
theorem OneObj.set {w : World} {h B : Nat} {cl nat room used : Int} (H : OneObj w h B cl nat room used) (a : Addr) (v : Value) (ha : a.block < B) (hn : a.block ≠ h) : OneObj (w.setCell a v) h B cl nat room used := by
  obtain ⟨g, c, x, b1, b2, mp, hg, hx, h1, ⟨h2, h3⟩, h4⟩ := H
  exact ⟨g, c, x, b1, b2, mp, hg, hx, HasB.far h1 (Ne.symm hn) v, ⟨(World.cell?_of_block (Below.heap_setCell w a v g (by omega))).trans h2, (World.frozen?_of_block (Below.heap_setCell w a v g (by omega))).trans h3⟩, HasB.far h4 (by omega) v⟩

theorem OneObj.mono {w : World} {h B B' : Nat} {cl nat room used : Int} (H : OneObj w h B cl nat room used) (hB : B' ≤ B) : OneObj w h B' cl nat room used := by
  obtain ⟨g, c, x, b1, b2, mp, hg, hx, h1, h2, h4⟩ := H
  exact ⟨g, c, x, b1, b2, mp, by omega, by omega, h1, h2, h4⟩

theorem HasB.newSet (w : World) (a : Addr) (v : Value) {cs : Array Value} {t : TypeId} : HasB ((w.setCell a v).alloc (.cells cs t)) w.heap.size cs t := by
  have h := HasB.new (w.setCell a v) cs t
  simpa using h
theorem HasB.new3 {w : World} {x y : Obj} {cs : Array Value} {t : TypeId} {n : Nat} (hn : n = w.heap.size) : HasB (((w.alloc x).alloc y).alloc (.cells cs t)) (n + 1 + 1) cs t := by
  subst hn
  have h := HasB.new ((w.alloc x).alloc y) cs t
  simpa using h
theorem first_app (p : Value) (X : Array Value) : (#[p] ++ X)[0]? = some p := by rw [Array.getElem?_append_left (by simp)]; rfl
theorem put0 {w : World} {h : Nat} {l : Value} {room used : Int} (H : HeapAt w h l room used) (v : Value) : HeapAt (w.setCell ⟨h, 0, none⟩ v) h v room used := by
  have h := HasB.set H 0 v
  simp at h
  exact h
theorem new_two (w : World) (x y : Obj) : ((w.alloc x).alloc y).heap[w.heap.size + 1]? = some y := by
  have h := heap_alloc_new (w.alloc x) y
  simpa using h
theorem grown_nil {w w' : World} (h : w.grownBy w' none) : Below w.heap.size w w' := ⟨h.os, h.tape, h.output, h.size, fun k hk => h.block k hk (by simp)⟩

set_option maxRecDepth 100000 in
set_option maxHeartbeats 1000000 in
theorem Heap_Alloc (h : Nat) (cl nat room used : Int) (w : World) (H : HeapAt w h (.slice none 0 0) room used) (hc : cl = 1 ∨ cl = 2 ∨ cl = 7) (hn : 0 ≤ nat) (h1 : 1 ≤ room - used) (hu : 0 ≤ used) (hr : room ≤ 16777216) :
    Calls Tryz.prog 45 #[.pointer (some ⟨h, 0, none⟩), obj0 cl (-1) nat] w fun e w' => e = .returned (.tuple #[.int .i64 0, .int .i64 0]) ∧ OneObj w' h w.heap.size cl nat room (used + 1) ∧ But h w w' := by
  obtain ⟨i0, hi, hz0, hz1, hz2⟩ := info_parts info_cellp
  have HI := fun w H => Heap_is h (.slice none 0 0) room used w H
  have HM : ∀ w, Calls Tryz.prog 77 #[obj0 cl (-1) nat, .int .i64 0] w (EmptyMap w) := fun w => heap_may cl (-1) nat 0 hc (by omega) (by omega) hn w
  obtain ⟨q0, q1, q2, q3, qf⟩ := HasB.four H
  have hlt := H.lt
  go_enter Tryz.func45, Tryz.ntmps45
  go_wp2_with fail
  refine (HI _ (H.alloc _)).mono ?_
  rintro e w' ⟨rfl, rfl⟩
  go_wp2_with fail
  have HO := HasB.new w (#[.int .i64 cl, .int .i64 (-1), .bool false, .slice none 0 0, .int .i64 0, .bool false, .float .f64 0, .string ⟨#[]⟩, .int .i64 0, .int .i64 nat, .int .i64 0, .int .i64 0, .slice none 0 0]) 46
  have hH0 : HeapAt _ h (.slice none 0 0) room used := H.alloc (.cells (#[.int .i64 cl, .int .i64 (-1), .bool false, .slice none 0 0, .int .i64 0, .bool false, .float .f64 0, .string ⟨#[]⟩, .int .i64 0, .int .i64 nat, .int .i64 0, .int .i64 0, .slice none 0 0]) 46)
  have hB0 := (But.refl h w).alloc (.cells (#[.int .i64 cl, .int .i64 (-1), .bool false, .slice none 0 0, .int .i64 0, .bool false, .float .f64 0, .string ⟨#[]⟩, .int .i64 0, .int .i64 nat, .int .i64 0, .int .i64 0, .slice none 0 0]) 46)
  have hlo := HO.lt
  revert HO hH0 hB0 hlo
  generalize w.alloc (.cells (#[.int .i64 cl, .int .i64 (-1), .bool false, .slice none 0 0, .int .i64 0, .bool false, .float .f64 0, .string ⟨#[]⟩, .int .i64 0, .int .i64 nat, .int .i64 0, .int .i64 0, .slice none 0 0]) 46) = w0
  intro HO hH0 hB0 hlo
  obtain ⟨⟨p0, p1, p2, p3, p4, p5, p6⟩, p7, p8, p9, p10, p11, p12, pf⟩ := HO.obj
  obtain ⟨r0, r1, r2, r3, rf⟩ := HasB.four hH0
  clear q0 q1 q2 q3 qf
  go_region_held3 (fun w' => w'.cell? ⟨w.heap.size, 0, none⟩ = some (.int .i64 cl) ∧ w'.cell? ⟨w.heap.size, 1, none⟩ = some (.int .i64 (-1)) ∧ w'.cell? ⟨w.heap.size, 2, none⟩ = some (.bool false) ∧ w'.cell? ⟨w.heap.size, 3, none⟩ = some (.slice none 0 0) ∧ w'.cell? ⟨w.heap.size, 4, none⟩ = some (.int .i64 0) ∧ w'.cell? ⟨w.heap.size, 5, none⟩ = some (.bool false) ∧ w'.cell? ⟨w.heap.size, 6, none⟩ = some (.float .f64 0) ∧ w'.cell? ⟨w.heap.size, 7, none⟩ = some (.string ⟨#[]⟩) ∧ w'.cell? ⟨w.heap.size, 8, none⟩ = some (.int .i64 0) ∧ w'.cell? ⟨w.heap.size, 9, none⟩ = some (.int .i64 nat) ∧ w'.cell? ⟨w.heap.size, 10, none⟩ = some (.int .i64 0) ∧ w'.cell? ⟨w.heap.size, 11, none⟩ = some (.int .i64 0) ∧ w'.cell? ⟨w.heap.size, 12, none⟩ = some (.slice none 0 0) ∧ w'.cell? ⟨h, 0, none⟩ = some (.slice none 0 0) ∧ HasB w' w.heap.size (#[.int .i64 cl, .int .i64 (-1), .bool false, .slice none 0 0, .int .i64 0, .bool false, .float .f64 0, .string ⟨#[]⟩, .int .i64 0, .int .i64 nat, .int .i64 0, .int .i64 0, .slice none 0 0]) 46 ∧ HeapAt w' h (.slice none 0 0) room used ∧ But h w w')
    (first
      | (refine ⟨?_, ?_, ?_, ?_, ?_, ?_, ?_, ?_, ?_, ?_, ?_, ?_, ?_, ?_, ?_, ?_, ?_⟩ <;> first | exact HO.drew | exact hH0.drew | exact hB0.drew | (simp only [World.cell?_drew]; assumption) | assumption)
      | (go_split_ands; refine ⟨?_, ?_, ?_, ?_, ?_, ?_, ?_, ?_, ?_, ?_, ?_, ?_, ?_, ?_, ?_, ?_, ?_⟩ <;> first | exact below_keep hb (by assumption) | exact HasB.below (by assumption) hb | exact But.trans (by assumption) (But.of hb) | assumption))
    (first | (go_at_call 77; refine (HM _).mono ?_; rintro e w1 ⟨mp, rfl, hmp, hmpl, hb⟩))
  rename_i hS
  clear p0 p1 p2 p3 p4 p5 p6 p7 p8 p9 p10 p11 p12 pf r0 r1 r2 r3 rf HM HI
  obtain ⟨p0, p1, p2, p3, p4, p5, p6, p7, p8, p9, p10, p11, p12, -, HO1, hH1, hB1⟩ := hS
  have hl1 := HO1.lt
  have pf := HO1.free
  go_wp2_with fail
  refine (Heap_Take h _ room used w1 hH1 h1 hu hr).mono ?_
  rintro e w2 ⟨rfl, hH2, hB2⟩
  have HO2 := hB2.hasB HO1 (by omega)
  have hB := hB1.trans hB2
  have hl2 := HO2.lt
  clear p0 p1 p2 p3 p4 p5 p6 p7 p8 p9 p10 p11 p12 pf
  obtain ⟨⟨p0, p1, p2, p3, p4, p5, p6⟩, p7, p8, p9, p10, p11, p12, pf⟩ := HO2.obj
  obtain ⟨r0, r1, r2, r3, rf⟩ := HasB.four hH2
  go_wp2_with fail
  have hOwn := fun w => heap_own cl (-1) nat w
  have hnc : Builtin.nextslicecap 1 0 * Tryz.t118.bytes = 8 := by kernel_rfl
  go_region_law (go_simp; go_at_call 79; refine (hOwn _).mono ?_; rintro e w3 ⟨b1, b2, rfl, k⟩; have k2 : w2.heap.size ≤ w3.heap.size := k.size; have hH3 : HeapAt w3 h (.slice none 0 0) room (used + 1) := HasB.below (HasB.drew hH2) k; have r0' := below_keep k r0; have rf3 := HasB.free hH3; have hh3 := HasB.lt hH3; have hh4 : h < w3.heap.size + 1 := (by omega); have hh5 : h < w3.heap.size + 1 + 1 := (by omega); have hn3 : ¬ h = w3.heap.size := (by omega); have hn4 : ¬ h = w3.heap.size + 1 := (by omega); have hn5 : ¬ h = w3.heap.size + 1 + 1 := (by omega))
  all_goals (clear hB2 hB1 hB0 hH0 HO HO1 hH1)
  all_goals go_wp2_with fail
  all_goals
    go_returns
    refine ⟨rfl, ⟨w3.heap.size + 1 + 1, (Question.appendCap 1 0 118).cut (w3.tape w3.drawn (Question.appendCap 1 0 118)), w3.heap.size, b1, b2, .map (some mp), by omega, by omega, ?_, ?_, ?_⟩, ?_⟩
    · exact HasB.drew (HasB.alloc (HasB.alloc (HasB.alloc (put0 hH3 _) _) _) _)
    · exact ⟨(HasB.cell (HasB.drew (HasB.new3 (by simp))) 0).trans (first_app _ _), HasB.free (HasB.drew (HasB.new3 (by simp))) 0⟩
    · exact HasB.drew (HasB.alloc (HasB.alloc (HasB.newSet _ _ _) _) _)
    · exact But.drew (But.alloc (But.alloc (But.alloc (But.set (hB.drew.trans (But.of k)) _ _ (.inl rfl)) _) _) _)
end Go.Proofs.YtelgobelbeabaaaGreatDoor
namespace Go.Proofs.YtelgobelbeabaaaGreatDoor
open Go.RowKit

theorem IndexFunc_nil (f : Value) (w : World) : Calls Tryz.prog 74 #[.slice none 0 0, f] w fun e w' => e = .returned (.int .i64 (-1)) ∧ w = w' := by
  go_enter Tryz.func74, Tryz.ntmps74
  go_wp2_with fail
  go_rounds 1
  go_ret
  exact ⟨rfl, rfl⟩
theorem ContainsFunc_nil (f : Value) (w : World) : Calls Tryz.prog 39 #[.slice none 0 0, f] w fun e w' => e = .returned (.bool false) ∧ w = w' := by
  go_enter Tryz.func39, Tryz.ntmps39
  go_wp2_with (go_at_call 74; refine (IndexFunc_nil _ _).mono ?_; rintro e w' ⟨rfl, rfl⟩)
  go_ret
  exact ⟨rfl, rfl⟩
theorem Clone_nil (w : World) : Calls Tryz.prog 42 #[.slice none 0 0] w fun e w' => e = .returned (.slice none 0 0) ∧ w = w' := by
  have he : ∀ w : World, (binOp .eql 59 (.slice none 0 0) (.slice none 0 0)).run Tryz.prog w = .ok (.bool true) w := fun _ => by kernel_rfl
  go_enter Tryz.func42, Tryz.ntmps42
  go_wp2
  go_ret
  exact ⟨rfl, rfl⟩

theorem info_int : (Tryz.prog.info? 3).map (fun i => (i.zero, i.size, i.bytes)) = some (some (.int .i64 0), 1, 8) := by kernel_rfl

/-- A machine's own block. -/
def MachAt (w : World) (m : Nat) (f c ch d left : Int) (over : Bool) (heap : Nat) (envs codes natives body known draws : Value) (drawn calls : Int) : Prop :=
  HasB w m #[.int .i64 f, .int .i64 c, .int .i64 ch, .int .i64 d, .int .i64 left, .bool over, .pointer (some ⟨heap, 0, none⟩), envs, codes, natives, body, known, draws, .int .i64 drawn, .int .i64 calls] 72

/-- What a new machine is: its own block, its heap's, and its list of known objects, all -1. -/
def NewMach (f c ch d : Int) (w : World) (e : Ending) (w' : World) : Prop :=
  ∃ m h v, e = .returned (.tuple #[.pointer (some ⟨m, 0, none⟩), .int .i64 0]) ∧ MachAt w' m f c ch d f false h (.slice none 0 0) (.slice none 0 0) (.slice none 0 0) .nilFunc v (.slice none 0 0) 0 0 ∧ HeapAt w' h (.slice none 0 0) c 0 ∧
    w'.ownsRow (m + 1) 3 1 v 15 (List.replicate 15 (.int .i64 (-1))) ∧ w.heap.size ≤ h ∧ h < m ∧ Below w.heap.size w w'

set_option maxRecDepth 100000 in
set_option maxHeartbeats 2000000 in
theorem machine_New (f c ch d : Int) (w : World) (f0 : 0 ≤ f) (c0 : 0 ≤ c) (c1 : c ≤ 16777216) (ch0 : 0 ≤ ch) (ch1 : ch ≤ 268435456) (d0 : 0 ≤ d) (d1 : d ≤ 256) :
    Calls Tryz.prog 17 #[.agg #[.int .i64 f, .int .i64 c, .int .i64 ch, .int .i64 d], .slice none 0 0] w (NewMach f c ch d w) := by
  obtain ⟨i0, hi, hz0, hz1, hz2⟩ := info_parts info_int
  go_enter Tryz.func17, Tryz.ntmps17
  go_wp2_with fail
  refine (heap_New c _ c0 c1).mono ?_
  rintro e w' ⟨rfl, rfl⟩
  go_wp2_with (first | (go_at_call 39; refine (ContainsFunc_nil _ _).mono ?_; rintro e w' ⟨rfl, rfl⟩))
  go_region_held3 (fun w' => w'.cell? ⟨w.heap.size, 0, none⟩ = some (.int .i64 f) ∧ w'.cell? ⟨w.heap.size, 1, none⟩ = some (.int .i64 c) ∧ w'.cell? ⟨w.heap.size, 2, none⟩ = some (.int .i64 ch) ∧ w'.cell? ⟨w.heap.size, 3, none⟩ = some (.int .i64 d))
    (go_keep) (first | (go_at_call 42; refine (Clone_nil _).mono ?_; rintro e w' ⟨rfl, rfl⟩))
  go_wp2_with fail
  go_loopw [56] (fun i wr => ∃ (k : Nat) (v : Value), k ≤ 15 ∧ i = .int .i64 k ∧ MachAt wr (w.heap.size + 1 + 1) f c ch d f false (w.heap.size + 1) (.slice none 0 0) (.slice none 0 0) (.slice none 0 0) .nilFunc v (.slice none 0 0) 0 0 ∧
      HeapAt wr (w.heap.size + 1) (.slice none 0 0) c 0 ∧ wr.ownsRow (w.heap.size + 1 + 1 + 1) 3 1 v k (List.replicate k (.int .i64 (-1))) ∧ Below w.heap.size w wr)
    (fun i _ => 15 - (intOf i).toNat)
  case atStart =>
    refine ⟨0, _, Nat.zero_le _, rfl, ?_, ?_, World.ownsRow_nil _ _ _ _, by go_grown⟩
    · have h := HasB.new ((w.alloc (.cells #[.int .i64 f, .int .i64 c, .int .i64 ch, .int .i64 d] 38)).alloc (.cells #[.slice none 0 0, .int .i64 c, .int .i64 0, .bool true] 112)) #[.int .i64 f, .int .i64 c, .int .i64 ch, .int .i64 d, .int .i64 f, .bool false, .pointer (some ⟨w.heap.size + 1, 0, none⟩), .slice none 0 0, .slice none 0 0, .slice none 0 0, .nilFunc, .slice none 0 0, .slice none 0 0, .int .i64 0, .int .i64 0] 72
      simp at h
      exact h.drew
    · have h := (HasB.new (w.alloc (.cells #[.int .i64 f, .int .i64 c, .int .i64 ch, .int .i64 d] 38)) #[.slice none 0 0, .int .i64 c, .int .i64 0, .bool true] 112).alloc (.cells #[.int .i64 f, .int .i64 c, .int .i64 ch, .int .i64 d, .int .i64 f, .bool false, .pointer (some ⟨w.heap.size + 1, 0, none⟩), .slice none 0 0, .slice none 0 0, .slice none 0 0, .nilFunc, .slice none 0 0, .slice none 0 0, .int .i64 0, .int .i64 0] 72)
      simp at h
      exact h.drew
  case round =>
    obtain ⟨k, v, hk, rfl, hM, hH, hown, hb⟩ := hrel
    have hbs := hb.size
    have hml := hM.lt
    by_cases hlt : k < 15
    · have q11 : wr.cell? ⟨w.heap.size + 1 + 1, 11, none⟩ = some v := hM.cell 11
      go_wp2_with (at_builtin; go_must (refine wpList_append_own _ rfl _ _ 70 rfl (w.heap.size + 1 + 1 + 1) 3 i0 (.int .i64 0) 1 8 Tryz.underlying70 hi hz0 hz1 hz2 rfl (by decide) v k _ rfl (hown.alloc _) ⟨wr.heap.size, 0, none⟩ 1 1 [.int .i64 (-1)] rfl rfl (World.news_of_block (cs := #[.int .i64 (-1)]) (t := 3) (fr := (0, 0)) (heap_alloc_new wr _)) (by simp [Value.oneCell']) (by unfold maxLen; omega) (by omega) (by simp; omega) ?_))
      intro v1 w1 hown1 hg1 _
      obtain ⟨a1, c1, rfl⟩ := own_shape hown1
      have hM1 := hM.grown hown (by omega) hg1
      have hH1 := hH.grown hown (by omega) hg1
      have hb1 := below_grown hb (by omega) hown (by omega) hg1
      have r11 : w1.cell? ⟨w.heap.size + 1 + 1, 11, none⟩ = some v := hM1.cell 11
      have rf := hM1.free 11
      have HM1 := Lib.hid hM1
      have HH1 := Lib.hid hH1
      have HO1 := Lib.hid hown1
      have HB1 := Lib.hid hb1
      clear hM hH hown hb hg1 hM1 hH1 hown1 hb1
      go_wp2
      go_roundw
      case rel =>
        refine ⟨k + 1, .slice a1 (k + 1) c1, by omega, by go_num, ?_, HH1.out.far (by simp) _, ?_, HB1.out.setCell (by simp; omega) _⟩
        · have h := HM1.out.set 11 (.slice a1 (k + 1) c1)
          simp at h
          exact h
        · rw [List.replicate_succ']
          exact ownsRow_far HO1.out (by simp) _
      case measure => simp [intOf]; omega
    · have hke : k = 15 := by omega
      subst hke
      go_wp2
      go_returns
      exact ⟨_, _, _, rfl, hM, hH, hown, by omega, by omega, hb⟩
end Go.Proofs.YtelgobelbeabaaaGreatDoor
namespace Go.Proofs.YtelgobelbeabaaaGreatDoor
open Go.RowKit

variable {m : Nat} {f c ch d left : Int} {over : Bool} {heap : Nat} {envs codes natives body known draws : Value} {drawn calls : Int} {w : World}

theorem Machine_is (H : MachAt w m f c ch d left over heap envs codes natives body known draws drawn calls) :
    Calls Tryz.prog 75 #[.pointer (some ⟨m, 0, none⟩)] w fun e w' => e = .returned (.bool true) ∧ w = w' := by
  have q6 : w.cell? ⟨m, 6, none⟩ = some (.pointer (some ⟨heap, 0, none⟩)) := HasB.cell H 6
  clear H
  go_enter Tryz.func75, Tryz.ntmps75
  go_wp2
  go_ret
  exact ⟨rfl, rfl⟩
theorem Machine_Heap (H : MachAt w m f c ch d left over heap envs codes natives body known draws drawn calls) :
    Calls Tryz.prog 48 #[.pointer (some ⟨m, 0, none⟩)] w fun e w' => e = .returned (.pointer (some ⟨heap, 0, none⟩)) ∧ w = w' := by
  have HI := Machine_is H
  have q6 : w.cell? ⟨m, 6, none⟩ = some (.pointer (some ⟨heap, 0, none⟩)) := HasB.cell H 6
  clear H
  go_enter Tryz.func48, Tryz.ntmps48
  go_wp2_with (go_at_call 75; refine HI.mono ?_; rintro e w' ⟨rfl, rfl⟩)
  go_ret
  exact ⟨rfl, rfl⟩
theorem Machine_done (H : MachAt w m f c ch d left over heap envs codes natives body known draws drawn calls) :
    Calls Tryz.prog 43 #[.pointer (some ⟨m, 0, none⟩)] w fun e w' => e = .returned (.bool over) ∧ w = w' := by
  have HI := Machine_is H
  have q5 : w.cell? ⟨m, 5, none⟩ = some (.bool over) := HasB.cell H 5
  clear H
  go_enter Tryz.func43, Tryz.ntmps43
  go_wp2_with (go_at_call 75; refine HI.mono ?_; rintro e w' ⟨rfl, rfl⟩)
  go_ret
  exact ⟨rfl, rfl⟩
end Go.Proofs.YtelgobelbeabaaaGreatDoor
namespace Go.Proofs.YtelgobelbeabaaaGreatDoor
open Go.RowKit

/-- A value told, as Go hands it. -/
abbrev doneN (k : Int) (b : Bool) (n : Nat) (s : ByteArray) (o : Int) : Value := .agg #[.int .i64 0, .int .i64 k, .bool b, .float .f64 n, .string s, .int .i64 o, .string ⟨#[]⟩]

theorem Machine_normal (k : Int) (b : Bool) (n : Nat) (s : ByteArray) (o : Int) (w : World) : Calls Tryz.prog 47 #[val k b n s o] w fun e w' => e = .returned (doneN k b n s o) ∧ Below w.heap.size w w' := by
  go_enter Tryz.func47, Tryz.ntmps47
  go_wp2_with fail
  refine bodyPost_ret (v := doneN k b n s o) (by simp [results, Tryz.results47, go_sem]) rfl ⟨rfl, ?_⟩
  go_grown

theorem But.cell {h : Nat} {w w' : World} (x : But h w w') {a : Addr} {v : Value} (hv : w.cell? a = some v) (hne : a.block ≠ h) : w'.cell? a = some v :=
  (World.cell?_of_block (x.block a.block (World.block_lt_of_cell? w _ hv) hne)).trans hv

theorem HasB.seven {w : World} {b : Nat} {t : TypeId} {v0 v1 v2 v3 v4 v5 v6 : Value} (h : HasB w b #[v0, v1, v2, v3, v4, v5, v6] t) :
    (w.cell? ⟨b, 0, none⟩ = some v0 ∧ w.cell? ⟨b, 1, none⟩ = some v1 ∧ w.cell? ⟨b, 2, none⟩ = some v2 ∧ w.cell? ⟨b, 3, none⟩ = some v3 ∧ w.cell? ⟨b, 4, none⟩ = some v4 ∧ w.cell? ⟨b, 5, none⟩ = some v5 ∧ w.cell? ⟨b, 6, none⟩ = some v6) ∧ ∀ o, w.frozen? ⟨b, o, none⟩ = false :=
  ⟨⟨h.cell 0, h.cell 1, h.cell 2, h.cell 3, h.cell 4, h.cell 5, h.cell 6⟩, h.free⟩

set_option maxRecDepth 100000 in
theorem Machine_Alloc {m : Nat} {f c ch d left : Int} {h : Nat} {envs codes natives body known draws : Value} {drawn calls : Int} {w : World} (cl nat room used : Int)
    (M : MachAt w m f c ch d left false h envs codes natives body known draws drawn calls) (H : HeapAt w h (.slice none 0 0) room used) (hm : m ≠ h) (hc : cl = 1 ∨ cl = 2 ∨ cl = 7) (hn : 0 ≤ nat) (h1 : 1 ≤ room - used) (hu : 0 ≤ used) (hr : room ≤ 16777216) :
    Calls Tryz.prog 18 #[.pointer (some ⟨m, 0, none⟩), obj0 cl (-1) nat] w fun e w' => e = .returned (.tuple #[.int .i64 0, doneN 0 false 0 ⟨#[]⟩ 0]) ∧ OneObj w' h w.heap.size cl nat room (used + 1) ∧ But h w w' := by
  have HA := fun w H => Heap_Alloc h cl nat room used w H hc hn h1 hu hr
  have hlm := HasB.lt M
  have hlh := HasB.lt H
  go_enter Tryz.func18, Tryz.ntmps18
  go_wp2_with fail
  have HO := (HasB.new w (#[.int .i64 cl, .int .i64 (-1), .bool false, .slice none 0 0, .int .i64 0, .bool false, .float .f64 0, .string ⟨#[]⟩, .int .i64 0, .int .i64 nat, .int .i64 0, .int .i64 0, .slice none 0 0]) 46).alloc (.cells (#[.int .i64 0, .int .i64 0, .bool false, .float .f64 0, .string ⟨#[]⟩, .int .i64 0, .string ⟨#[]⟩]) 40)
  have hD0 := HasB.new (w.alloc (.cells (#[.int .i64 cl, .int .i64 (-1), .bool false, .slice none 0 0, .int .i64 0, .bool false, .float .f64 0, .string ⟨#[]⟩, .int .i64 0, .int .i64 nat, .int .i64 0, .int .i64 0, .slice none 0 0]) 46)) (#[.int .i64 0, .int .i64 0, .bool false, .float .f64 0, .string ⟨#[]⟩, .int .i64 0, .string ⟨#[]⟩]) 40
  have hH0 : HeapAt _ h (.slice none 0 0) room used := (H.alloc (.cells (#[.int .i64 cl, .int .i64 (-1), .bool false, .slice none 0 0, .int .i64 0, .bool false, .float .f64 0, .string ⟨#[]⟩, .int .i64 0, .int .i64 nat, .int .i64 0, .int .i64 0, .slice none 0 0]) 46)).alloc (.cells (#[.int .i64 0, .int .i64 0, .bool false, .float .f64 0, .string ⟨#[]⟩, .int .i64 0, .string ⟨#[]⟩]) 40)
  have hM0 : MachAt _ m f c ch d left false h envs codes natives body known draws drawn calls := (M.alloc (.cells (#[.int .i64 cl, .int .i64 (-1), .bool false, .slice none 0 0, .int .i64 0, .bool false, .float .f64 0, .string ⟨#[]⟩, .int .i64 0, .int .i64 nat, .int .i64 0, .int .i64 0, .slice none 0 0]) 46)).alloc (.cells (#[.int .i64 0, .int .i64 0, .bool false, .float .f64 0, .string ⟨#[]⟩, .int .i64 0, .string ⟨#[]⟩]) 40)
  have hB0 := ((But.refl h w).alloc (.cells (#[.int .i64 cl, .int .i64 (-1), .bool false, .slice none 0 0, .int .i64 0, .bool false, .float .f64 0, .string ⟨#[]⟩, .int .i64 0, .int .i64 nat, .int .i64 0, .int .i64 0, .slice none 0 0]) 46)).alloc (.cells (#[.int .i64 0, .int .i64 0, .bool false, .float .f64 0, .string ⟨#[]⟩, .int .i64 0, .string ⟨#[]⟩]) 40)
  have hlo := HO.lt
  have hld := hD0.lt
  revert HO hD0 hH0 hM0 hB0 hlo hld
  rw [show (w.alloc (.cells (#[.int .i64 cl, .int .i64 (-1), .bool false, .slice none 0 0, .int .i64 0, .bool false, .float .f64 0, .string ⟨#[]⟩, .int .i64 0, .int .i64 nat, .int .i64 0, .int .i64 0, .slice none 0 0]) 46)).heap.size = w.heap.size + 1 by simp]
  generalize (w.alloc (.cells (#[.int .i64 cl, .int .i64 (-1), .bool false, .slice none 0 0, .int .i64 0, .bool false, .float .f64 0, .string ⟨#[]⟩, .int .i64 0, .int .i64 nat, .int .i64 0, .int .i64 0, .slice none 0 0]) 46)).alloc (.cells (#[.int .i64 0, .int .i64 0, .bool false, .float .f64 0, .string ⟨#[]⟩, .int .i64 0, .string ⟨#[]⟩]) 40) = w0
  intro HO hD0 hH0 hM0 hB0 hlo hld
  obtain ⟨⟨p0, p1, p2, p3, p4, p5, p6⟩, p7, p8, p9, p10, p11, p12, pf⟩ := HO.obj
  have q6 : w0.cell? ⟨m, 6, none⟩ = some (.pointer (some ⟨h, 0, none⟩)) := HasB.cell hM0 6
  refine (Machine_done hM0).mono ?_
  rintro e w' ⟨rfl, rfl⟩
  go_wp2_with fail
  go_region_held3 (fun w' => w'.cell? ⟨w.heap.size, 0, none⟩ = some (.int .i64 cl) ∧ w'.cell? ⟨w.heap.size, 1, none⟩ = some (.int .i64 (-1)) ∧ w'.cell? ⟨w.heap.size, 2, none⟩ = some (.bool false) ∧ w'.cell? ⟨w.heap.size, 3, none⟩ = some (.slice none 0 0) ∧ w'.cell? ⟨w.heap.size, 4, none⟩ = some (.int .i64 0) ∧ w'.cell? ⟨w.heap.size, 5, none⟩ = some (.bool false) ∧ w'.cell? ⟨w.heap.size, 6, none⟩ = some (.float .f64 0) ∧ w'.cell? ⟨w.heap.size, 7, none⟩ = some (.string ⟨#[]⟩) ∧ w'.cell? ⟨w.heap.size, 8, none⟩ = some (.int .i64 0) ∧ w'.cell? ⟨w.heap.size, 9, none⟩ = some (.int .i64 nat) ∧ w'.cell? ⟨w.heap.size, 10, none⟩ = some (.int .i64 0) ∧ w'.cell? ⟨w.heap.size, 11, none⟩ = some (.int .i64 0) ∧ w'.cell? ⟨w.heap.size, 12, none⟩ = some (.slice none 0 0) ∧ w'.cell? ⟨m, 6, none⟩ = some (.pointer (some ⟨h, 0, none⟩)) ∧ But h w w')
    (first
      | (refine ⟨?_, ?_, ?_, ?_, ?_, ?_, ?_, ?_, ?_, ?_, ?_, ?_, ?_, ?_, ?_⟩ <;> first | exact hB0.drew | assumption)
      | (go_split_ands; refine ⟨?_, ?_, ?_, ?_, ?_, ?_, ?_, ?_, ?_, ?_, ?_, ?_, ?_, ?_, ?_⟩ <;> first | exact But.cell hBk (by assumption) (by simp; omega) | exact But.trans (by assumption) hBk))
    (first | (go_at_call 45; refine (HA _ hH0.drew).mono ?_; rintro e w1 ⟨rfl, hO1, hBk⟩))
  rename_i hS
  obtain ⟨-, -, -, -, -, -, -, -, -, -, -, -, -, -, hB1⟩ := hS
  have hD1 : HasB w1 (w.heap.size + 1) (#[.int .i64 0, .int .i64 0, .bool false, .float .f64 0, .string ⟨#[]⟩, .int .i64 0, .string ⟨#[]⟩]) 40 := hBk.hasB hD0.drew (by omega)
  have hl1 := hD1.lt
  obtain ⟨⟨s0, s1, s2, s3, s4, s5, s6⟩, sf⟩ := hD1.seven
  clear p0 p1 p2 p3 p4 p5 p6 p7 p8 p9 p10 p11 p12 pf q6 hBk HA
  go_wp2_with fail
  refine (Machine_normal 0 false 0 ⟨#[]⟩ 0 _).mono ?_
  rintro e w2 ⟨rfl, k⟩
  have hD2 := hD1.below k
  have hl2 := hD2.lt
  have hO2 := hO1.below k
  have hB2 := hB1.trans (But.of k)
  clear s0 s1 s2 s3 s4 s5 s6 sf hD1 hO1 hB1 k
  obtain ⟨⟨s0, s1, s2, s3, s4, s5, s6⟩, sf⟩ := hD2.seven
  go_wp2_with fail
  have hx1 : w.heap.size + 1 < w0.drew.heap.size := hld
  have hx2 : w.heap.size + 1 ≠ h := by omega
  have hx3 : w.heap.size ≤ w.heap.size + 1 := by omega
  refine bodyPost_ret (v := .tuple #[.int .i64 0, doneN 0 false 0 ⟨#[]⟩ 0]) (by simp [results, Tryz.results18, go_sem, s0, s1, s2, s3, s4, s5, s6]) rfl ⟨rfl, OneObj.mono (OneObj.set (OneObj.set (OneObj.set (OneObj.set (OneObj.set (OneObj.set (OneObj.set hO2 _ _ hx1 hx2) _ _ hx1 hx2) _ _ hx1 hx2) _ _ hx1 hx2) _ _ hx1 hx2) _ _ hx1 hx2) _ _ hx1 hx2) (by omega), (But.set (But.set (But.set (But.set (But.set (But.set (But.set hB2 _ _ (.inr hx3)) _ _ (.inr hx3)) _ _ (.inr hx3)) _ _ (.inr hx3)) _ _ (.inr hx3)) _ _ (.inr hx3)) _ _ (.inr hx3))⟩

/-- The heap's one object is there. -/
theorem Heap_there (h : Nat) (a : Option Addr) (n c : Nat) (room used o : Int) (w : World) (H : HeapAt w h (.slice a n c) room used) (h0 : 0 ≤ o) (h1 : o < n) :
    Calls Tryz.prog 120 #[.pointer (some ⟨h, 0, none⟩), .int .i64 o] w fun e w' => e = .returned (.bool true) ∧ w = w' := by
  have HI := Heap_is h _ room used w H
  obtain ⟨q0, q1, q2, q3, qf⟩ := HasB.four H
  clear H
  go_enter Tryz.func120, Tryz.ntmps120
  go_wp2_with (go_at_call 76; refine HI.mono ?_; rintro e w' ⟨rfl, rfl⟩)
  go_ret
  exact ⟨rfl, rfl⟩
end Go.Proofs.YtelgobelbeabaaaGreatDoor
namespace Go.Proofs.YtelgobelbeabaaaGreatDoor
open Go.RowKit

theorem HasB.object {w : World} {b : Nat} {t : TypeId} {v0 v1 v2 v3 v4 v5 v6 v7 v8 v9 v10 v11 v12 v13 : Value} (h : HasB w b #[v0, v1, v2, v3, v4, v5, v6, v7, v8, v9, v10, v11, v12, v13] t) :
    (w.cell? ⟨b, 0, none⟩ = some v0 ∧ w.cell? ⟨b, 1, none⟩ = some v1 ∧ w.cell? ⟨b, 2, none⟩ = some v2 ∧ w.cell? ⟨b, 3, none⟩ = some v3 ∧ w.cell? ⟨b, 4, none⟩ = some v4 ∧ w.cell? ⟨b, 5, none⟩ = some v5 ∧ w.cell? ⟨b, 6, none⟩ = some v6) ∧
    w.cell? ⟨b, 7, none⟩ = some v7 ∧ w.cell? ⟨b, 8, none⟩ = some v8 ∧ w.cell? ⟨b, 9, none⟩ = some v9 ∧ w.cell? ⟨b, 10, none⟩ = some v10 ∧ w.cell? ⟨b, 11, none⟩ = some v11 ∧ w.cell? ⟨b, 12, none⟩ = some v12 ∧ ∀ o, w.frozen? ⟨b, o, none⟩ = false :=
  ⟨⟨h.cell 0, h.cell 1, h.cell 2, h.cell 3, h.cell 4, h.cell 5, h.cell 6⟩, h.cell 7, h.cell 8, h.cell 9, h.cell 10, h.cell 11, h.cell 12, h.free⟩

set_option maxRecDepth 100000 in
set_option maxHeartbeats 600000 in
theorem Heap_Object {w : World} {h B : Nat} {cl nat room used : Int} (H : OneObj w h B cl nat room used) :
    Calls Tryz.prog 89 #[.pointer (some ⟨h, 0, none⟩), .int .i64 0] w fun e w' => (∃ b1 b2, e = .returned (.tuple #[obj1 cl (-1) nat b1 b2, .int .i64 0])) ∧ Below w.heap.size w w' := by
  obtain ⟨g, c, x, c1, c2, mp, hg, hx, h1, ⟨h2, h3⟩, h4⟩ := H
  have hlh := HasB.lt h1
  have hlx := HasB.lt h4
  have hlg : g < w.heap.size := World.block_lt_of_cell? w _ h2
  have HI := fun w h1 => Heap_is h (.slice (some ⟨g, 0, none⟩) 1 c) room used w h1
  have HT := fun w h1 => Heap_there h (some ⟨g, 0, none⟩) 1 c room used 0 w h1 (by decide) (by decide)
  have HO := fun w => heap_own1 cl (-1) nat c1 c2 w
  obtain ⟨q0, q1, q2, q3, qf⟩ := HasB.four h1
  obtain ⟨⟨p0, p1, p2, p3, p4, p5, p6⟩, p7, p8, p9, p10, p11, p12, pf⟩ := h4.object
  go_enter Tryz.func89, Tryz.ntmps89
  go_wp2_with fail
  refine (HI _ (h1.alloc _)).mono ?_
  rintro e w' ⟨rfl, rfl⟩
  go_wp2_with (go_at_call 120; refine (HT _ (h1.alloc _)).mono ?_; rintro e w' ⟨rfl, rfl⟩)
  refine (HO _).mono ?_
  rintro e w1 ⟨b1, b2, rfl, k⟩
  have hR := (HasB.new w (#[.int .i64 0, .int .i64 0, .bool false, .slice none 0 0, .int .i64 0, .bool false, .float .f64 0, .string ⟨#[]⟩, .int .i64 0, .int .i64 0, .int .i64 0, .int .i64 0, .slice none 0 0]) 46).below k
  have hB1 : Below w.heap.size w w1 := below_via k ((Below.refl _ w).alloc (Nat.le_refl _) _) (by simp)
  clear k q0 q1 q2 q3 qf p0 p1 p2 p3 p4 p5 p6 p7 p8 p9 p10 p11 p12 pf
  obtain ⟨⟨p0, p1, p2, p3, p4, p5, p6⟩, p7, p8, p9, p10, p11, p12, pf⟩ := hR.obj
  have hlr := hR.lt
  have HBx := Lib.hid hB1
  clear hB1 h1 h2 h3 h4 HI HT HO
  go_wp2_with fail
  refine bodyPost_ret (v := .tuple #[obj1 cl (-1) nat b1 b2, .int .i64 0]) (by simp [results, Tryz.results89, go_sem, p0, p1, p2, p3, p4, p5, p6, p7, p8, p9, p10, p11, p12]) rfl ⟨⟨_, _, rfl⟩, ?_⟩
  exact (((((((((((((HBx.out.setCell (Nat.le_refl _) _).setCell (Nat.le_refl _) _).setCell (Nat.le_refl _) _).setCell (Nat.le_refl _) _).setCell (Nat.le_refl _) _).setCell (Nat.le_refl _) _).setCell (Nat.le_refl _) _).setCell (Nat.le_refl _) _).setCell (Nat.le_refl _) _).setCell (Nat.le_refl _) _).setCell (Nat.le_refl _) _).setCell (Nat.le_refl _) _).setCell (Nat.le_refl _) _)
end Go.Proofs.YtelgobelbeabaaaGreatDoor
namespace Go.Proofs.YtelgobelbeabaaaGreatDoor
open Go.RowKit

/-- A teller's own block. -/
def TellAt (w : World) (T m : Nat) (ba buf : Value) (nm : Nat) (c0 : Int) (wl : Value) (at_ : Int) : Prop :=
  HasB w T #[.pointer (some ⟨m, 0, none⟩), ba, buf, .map (some nm), .int .i64 c0, .int .i64 0, wl, .int .i64 at_] 88

/-- Everything but some blocks is as it was. -/
structure Rest (S : Nat → Prop) (w w' : World) : Prop where
  os : w'.os = w.os
  tape : w'.tape = w.tape
  output : w'.output = w.output
  size : w.heap.size ≤ w'.heap.size
  block : ∀ k, k < w.heap.size → ¬ S k → w'.heap[k]? = w.heap[k]?
theorem Rest.refl (S : Nat → Prop) (w : World) : Rest S w w := ⟨rfl, rfl, rfl, Nat.le_refl _, fun _ _ _ => rfl⟩
theorem Rest.trans {S : Nat → Prop} {a b c : World} (x : Rest S a b) (y : Rest S b c) : Rest S a c :=
  ⟨y.os.trans x.os, y.tape.trans x.tape, y.output.trans x.output, Nat.le_trans x.size y.size, fun k hk hne => (y.block k (Nat.lt_of_lt_of_le hk x.size) hne).trans (x.block k hk hne)⟩
theorem Rest.of {S : Nat → Prop} {w w' : World} (x : Below w.heap.size w w') : Rest S w w' := ⟨x.os, x.tape, x.output, x.size, fun k hk _ => x.block k hk⟩
theorem Rest.ofBut {S : Nat → Prop} {T : Nat} {w w' : World} (x : But T w w') (hS : S T) : Rest S w w' := ⟨x.os, x.tape, x.output, x.size, fun k hk hn => x.block k hk (fun h => hn (h ▸ hS))⟩
theorem Rest.hasB {S : Nat → Prop} {w w' : World} {b : Nat} {cs : Array Value} {t : TypeId} (x : Rest S w w') (H : HasB w b cs t) (hne : ¬ S b) : HasB w' b cs t := (x.block b H.lt hne).trans H
theorem Rest.drew {S : Nat → Prop} {w w' : World} (x : Rest S w w') : Rest S w w'.drew := ⟨x.os, x.tape, x.output, x.size, x.block⟩
theorem Rest.cell {S : Nat → Prop} {w w' : World} (x : Rest S w w') {a : Addr} {v : Value} (hv : w.cell? a = some v) (hne : ¬ S a.block) : w'.cell? a = some v :=
  (World.cell?_of_block (x.block a.block (World.block_lt_of_cell? w _ hv) hne)).trans hv

/-- Below B everything but one block is as it was. -/
structure ButB (h B : Nat) (w w' : World) : Prop where
  os : w'.os = w.os
  tape : w'.tape = w.tape
  output : w'.output = w.output
  size : w.heap.size ≤ w'.heap.size
  block : ∀ k, k < B → k ≠ h → w'.heap[k]? = w.heap[k]?
theorem ButB.refl (h B : Nat) (w : World) : ButB h B w w := ⟨rfl, rfl, rfl, Nat.le_refl _, fun _ _ _ => rfl⟩
theorem ButB.trans {h B : Nat} {a b c : World} (x : ButB h B a b) (y : ButB h B b c) : ButB h B a c :=
  ⟨y.os.trans x.os, y.tape.trans x.tape, y.output.trans x.output, Nat.le_trans x.size y.size, fun k hk hne => (y.block k hk hne).trans (x.block k hk hne)⟩
theorem ButB.of {h B : Nat} {w w' : World} (x : Below B w w') : ButB h B w w' := ⟨x.os, x.tape, x.output, x.size, fun k hk _ => x.block k hk⟩
theorem ButB.hasB {h B : Nat} {w w' : World} {b : Nat} {cs : Array Value} {t : TypeId} (x : ButB h B w w') (H : HasB w b cs t) (hb : b < B) (hne : b ≠ h) : HasB w' b cs t := (x.block b hb hne).trans H
theorem ButB.set {h B : Nat} {a w : World} (x : ButB h B a w) (ad : Addr) (v : Value) (hb : ad.block = h) : ButB h B a (w.setCell ad v) :=
  ⟨x.os, x.tape, x.output, by have := x.size; simp [World.setCell]; exact this, fun k hk hne => (Below.heap_setCell w ad v k (by omega)).trans (x.block k hk hne)⟩
theorem ButB.below {h B B' : Nat} {a w w' : World} (x : ButB h B w w') (b : Below B' a w) (hB : B' ≤ h) (hB2 : B' ≤ B) : Below B' a w' :=
  ⟨x.os.trans b.os, x.tape.trans b.tape, x.output.trans b.output, Nat.le_trans b.size x.size, fun k hk => (x.block k (by omega) (by omega)).trans (b.block k hk)⟩

theorem HasB.grown0 {w w' : World} {b : Nat} {cs : Array Value} {t : TypeId} {v : Value} {base e size n : Nat} {xs : List Value} (h : HasB w b cs t) (hown : w.ownsRow base e size v n xs) (hb : b < base) (hg : w.grownBy w' v.ownBlock) : HasB w' b cs t :=
  (hg.block b h.lt (fun hh => by have := (hown.lt b hh.symm).1; omega)).trans h
theorem ButB.grown0 {T B : Nat} {w w' : World} {v : Value} {e size n : Nat} {xs : List Value} (hown : w.ownsRow B e size v n xs) (hB : B ≤ w.heap.size) (hg : w.grownBy w' v.ownBlock) : ButB T B w w' :=
  ⟨hg.os, hg.tape, hg.output, hg.size, fun k hk _ => hg.block k (by omega) (fun hh => by have := (hown.lt k hh.symm).1; omega)⟩

/-- A block that is known whole, and is no bytes', is none that a row of bytes lies in. -/
theorem HasB.ne_own {w : World} {b : Nat} {cs : Array Value} {t : TypeId} {base e size n : Nat} {v : Value} {xs : List Value} (h : HasB w b cs t) (hown : w.ownsRow base e size v n xs) (hne : t ≠ e) : v.ownBlock ≠ some b := by
  intro hv
  rcases hown.2 with ⟨rfl, -⟩ | ⟨g, cap, cur, rfl, -, hg, -⟩
  · cases hv
  · have hgb : g = b := by simpa [Value.ownBlock] using hv
    subst hgb
    have h2 := h.symm.trans hg
    injection h2 with h3
    injection h3 with h4 h5 h6
    exact hne h5
theorem Rest.grown0 {S : Nat → Prop} {w w' : World} {v : Value} (hg : w.grownBy w' v.ownBlock) (hS : ∀ k, v.ownBlock = some k → S k) : Rest S w w' :=
  ⟨hg.os, hg.tape, hg.output, hg.size, fun k hk hn => hg.block k hk (fun hh => hn (hS k hh.symm))⟩

theorem HasB.eight {w : World} {b : Nat} {t : TypeId} {v0 v1 v2 v3 v4 v5 v6 v7 : Value} (h : HasB w b #[v0, v1, v2, v3, v4, v5, v6, v7] t) :
    (w.cell? ⟨b, 0, none⟩ = some v0 ∧ w.cell? ⟨b, 1, none⟩ = some v1 ∧ w.cell? ⟨b, 2, none⟩ = some v2 ∧ w.cell? ⟨b, 3, none⟩ = some v3 ∧ w.cell? ⟨b, 4, none⟩ = some v4 ∧ w.cell? ⟨b, 5, none⟩ = some v5 ∧ w.cell? ⟨b, 6, none⟩ = some v6 ∧ w.cell? ⟨b, 7, none⟩ = some v7) ∧ ∀ o, w.frozen? ⟨b, o, none⟩ = false :=
  ⟨⟨h.cell 0, h.cell 1, h.cell 2, h.cell 3, h.cell 4, h.cell 5, h.cell 6, h.cell 7⟩, h.free⟩

theorem info_u8 : (Tryz.prog.info? 5).map (fun i => (i.zero, i.size, i.bytes)) = some (some (.int .u8 0), 1, 1) := by kernel_rfl

theorem builder_size : (Tryz.prog.info? 82).map (·.size) = some 2 := by kernel_rfl
theorem builder_lies : liesAt Tryz.prog Tryz.prog.depth 88 (8 / Tryz.prog.cellsOf 88) 1 82 1 = true := by kernel_rfl
theorem TellAt.shape {w : World} {T m : Nat} {ba buf : Value} {nm : Nat} {c0 : Int} {wl : Value} {at_ : Int} (H : TellAt w T m ba buf nm c0 wl at_) : w.shape? T = some (88, 8) := by
  unfold TellAt HasB at H
  simp [World.shape?, H]

set_option maxRecDepth 200000 in
theorem Builder_copyCheck_used (T m : Nat) (buf : Value) (nm : Nat) (c0 : Int) (wl : Value) (at_ : Int) (w : World) (H : TellAt w T m (.pointer (some ⟨T, 1, none⟩)) buf nm c0 wl at_) :
    Calls Tryz.prog 116 #[.pointer (some ⟨T, 1, none⟩)] w fun e w' => e = .returned (.tuple #[]) ∧ w = w' := by
  obtain ⟨j, hj, _⟩ := Option.map_eq_some_iff.1 builder_size
  obtain ⟨⟨q0, q1, q2, q3, q4, q5, q6, q7⟩, qf⟩ := HasB.eight H
  go_enter Tryz.func116, Tryz.ntmps116
  go_wp2
  rw [Lib.run_neq_ptr_same w _ Tryz.underlying80 hj]
  go_wp2
  go_end0
  exact ⟨rfl, rfl⟩
set_option maxRecDepth 200000 in
theorem Builder_copyCheck_fresh (T m : Nat) (buf : Value) (nm : Nat) (c0 : Int) (wl : Value) (at_ : Int) (w : World) (H : TellAt w T m (.pointer none) buf nm c0 wl at_) :
    Calls Tryz.prog 116 #[.pointer (some ⟨T, 1, none⟩)] w fun e w' => e = .returned (.tuple #[]) ∧ w.setCell ⟨T, 1, none⟩ (.pointer (some ⟨T, 1, none⟩)) = w' := by
  obtain ⟨j, hj, hjs⟩ := Option.map_eq_some_iff.1 builder_size
  have hsh := H.shape
  obtain ⟨⟨q0, q1, q2, q3, q4, q5, q6, q7⟩, qf⟩ := HasB.eight H
  go_enter Tryz.func116, Tryz.ntmps116
  go_wp2
  rw [Lib.run_to_unsafe w ⟨T, 1, none⟩ Tryz.underlying80 Tryz.underlying200 hj (by rw [hjs]; decide) hsh (by show 1 < 8; omega)]
  simp only [Result.andThen]
  rw [Oper.upon_value]
  go_wp2
  rw [run_callFunc_extern Tryz.func153 (by kernel_rfl) (by kernel_rfl) (by kernel_rfl) (e := Extern.AbiNoEscape.same) (by kernel_rfl)]
  rw [Lib.run_noEscape]
  simp only [Result.andThen]
  rw [Oper.upon_value]
  go_wp2
  rw [Lib.run_from_unsafe w ⟨T, 1, none⟩ Tryz.underlying200 Tryz.underlying80 hj hsh builder_lies]
  simp only [Result.andThen]
  rw [Oper.upon_value]
  go_wp2
  go_end0
  exact ⟨rfl, rfl⟩

/-- What a teller's builder is, when so much is written. -/
def Wrote (w : World) (T : Nat) (ba buf : Value) (B : Nat) (l : List UInt8) : Prop :=
  (ba = .pointer none ∨ ba = .pointer (some ⟨T, 1, none⟩)) ∧ w.ownsRow B 5 1 buf l.length (bv l)

set_option maxRecDepth 200000 in
theorem Builder_WriteString (T m : Nat) (ba buf : Value) (nm : Nat) (c0 : Int) (wl : Value) (at_ : Int) (B : Nat) (l : List UInt8) (s : ByteArray) (w : World)
    (H : TellAt w T m ba buf nm c0 wl at_) (hW : Wrote w T ba buf B l) (hT : T < B) (hB : B ≤ w.heap.size) (hl : l.length + s.size ≤ 100000) (_hs : 0 < s.size) :
    Calls Tryz.prog 80 #[.pointer (some ⟨T, 1, none⟩), .string s] w fun e w' => (∃ r, e = .returned r) ∧ ∃ buf', TellAt w' T m (.pointer (some ⟨T, 1, none⟩)) buf' nm c0 wl at_ ∧ Wrote w' T (.pointer (some ⟨T, 1, none⟩)) buf' B (l ++ s.data.toList) ∧ ButB T B w w' ∧ Rest (fun k => k = T ∨ buf.ownBlock = some k) w w' := by
  obtain ⟨i0, hi, hz0, hz1, hz2⟩ := info_parts info_u8
  obtain ⟨hba, hown⟩ := hW
  have hB0 := ButB.refl T B w
  have hlt := HasB.lt H
  have HL := Lib.hid hl
  clear hl
  obtain ⟨w1, H1, hown1, hb1, hr1, hc⟩ : ∃ w1, TellAt w1 T m (.pointer (some ⟨T, 1, none⟩)) buf nm c0 wl at_ ∧ w1.ownsRow B 5 1 buf l.length (bv l) ∧ ButB T B w w1 ∧ Rest (fun k => k = T ∨ buf.ownBlock = some k) w w1 ∧
      Calls Tryz.prog 116 #[.pointer (some ⟨T, 1, none⟩)] w fun e w' => e = .returned (.tuple #[]) ∧ w1 = w' := by
    rcases hba with rfl | rfl
    · refine ⟨w.setCell ⟨T, 1, none⟩ (.pointer (some ⟨T, 1, none⟩)), ?_, ownsRow_far hown (by simpa using hT) _, hB0.set _ _ rfl, Rest.ofBut ((But.refl T w).set _ _ (.inl rfl)) (.inl rfl), Builder_copyCheck_fresh T m buf nm c0 wl at_ w H⟩
      have h := HasB.set H 1 (.pointer (some ⟨T, 1, none⟩))
      simp at h
      exact h
    · exact ⟨w, H, hown, hB0, Rest.refl _ w, Builder_copyCheck_used T m buf nm c0 wl at_ w H⟩
  have hBs := Nat.le_trans hB hb1.size
  obtain ⟨⟨q0, q1, q2, q3, q4, q5, q6, q7⟩, qf⟩ := HasB.eight H1
  have HH1 := Lib.hid H1
  have HO1 := Lib.hid hown1
  have HB1 := Lib.hid hb1
  clear H1 hown1 hb1 H hown hB0
  go_enter Tryz.func80, Tryz.ntmps80
  go_wp2_with (first
    | (go_at_call 116; refine hc.mono ?_; rintro e w' ⟨rfl, rfl⟩)
    | (at_builtin; go_must (refine Lib.wpList_append_own_string _ rfl _ _ 51 9 rfl B 5 i0 Tryz.underlying51 Tryz.underlying9 hi hz0 hz1 hz2 buf l.length (bv l) rfl HO1.out s rfl (by have := HL.out; unfold maxLen; omega) (by have := HL.out; omega) hBs ?_)))
  intro v1 w2 hown2 hg2 _
  have H2 : TellAt w2 T m (.pointer (some ⟨T, 1, none⟩)) buf nm c0 wl at_ := HasB.grown0 HH1.out HO1.out hT hg2
  have hb2 : ButB T B w w2 := HB1.out.trans (ButB.grown0 HO1.out hBs hg2)
  have r2 : w2.cell? ⟨T, 2, none⟩ = some buf := HasB.cell H2 2
  have rf := HasB.free H2 2
  have hr2 : Rest (fun k => k = T ∨ buf.ownBlock = some k) w w2 := hr1.trans (Rest.grown0 hg2 (fun k h => .inr h))
  have HR2 := Lib.hid hr2
  clear hr2 hr1
  obtain ⟨a1, c1, rfl⟩ := own_shape hown2
  have HH2 := Lib.hid H2
  have HO2 := Lib.hid hown2
  have HB2 := Lib.hid hb2
  clear H2 hown2 hb2 hg2
  go_wp2
  go_returns
  refine ⟨⟨_, rfl⟩, .slice a1 (l.length + s.size) c1, ?_, ⟨.inr rfl, ?_⟩, HB2.out.set _ _ rfl, HR2.out.trans (Rest.ofBut ((But.refl T w2).set _ _ (.inl rfl)) (.inl rfl))⟩
  · have h := HasB.set HH2.out 2 (.slice a1 (l.length + s.size) c1)
    simp at h
    exact h
  · have hlen : (l ++ s.data.toList).length = l.length + s.size := by rw [List.length_append, bytes_length]
    rw [hlen, bv_append]
    exact ownsRow_far HO2.out (by simpa using hT) _
end Go.Proofs.YtelgobelbeabaaaGreatDoor
namespace Go.Proofs.YtelgobelbeabaaaGreatDoor
open Go.RowKit

/-- The words that lie from an address on. -/
def WordsAt (w : World) (bk o : Nat) (xs : List ByteArray) : Prop := bk < w.heap.size ∧ ∀ (j : Nat) x, xs[j]? = some x → w.cell? ⟨bk, o + j, none⟩ = some (.string x)
/-- Words as one text. -/
def joined (xs : List ByteArray) : List UInt8 := Lib.join (xs.map (·.data.toList)) [32]

theorem ownsRow_keep {w w' : World} {base e size n : Nat} {v : Value} {xs : List Value} (h : w.ownsRow base e size v n xs) (k : Below w.heap.size w w') : w'.ownsRow base e size v n xs := by
  obtain ⟨h1, h2⟩ := h
  refine ⟨h1, ?_⟩
  rcases h2 with h2 | ⟨g, cap, cur, e1, e2, e3, e4⟩
  · exact .inl h2
  · exact .inr ⟨g, cap, cur, e1, e2, (k.block g ((Array.getElem?_eq_some_iff.1 e3).1)).trans e3, e4⟩

set_option maxRecDepth 200000 in
theorem teller_put (T m : Nat) (ba buf : Value) (nm : Nat) (c0 : Int) (wl : Value) (at_ : Int) (B : Nat) (l : List UInt8) (bk o c : Nat) (xs : List ByteArray) (w : World)
    (H : TellAt w T m ba buf nm c0 wl at_) (hW : Wrote w T ba buf B l) (hT : T < B) (hB : B ≤ w.heap.size) (hX : WordsAt w bk o xs) (hc : xs.length ≤ c) (hn : xs.length ≤ 100) (h0 : 0 < (joined xs).length) (hl : l.length + (joined xs).length ≤ 100000) :
    Calls Tryz.prog 50 #[.pointer (some ⟨T, 0, none⟩), .slice (some ⟨bk, o, none⟩) xs.length c] w fun e w' => e = .returned (.tuple #[]) ∧ ∃ buf', TellAt w' T m (.pointer (some ⟨T, 1, none⟩)) buf' nm c0 wl at_ ∧ Wrote w' T (.pointer (some ⟨T, 1, none⟩)) buf' B (l ++ joined xs) ∧ ButB T B w w' ∧ Rest (fun k => k = T ∨ buf.ownBlock = some k) w w' := by
  have hjl : (joined xs).length ≤ 140737488355328 := by omega
  have HJ : ∀ w, WordsAt w bk o xs → Calls Tryz.prog 81 #[.slice (some ⟨bk, o, none⟩) xs.length c, .string ⟨#[32]⟩] w fun e w' => e = .returned (.string ⟨(joined xs).toArray⟩) ∧ Below w.heap.size w w' :=
    fun w hX => strings_Join bk o c xs ⟨#[32]⟩ w hX.2 hX.1 (by omega) hc hjl
  go_enter Tryz.func50, Tryz.ntmps50
  go_wp2_with fail
  have hX' : WordsAt w.drew bk o xs := hX
  have hs1 : l.length + ByteArray.size ⟨(joined xs).toArray⟩ ≤ 100000 := by
    show l.length + (joined xs).toArray.size ≤ 100000
    simpa using hl
  have hs2 : 0 < ByteArray.size ⟨(joined xs).toArray⟩ := by
    show 0 < (joined xs).toArray.size
    simpa using h0
  have HL := Lib.hid hs1
  have H0 := Lib.hid hs2
  clear hl h0 hjl hs1 hs2
  go_region_law (first
    | (go_simp; go_at_call 81; refine (HJ _ hX').mono ?_; rintro e w1 ⟨rfl, k⟩)
    | (go_simp; go_at_call 80; refine (Builder_WriteString T m ba buf nm c0 wl at_ B l ⟨(joined xs).toArray⟩ w1 (HasB.below (HasB.drew H) k) ⟨hW.1, ownsRow_keep (w := w.drew) hW.2 k⟩ hT (Nat.le_trans hB k.size) HL.out H0.out).mono ?_; rintro e w2 ⟨⟨r, rfl⟩, buf', H2, hW2, hB2, hR2⟩))
  have hb1 : ButB T B w w1 := ⟨k.os, k.tape, k.output, k.size, fun i hi _ => k.block i (Nat.lt_of_lt_of_le hi hB)⟩
  go_end0
  exact ⟨rfl, buf', H2, hW2, hb1.trans hB2, Rest.trans (Rest.drew (Rest.refl _ w)) (Rest.trans (Rest.of k) hR2)⟩
end Go.Proofs.YtelgobelbeabaaaGreatDoor
