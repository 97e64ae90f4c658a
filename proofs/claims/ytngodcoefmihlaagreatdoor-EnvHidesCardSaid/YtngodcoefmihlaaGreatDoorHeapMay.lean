/-
  Contracts of the questions that the heap asks of a plain object (no properties, nothing bound, no value of its own) before it keeps it. Conditions: the object is such a one.
-/
import Derived.Test.YtngodcoefmihlaaGreatDoorHeapNew
import Derived.Deep.RegionHeld3
import Derived.Deep.DeepMust
import Derived.Deep.QuietTactic
import Derived.BigQuiet
namespace Go.Proofs.YtngodcoefmihlaaGreatDoor
open Go.RowKit

/-- A plain object, as Go hands it. -/
abbrev obj0 (cl p nat : Int) : Value := .agg #[.int .i64 cl, .int .i64 p, .bool false, .slice none 0 0, .int .i64 0, .bool false, .float .f64 0, .string ⟨#[]⟩, .int .i64 0, .int .i64 nat, .int .i64 0, .int .i64 0, .slice none 0 0]

attribute [local go_sem] run_Float64bits
theorem value_Check_zero (w : World) : Calls Tryz.prog 159 #[.agg #[.int .i64 0, .bool false, .float .f64 0, .string ⟨#[]⟩, .int .i64 0]] w fun e w' => e = .returned (.int .i64 0) ∧ Below w.heap.size w w' := by
  go_enter Tryz.func159, Tryz.ntmps159
  go_wp2
  go_ret
  exact ⟨rfl, by go_grown⟩

theorem heap_inside (cl p nat : Int) (hc : cl = 1 ∨ cl = 2 ∨ cl = 7) (w : World) : Calls Tryz.prog 156 #[obj0 cl p nat] w fun e w' => e = .returned (.bool true) ∧ Below w.heap.size w w' := by
  rcases hc with rfl | rfl | rfl
  all_goals
    go_enter Tryz.func156, Tryz.ntmps156
    go_wp2_with fail
    refine (value_Check_zero _).mono ?_
    rintro e w' ⟨rfl, k'⟩
    go_wp2
    go_ret
    exact ⟨rfl, below_via k' (by go_grown) (by simp)⟩

theorem IndexFunc_vals_nil (f : Value) (w : World) : Calls Tryz.prog 203 #[.slice none 0 0, f] w fun e w' => e = .returned (.int .i64 (-1)) ∧ w = w' := by
  go_enter Tryz.func203, Tryz.ntmps203
  go_wp2_with fail
  go_rounds 1
  go_ret
  exact ⟨rfl, rfl⟩
theorem ContainsFunc_vals_nil (f : Value) (w : World) : Calls Tryz.prog 157 #[.slice none 0 0, f] w fun e w' => e = .returned (.bool false) ∧ w = w' := by
  go_enter Tryz.func157, Tryz.ntmps157
  go_wp2_with (go_at_call 203; refine (IndexFunc_vals_nil _ _).mono ?_; rintro e w' ⟨rfl, rfl⟩)
  go_ret
  exact ⟨rfl, rfl⟩
theorem IndexFunc_keyed_nil (f : Value) (w : World) : Calls Tryz.prog 207 #[.slice none 0 0, f] w fun e w' => e = .returned (.int .i64 (-1)) ∧ w = w' := by
  go_enter Tryz.func207, Tryz.ntmps207
  go_wp2_with fail
  go_rounds 1
  go_ret
  exact ⟨rfl, rfl⟩
theorem ContainsFunc_keyed_nil (f : Value) (w : World) : Calls Tryz.prog 162 #[.slice none 0 0, f] w fun e w' => e = .returned (.bool false) ∧ w = w' := by
  go_enter Tryz.func162, Tryz.ntmps162
  go_wp2_with (go_at_call 207; refine (IndexFunc_keyed_nil _ _).mono ?_; rintro e w' ⟨rfl, rfl⟩)
  go_ret
  exact ⟨rfl, rfl⟩
theorem heap_indexes_nil (w : World) : Calls Tryz.prog 160 #[.slice none 0 0] w fun e w' => e = .returned (.tuple #[.map (some w.heap.size), .bool true]) ∧ w.alloc (.map #[] 0) = w' := by
  have hmm := @run_makeMap Tryz.prog
  go_enter Tryz.func160, Tryz.ntmps160
  go_wp2_with fail
  go_rounds 1
  go_returns
  exact ⟨rfl, rfl⟩

/-- An empty map of the call's own came back, and a yes. -/
def EmptyMap (w : World) (e : Ending) (w' : World) : Prop := ∃ g, e = .returned (.tuple #[.map (some g), .bool true]) ∧ w'.heap[g]? = some (.map #[] 0) ∧ w.heap.size ≤ g ∧ Below w.heap.size w w'

theorem map_new (w : World) : (w.alloc (.map #[] 0)).heap[w.heap.size]? = some (.map #[] 0) := heap_alloc_new w _

theorem HasB.obj {w : World} {b : Nat} {t : TypeId} {v0 v1 v2 v3 v4 v5 v6 v7 v8 v9 v10 v11 v12 : Value} (h : HasB w b #[v0, v1, v2, v3, v4, v5, v6, v7, v8, v9, v10, v11, v12] t) :
    (w.cell? ⟨b, 0, none⟩ = some v0 ∧ w.cell? ⟨b, 1, none⟩ = some v1 ∧ w.cell? ⟨b, 2, none⟩ = some v2 ∧ w.cell? ⟨b, 3, none⟩ = some v3 ∧ w.cell? ⟨b, 4, none⟩ = some v4 ∧ w.cell? ⟨b, 5, none⟩ = some v5 ∧ w.cell? ⟨b, 6, none⟩ = some v6) ∧
    w.cell? ⟨b, 7, none⟩ = some v7 ∧ w.cell? ⟨b, 8, none⟩ = some v8 ∧ w.cell? ⟨b, 9, none⟩ = some v9 ∧ w.cell? ⟨b, 10, none⟩ = some v10 ∧ w.cell? ⟨b, 11, none⟩ = some v11 ∧ w.cell? ⟨b, 12, none⟩ = some v12 ∧ ∀ o, w.frozen? ⟨b, o, none⟩ = false :=
  ⟨⟨h.cell 0, h.cell 1, h.cell 2, h.cell 3, h.cell 4, h.cell 5, h.cell 6⟩, h.cell 7, h.cell 8, h.cell 9, h.cell 10, h.cell 11, h.cell 12, h.free⟩

set_option maxHeartbeats 1000000 in
theorem heap_may (cl p nat : Int) (ahead : Nat) (hc : cl = 1 ∨ cl = 2 ∨ cl = 7) (hp : -1 ≤ p) (hp' : p < ahead) (hn : 0 ≤ nat) (w : World) :
    Calls Tryz.prog 113 #[obj0 cl p nat, .int .i64 ahead] w (EmptyMap w) := by
  have hI := fun w => heap_inside cl p nat hc w
  have hmf : ∀ (fn : Fn) (first cap : Array Value) (w : World), (Instr.makeFunc fn first cap).run Tryz.prog w = .ok (.func fn first cap) w := fun _ _ _ _ => rfl
  rcases hc with rfl | rfl | rfl
  all_goals
    go_enter Tryz.func113, Tryz.ntmps113
    go_wp2_with fail
    refine (hI _).mono ?_
    rintro e w1 ⟨rfl, hb⟩
    have HB := (HasB.new w _ _).below hb
    obtain ⟨⟨q0, q1, q2, q3, q4, q5, q6⟩, q7, q8, q9, q10, q11, q12, qf⟩ := HB.obj
    have hb' : Below w.heap.size w w1 := below_via hb ((Below.refl _ w).alloc (Nat.le_refl _) _) (by simp)
    clear hb
    have hlt := HB.lt
    clear HB
    go_wp2_with (first | (go_at_call 157; refine (ContainsFunc_vals_nil _ _).mono ?_; rintro e w' ⟨rfl, rfl⟩) | (go_at_call 160; refine (heap_indexes_nil _).mono ?_; rintro e w' ⟨rfl, rfl⟩) | (go_at_call 162; refine (ContainsFunc_keyed_nil _ _).mono ?_; rintro e w' ⟨rfl, rfl⟩))
    go_returns
    exact ⟨_, rfl, map_new _, by omega, hb'.alloc (by omega) _⟩
end Go.Proofs.YtngodcoefmihlaaGreatDoor
