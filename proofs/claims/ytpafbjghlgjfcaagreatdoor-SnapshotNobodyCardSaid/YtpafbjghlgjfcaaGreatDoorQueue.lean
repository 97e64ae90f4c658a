/-
  The teller's queue: contracts of put (the first thing that waits) and of next. Conditions: the teller's cells are as said.
-/
import Derived.Test.YtpafbjghlgjfcaaGreatDoorPut
import Derived.Deep.QuietTactic
import Derived.BigQuiet
namespace Go.Proofs.YtpafbjghlgjfcaaGreatDoor
open Go.RowKit

theorem info_thing : (Tryz.prog.info? 60).map (fun i => (i.zero, i.size, i.bytes)) = some (some (.agg #[.bool false, .int .i64 0]), 2, 16) := by kernel_rfl

/-- A list of things of one thing, an object's. -/
def OneThing (w : World) (g : Nat) (n : Int) : Prop := (w.cell? ⟨g, 0, none⟩ = some (.bool false) ∧ w.cell? ⟨g, 1, none⟩ = some (.int .i64 n)) ∧ g < w.heap.size

theorem two_app0 (a b : Value) (X : Array Value) : (#[a, b] ++ X)[0]? = some a := by rw [Array.getElem?_append_left (by simp)]; rfl
theorem two_app1 (a b : Value) (X : Array Value) : (#[a, b] ++ X)[1]? = some b := by rw [Array.getElem?_append_left (by simp)]; rfl
theorem tell6 {w : World} {T m : Nat} {ba buf : Value} {nm : Nat} {c0 : Int} {wl : Value} {at_ : Int} (H : TellAt w T m ba buf nm c0 wl at_) (v : Value) : TellAt (w.setCell ⟨T, 6, none⟩ v) T m ba buf nm c0 v at_ := by
  have h := HasB.set H 6 v
  simp at h
  exact h
theorem tell7 {w : World} {T m : Nat} {ba buf : Value} {nm : Nat} {c0 : Int} {wl : Value} {at_ : Int} (H : TellAt w T m ba buf nm c0 wl at_) (n : Int) : TellAt (w.setCell ⟨T, 7, none⟩ (.int .i64 n)) T m ba buf nm c0 wl n := by
  have h := HasB.set H 7 (.int .i64 n)
  simp at h
  exact h
theorem tell4 {w : World} {T m : Nat} {ba buf : Value} {nm : Nat} {c0 : Int} {wl : Value} {at_ : Int} (H : TellAt w T m ba buf nm c0 wl at_) (n : Int) : TellAt (w.setCell ⟨T, 4, none⟩ (.int .i64 n)) T m ba buf nm n wl at_ := by
  have h := HasB.set H 4 (.int .i64 n)
  simp at h
  exact h

set_option maxRecDepth 200000 in
theorem queue_put (T m : Nat) (ba buf : Value) (nm : Nat) (c0 n : Int) (w : World) (H : TellAt w T m ba buf nm c0 (.slice none 0 0) 0) :
    Calls Tryz.prog 28 #[.pointer (some ⟨T, 6, none⟩), .agg #[.bool false, .int .i64 n]] w fun e w' => e = .returned (.tuple #[]) ∧ ∃ g c, w.heap.size ≤ g ∧ TellAt w' T m ba buf nm c0 (.slice (some ⟨g, 0, none⟩) 1 c) 0 ∧ OneThing w' g n ∧ But T w w' := by
  obtain ⟨i0, hi, hz0, hz1, hz2⟩ := info_parts info_thing
  obtain ⟨⟨q0, q1, q2, q3, q4, q5, q6, q7⟩, qf⟩ := HasB.eight H
  have hlt := HasB.lt H
  have hnc : Builtin.nextslicecap 1 0 * Tryz.t60.bytes = 16 := by kernel_rfl
  go_enter Tryz.func28, Tryz.ntmps28
  have hl1 : T < w.heap.size + 1 := by omega
  have hl2 : T < w.heap.size + 1 + 1 := by omega
  have hn1 : ¬ T = w.heap.size := by omega
  have hn2 : ¬ T = w.heap.size + 1 := by omega
  go_wp2
  go_region_law (fail)
  all_goals
    go_end0
    refine ⟨rfl, w.heap.size + 1 + 1, (Question.appendCap 1 0 60).cut (w.tape (w.drawn + 1) (Question.appendCap 1 0 60)), by omega, ?_, ⟨⟨?_, ?_⟩, by simp⟩, ?_⟩
    · exact HasB.drew (HasB.drew (HasB.alloc (HasB.alloc (HasB.alloc (tell6 H _) _) _) _))
    · exact (HasB.cell (HasB.drew (HasB.drew (HasB.new3 (by simp)))) 0).trans (two_app0 _ _ _)
    · exact (HasB.cell (HasB.drew (HasB.drew (HasB.new3 (by simp)))) 1).trans (two_app1 _ _ _)
    · exact But.drew (But.drew (But.alloc (But.alloc (But.alloc (But.set (But.refl T w) _ _ (.inl rfl)) _) _) _))

theorem queue_next (T m : Nat) (ba buf : Value) (nm : Nat) (c0 n : Int) (g c : Nat) (w : World) (H : TellAt w T m ba buf nm c0 (.slice (some ⟨g, 0, none⟩) 1 c) 0) (hg : OneThing w g n) :
    Calls Tryz.prog 10 #[.pointer (some ⟨T, 6, none⟩)] w fun e w' => e = .returned (.tuple #[.agg #[.bool false, .int .i64 n], .bool true]) ∧ TellAt w' T m ba buf nm c0 (.slice (some ⟨g, 0, none⟩) 1 c) 1 ∧ But T w w' := by
  obtain ⟨⟨q0, q1, q2, q3, q4, q5, q6, q7⟩, qf⟩ := HasB.eight H
  obtain ⟨⟨p0, p1⟩, p2⟩ := hg
  have hlt := HasB.lt H
  go_enter Tryz.func10, Tryz.ntmps10
  have hn1 : ¬ T = w.heap.size := by omega
  go_wp2
  go_quiet (fail)
  go_wp2
  have hA : HasB (((w.alloc (.cells #[.bool false, .int .i64 0] 60)).drewN nq).setCell ⟨T, 7, none⟩ (.int .i64 1)) w.heap.size #[.bool false, .int .i64 0] 60 := HasB.far (w := (w.alloc (.cells #[.bool false, .int .i64 0] 60)).drewN nq) (HasB.new w #[.bool false, .int .i64 0] 60) (by simp; omega) _
  have hT : TellAt (((w.alloc (.cells #[.bool false, .int .i64 0] 60)).drewN nq).setCell ⟨T, 7, none⟩ (.int .i64 1)) T m ba buf nm c0 (.slice (some ⟨g, 0, none⟩) 1 c) 1 := tell7 (w := (w.alloc (.cells #[.bool false, .int .i64 0] 60)).drewN nq) (HasB.alloc H _) 1
  have hb0 : But T w ((w.alloc (.cells #[.bool false, .int .i64 0] 60)).drewN nq) := ⟨rfl, rfl, rfl, by show w.heap.size ≤ (w.alloc _).heap.size; simp, fun k hk _ => Below.heap_alloc w _ k hk⟩
  have hb : But T w (((w.alloc (.cells #[.bool false, .int .i64 0] 60)).drewN nq).setCell ⟨T, 7, none⟩ (.int .i64 1)) := hb0.set _ _ (.inl rfl)
  revert hA hT hb
  generalize (((w.alloc (.cells #[.bool false, .int .i64 0] 60)).drewN nq).setCell ⟨T, 7, none⟩ (.int .i64 1)) = w1
  intro hA hT hb
  have hgT : g ≠ T := by
    rintro rfl
    have := q0.symm.trans p0
    simp at this
  have r0 : w1.cell? ⟨g, 0, none⟩ = some (.bool false) := hb.cell p0 hgT
  have r1 : w1.cell? ⟨g, 1, none⟩ = some (.int .i64 n) := hb.cell p1 hgT
  have s6 : w1.cell? ⟨T, 6, none⟩ = some (.slice (some ⟨g, 0, none⟩) 1 c) := HasB.cell hT 6
  have s7 : w1.cell? ⟨T, 7, none⟩ = some (.int .i64 1) := HasB.cell hT 7
  have u0 : w1.cell? ⟨w.heap.size, 0, none⟩ = some (.bool false) := HasB.cell hA 0
  have u1 : w1.cell? ⟨w.heap.size, 1, none⟩ = some (.int .i64 0) := HasB.cell hA 1
  have uf := HasB.free hA
  clear q0 q1 q2 q3 q4 q5 q6 q7 qf p0 p1
  have hw0 : IntKind.i64.wrap 0 = 0 := by decide
  go_region_law (fail)
  all_goals go_wp2
  all_goals
    refine bodyPost_ret (v := .tuple #[.agg #[.bool false, .int .i64 n], .bool true]) (by simp [results, Tryz.results10, go_sem, Act.put, u0, u1]) rfl ⟨rfl, ?_, ?_⟩
    · exact HasB.drew (HasB.far (HasB.far hT (by simp; omega) _) (by simp; omega) _)
    · exact But.drew (But.set (But.set hb _ _ (.inr (Nat.le_refl _))) _ _ (.inr (Nat.le_refl _)))
theorem queue_none (T m : Nat) (ba buf : Value) (nm : Nat) (c0 : Int) (g c : Nat) (w : World) (H : TellAt w T m ba buf nm c0 (.slice (some ⟨g, 0, none⟩) 1 c) 1) :
    Calls Tryz.prog 10 #[.pointer (some ⟨T, 6, none⟩)] w fun e w' => e = .returned (.tuple #[.agg #[.bool false, .int .i64 0], .bool false]) ∧ Below w.heap.size w w' := by
  obtain ⟨⟨q0, q1, q2, q3, q4, q5, q6, q7⟩, qf⟩ := HasB.eight H
  have hlt := HasB.lt H
  go_enter Tryz.func10, Tryz.ntmps10
  have hn1 : ¬ T = w.heap.size := by omega
  go_wp2
  go_quiet (fail)
  go_wp2
  all_goals
    refine bodyPost_ret (v := .tuple #[.agg #[.bool false, .int .i64 0], .bool false]) (by simp [results, Tryz.results10, go_sem]) rfl ⟨rfl, ?_⟩
    have hbase : ∀ o, Below w.heap.size w ((w.alloc o).drewN nq) := fun o => below_drawn ((Below.refl _ w).alloc (Nat.le_refl _) _)
    exact Below.alloc (((hbase _).setCell (p := ⟨w.heap.size, 0, none⟩) (Nat.le_refl _) _).setCell (p := ⟨w.heap.size, 1, none⟩) (Nat.le_refl _) _) (by simp) _

theorem teller_heap (T m : Nat) (ba buf : Value) (nm : Nat) (c0 : Int) (wl : Value) (at_ : Int) {f c ch d left : Int} {over : Bool} {heap : Nat} {envs codes natives body known draws : Value} {drawn calls : Int} (w : World)
    (H : TellAt w T m ba buf nm c0 wl at_) (M : MachAt w m f c ch d left over heap envs codes natives body known draws drawn calls) :
    Calls Tryz.prog 25 #[.pointer (some ⟨T, 0, none⟩)] w fun e w' => e = .returned (.pointer (some ⟨heap, 0, none⟩)) ∧ w = w' := by
  have HM := Machine_Heap M
  obtain ⟨⟨q0, q1, q2, q3, q4, q5, q6, q7⟩, qf⟩ := HasB.eight H
  clear M
  go_enter Tryz.func25, Tryz.ntmps25
  go_wp2_with (go_at_call 7; refine HM.mono ?_; rintro e w' ⟨rfl, rfl⟩)
  go_ret
  exact ⟨rfl, rfl⟩
end Go.Proofs.YtpafbjghlgjfcaaGreatDoor
