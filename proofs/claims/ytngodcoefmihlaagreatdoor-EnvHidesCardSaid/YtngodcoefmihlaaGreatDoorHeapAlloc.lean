/-
  Contract of a heap's Alloc of a plain object, as the heap's first. Conditions: the heap is empty and has room for one cell; the object has no prototype.
-/
import Derived.Test.YtngodcoefmihlaaGreatDoorHeapOwn
import Derived.Deep.RegionLaw
namespace Go.Proofs.YtngodcoefmihlaaGreatDoor
open Go.RowKit

theorem info_cellp : (Tryz.prog.info? 158).map (fun i => (i.zero, i.size, i.bytes)) = some (some (.pointer none), 1, 8) := by kernel_rfl

/-- The heap's list: one object, and what it is. -/
def OneObj (w : World) (h B : Nat) (cl nat room used : Int) : Prop :=
  ∃ g c x b1 b2 mp, B ≤ g ∧ B ≤ x ∧ HeapAt w h (.slice (some ⟨g, 0, none⟩) 1 c) room used ∧ (w.cell? ⟨g, 0, none⟩ = some (.pointer (some ⟨x, 0, none⟩)) ∧ w.frozen? ⟨g, 0, none⟩ = false) ∧
    HasB w x #[.int .i64 cl, .int .i64 (-1), .bool false, .slice (some ⟨b2, 0, none⟩) 0 0, .int .i64 0, .bool false, .float .f64 0, .string ⟨#[]⟩, .int .i64 0, .int .i64 nat, .int .i64 0, .int .i64 0, .slice (some ⟨b1, 0, none⟩) 0 0, mp] 157

theorem OneObj.below {w w' : World} {h B : Nat} {cl nat room used : Int} (H : OneObj w h B cl nat room used) (b : Below w.heap.size w w') : OneObj w' h B cl nat room used := by
  obtain ⟨g, c, x, b1, b2, mp, hg, hx, h1, ⟨h2, h3⟩, h4⟩ := H
  have hl := World.block_lt_of_cell? w _ h2
  exact ⟨g, c, x, b1, b2, mp, hg, hx, HasB.below h1 b, ⟨(b.cell hl).trans h2, (b.frozen (p := ⟨g, 0, none⟩) hl).trans h3⟩, HasB.below h4 b⟩
theorem OneObj.set {w : World} {h B : Nat} {cl nat room used : Int} (H : OneObj w h B cl nat room used) (a : Addr) (v : Value) (ha : a.block < B) (hn : a.block ≠ h) : OneObj (w.setCell a v) h B cl nat room used := by
  obtain ⟨g, c, x, b1, b2, mp, hg, hx, h1, ⟨h2, h3⟩, h4⟩ := H
  exact ⟨g, c, x, b1, b2, mp, hg, hx, HasB.far h1 (Ne.symm hn) v, ⟨(World.cell?_of_block (Below.heap_setCell w a v g (by omega))).trans h2, (World.frozen?_of_block (Below.heap_setCell w a v g (by omega))).trans h3⟩, HasB.far h4 (by omega) v⟩

theorem OneObj.mono {w : World} {h B B' : Nat} {cl nat room used : Int} (H : OneObj w h B cl nat room used) (hB : B' ≤ B) : OneObj w h B' cl nat room used := by
  obtain ⟨g, c, x, b1, b2, mp, hg, hx, h1, h2, h4⟩ := H
  exact ⟨g, c, x, b1, b2, mp, by omega, by omega, h1, h2, h4⟩

theorem HasB.newSet (w : World) (a : Addr) (v : Value) {cs : Array Value} {t : TypeId} : HasB ((w.setCell a v).alloc (.cells cs t)) w.heap.size cs t := by
  have h := HasB.new (w.setCell a v) cs t
  simpa using h
theorem HasB.new3 {w : World} {x y : Obj} {cs : Array Value} {t : TypeId} {n : Nat} (hn : n = w.heap.size) : HasB (((w.alloc x).alloc y).alloc (.cells cs t)) (n + 1 + 1) cs t := by
  subst hn
  have h := HasB.new ((w.alloc x).alloc y) cs t
  simpa using h
theorem first_app (p : Value) (X : Array Value) : (#[p] ++ X)[0]? = some p := by rw [Array.getElem?_append_left (by simp)]; rfl
theorem put0 {w : World} {h : Nat} {l : Value} {room used : Int} (H : HeapAt w h l room used) (v : Value) : HeapAt (w.setCell ⟨h, 0, none⟩ v) h v room used := by
  have h := HasB.set H 0 v
  simp at h
  exact h
theorem new_two (w : World) (x y : Obj) : ((w.alloc x).alloc y).heap[w.heap.size + 1]? = some y := by
  have h := heap_alloc_new (w.alloc x) y
  simpa using h
theorem grown_nil {w w' : World} (h : w.grownBy w' none) : Below w.heap.size w w' := ⟨h.os, h.tape, h.output, h.size, fun k hk => h.block k hk (by simp)⟩

set_option maxRecDepth 100000 in
set_option maxHeartbeats 1000000 in
theorem Heap_Alloc (h : Nat) (cl nat room used : Int) (w : World) (H : HeapAt w h (.slice none 0 0) room used) (hc : cl = 1 ∨ cl = 2 ∨ cl = 7) (hn : 0 ≤ nat) (h1 : 1 ≤ room - used) (hu : 0 ≤ used) (hr : room ≤ 16777216) :
    Calls Tryz.prog 74 #[.pointer (some ⟨h, 0, none⟩), obj0 cl (-1) nat] w fun e w' => e = .returned (.tuple #[.int .i64 0, .int .i64 0]) ∧ OneObj w' h w.heap.size cl nat room (used + 1) ∧ But h w w' := by
  obtain ⟨i0, hi, hz0, hz1, hz2⟩ := info_parts info_cellp
  have HI := fun w H => Heap_is h (.slice none 0 0) room used w H
  have HM : ∀ w, Calls Tryz.prog 113 #[obj0 cl (-1) nat, .int .i64 0] w (EmptyMap w) := fun w => heap_may cl (-1) nat 0 hc (by omega) (by omega) hn w
  obtain ⟨q0, q1, q2, q3, qf⟩ := HasB.four H
  have hlt := H.lt
  go_enter Tryz.func74, Tryz.ntmps74
  go_wp2_with fail
  refine (HI _ (H.alloc _)).mono ?_
  rintro e w' ⟨rfl, rfl⟩
  go_wp2_with fail
  have HO := HasB.new w (#[.int .i64 cl, .int .i64 (-1), .bool false, .slice none 0 0, .int .i64 0, .bool false, .float .f64 0, .string ⟨#[]⟩, .int .i64 0, .int .i64 nat, .int .i64 0, .int .i64 0, .slice none 0 0]) 59
  have hH0 : HeapAt _ h (.slice none 0 0) room used := H.alloc (.cells (#[.int .i64 cl, .int .i64 (-1), .bool false, .slice none 0 0, .int .i64 0, .bool false, .float .f64 0, .string ⟨#[]⟩, .int .i64 0, .int .i64 nat, .int .i64 0, .int .i64 0, .slice none 0 0]) 59)
  have hB0 := (But.refl h w).alloc (.cells (#[.int .i64 cl, .int .i64 (-1), .bool false, .slice none 0 0, .int .i64 0, .bool false, .float .f64 0, .string ⟨#[]⟩, .int .i64 0, .int .i64 nat, .int .i64 0, .int .i64 0, .slice none 0 0]) 59)
  have hlo := HO.lt
  revert HO hH0 hB0 hlo
  generalize w.alloc (.cells (#[.int .i64 cl, .int .i64 (-1), .bool false, .slice none 0 0, .int .i64 0, .bool false, .float .f64 0, .string ⟨#[]⟩, .int .i64 0, .int .i64 nat, .int .i64 0, .int .i64 0, .slice none 0 0]) 59) = w0
  intro HO hH0 hB0 hlo
  obtain ⟨⟨p0, p1, p2, p3, p4, p5, p6⟩, p7, p8, p9, p10, p11, p12, pf⟩ := HO.obj
  obtain ⟨r0, r1, r2, r3, rf⟩ := HasB.four hH0
  clear q0 q1 q2 q3 qf
  go_region_held3 (fun w' => w'.cell? ⟨w.heap.size, 0, none⟩ = some (.int .i64 cl) ∧ w'.cell? ⟨w.heap.size, 1, none⟩ = some (.int .i64 (-1)) ∧ w'.cell? ⟨w.heap.size, 2, none⟩ = some (.bool false) ∧ w'.cell? ⟨w.heap.size, 3, none⟩ = some (.slice none 0 0) ∧ w'.cell? ⟨w.heap.size, 4, none⟩ = some (.int .i64 0) ∧ w'.cell? ⟨w.heap.size, 5, none⟩ = some (.bool false) ∧ w'.cell? ⟨w.heap.size, 6, none⟩ = some (.float .f64 0) ∧ w'.cell? ⟨w.heap.size, 7, none⟩ = some (.string ⟨#[]⟩) ∧ w'.cell? ⟨w.heap.size, 8, none⟩ = some (.int .i64 0) ∧ w'.cell? ⟨w.heap.size, 9, none⟩ = some (.int .i64 nat) ∧ w'.cell? ⟨w.heap.size, 10, none⟩ = some (.int .i64 0) ∧ w'.cell? ⟨w.heap.size, 11, none⟩ = some (.int .i64 0) ∧ w'.cell? ⟨w.heap.size, 12, none⟩ = some (.slice none 0 0) ∧ w'.cell? ⟨h, 0, none⟩ = some (.slice none 0 0) ∧ HasB w' w.heap.size (#[.int .i64 cl, .int .i64 (-1), .bool false, .slice none 0 0, .int .i64 0, .bool false, .float .f64 0, .string ⟨#[]⟩, .int .i64 0, .int .i64 nat, .int .i64 0, .int .i64 0, .slice none 0 0]) 59 ∧ HeapAt w' h (.slice none 0 0) room used ∧ But h w w')
    (first
      | (refine ⟨?_, ?_, ?_, ?_, ?_, ?_, ?_, ?_, ?_, ?_, ?_, ?_, ?_, ?_, ?_, ?_, ?_⟩ <;> first | exact HO.drew | exact hH0.drew | exact hB0.drew | (simp only [World.cell?_drew]; assumption) | assumption)
      | (go_split_ands; refine ⟨?_, ?_, ?_, ?_, ?_, ?_, ?_, ?_, ?_, ?_, ?_, ?_, ?_, ?_, ?_, ?_, ?_⟩ <;> first | exact below_keep hb (by assumption) | exact HasB.below (by assumption) hb | exact But.trans (by assumption) (But.of hb) | assumption))
    (first | (go_at_call 113; refine (HM _).mono ?_; rintro e w1 ⟨mp, rfl, hmp, hmpl, hb⟩))
  rename_i hS
  clear p0 p1 p2 p3 p4 p5 p6 p7 p8 p9 p10 p11 p12 pf r0 r1 r2 r3 rf HM HI
  obtain ⟨p0, p1, p2, p3, p4, p5, p6, p7, p8, p9, p10, p11, p12, -, HO1, hH1, hB1⟩ := hS
  have hl1 := HO1.lt
  have pf := HO1.free
  go_wp2_with fail
  refine (Heap_Take h _ room used w1 hH1 h1 hu hr).mono ?_
  rintro e w2 ⟨rfl, hH2, hB2⟩
  have HO2 := hB2.hasB HO1 (by omega)
  have hB := hB1.trans hB2
  have hl2 := HO2.lt
  clear p0 p1 p2 p3 p4 p5 p6 p7 p8 p9 p10 p11 p12 pf
  obtain ⟨⟨p0, p1, p2, p3, p4, p5, p6⟩, p7, p8, p9, p10, p11, p12, pf⟩ := HO2.obj
  obtain ⟨r0, r1, r2, r3, rf⟩ := HasB.four hH2
  go_wp2_with fail
  have hOwn := fun w => heap_own cl (-1) nat w
  have hnc : Builtin.nextslicecap 1 0 * Tryz.t158.bytes = 8 := by kernel_rfl
  go_region_law (go_simp; go_at_call 115; refine (hOwn _).mono ?_; rintro e w3 ⟨b1, b2, rfl, k⟩; have k2 : w2.heap.size ≤ w3.heap.size := k.size; have hH3 : HeapAt w3 h (.slice none 0 0) room (used + 1) := HasB.below (HasB.drew hH2) k; have r0' := below_keep k r0; have rf3 := HasB.free hH3; have hh3 := HasB.lt hH3; have hh4 : h < w3.heap.size + 1 := (by omega); have hh5 : h < w3.heap.size + 1 + 1 := (by omega); have hn3 : ¬ h = w3.heap.size := (by omega); have hn4 : ¬ h = w3.heap.size + 1 := (by omega); have hn5 : ¬ h = w3.heap.size + 1 + 1 := (by omega))
  all_goals (clear hB2 hB1 hB0 hH0 HO HO1 hH1)
  all_goals go_wp2_with fail
  all_goals
    go_returns
    refine ⟨rfl, ⟨w3.heap.size + 1 + 1, (Question.appendCap 1 0 158).cut (w3.tape w3.drawn (Question.appendCap 1 0 158)), w3.heap.size, b1, b2, .map (some mp), by omega, by omega, ?_, ?_, ?_⟩, ?_⟩
    · exact HasB.drew (HasB.alloc (HasB.alloc (HasB.alloc (put0 hH3 _) _) _) _)
    · exact ⟨(HasB.cell (HasB.drew (HasB.new3 (by simp))) 0).trans (first_app _ _), HasB.free (HasB.drew (HasB.new3 (by simp))) 0⟩
    · exact HasB.drew (HasB.alloc (HasB.alloc (HasB.newSet _ _ _) _) _)
    · exact But.drew (But.alloc (But.alloc (But.alloc (But.set (hB.drew.trans (But.of k)) _ _ (.inl rfl)) _) _) _)
end Go.Proofs.YtngodcoefmihlaaGreatDoor
