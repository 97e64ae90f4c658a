/-
  Contract of a heap's Object, of the heap's one object. Condition: the heap holds one plain object.
-/
import Derived.Test.YtpafbjghlgjfcaaGreatDoorMachAlloc
namespace Go.Proofs.YtpafbjghlgjfcaaGreatDoor
open Go.RowKit

theorem HasB.object {w : World} {b : Nat} {t : TypeId} {v0 v1 v2 v3 v4 v5 v6 v7 v8 v9 v10 v11 v12 v13 : Value} (h : HasB w b #[v0, v1, v2, v3, v4, v5, v6, v7, v8, v9, v10, v11, v12, v13] t) :
    (w.cell? ⟨b, 0, none⟩ = some v0 ∧ w.cell? ⟨b, 1, none⟩ = some v1 ∧ w.cell? ⟨b, 2, none⟩ = some v2 ∧ w.cell? ⟨b, 3, none⟩ = some v3 ∧ w.cell? ⟨b, 4, none⟩ = some v4 ∧ w.cell? ⟨b, 5, none⟩ = some v5 ∧ w.cell? ⟨b, 6, none⟩ = some v6) ∧
    w.cell? ⟨b, 7, none⟩ = some v7 ∧ w.cell? ⟨b, 8, none⟩ = some v8 ∧ w.cell? ⟨b, 9, none⟩ = some v9 ∧ w.cell? ⟨b, 10, none⟩ = some v10 ∧ w.cell? ⟨b, 11, none⟩ = some v11 ∧ w.cell? ⟨b, 12, none⟩ = some v12 ∧ ∀ o, w.frozen? ⟨b, o, none⟩ = false :=
  ⟨⟨h.cell 0, h.cell 1, h.cell 2, h.cell 3, h.cell 4, h.cell 5, h.cell 6⟩, h.cell 7, h.cell 8, h.cell 9, h.cell 10, h.cell 11, h.cell 12, h.free⟩

set_option maxRecDepth 100000 in
set_option maxHeartbeats 600000 in
theorem Heap_Object {w : World} {h B : Nat} {cl nat room used : Int} (H : OneObj w h B cl nat room used) :
    Calls Tryz.prog 30 #[.pointer (some ⟨h, 0, none⟩), .int .i64 0] w fun e w' => (∃ b1 b2, e = .returned (.tuple #[obj1 cl (-1) nat b1 b2, .int .i64 0])) ∧ Below w.heap.size w w' := by
  obtain ⟨g, c, x, c1, c2, mp, hg, hx, h1, ⟨h2, h3⟩, h4⟩ := H
  have hlh := HasB.lt h1
  have hlx := HasB.lt h4
  have hlg : g < w.heap.size := World.block_lt_of_cell? w _ h2
  have HI := fun w h1 => Heap_is h (.slice (some ⟨g, 0, none⟩) 1 c) room used w h1
  have HT := fun w h1 => Heap_there h (some ⟨g, 0, none⟩) 1 c room used 0 w h1 (by decide) (by decide)
  have HO := fun w => heap_own1 cl (-1) nat c1 c2 w
  obtain ⟨q0, q1, q2, q3, qf⟩ := HasB.four h1
  obtain ⟨⟨p0, p1, p2, p3, p4, p5, p6⟩, p7, p8, p9, p10, p11, p12, pf⟩ := h4.object
  go_enter Tryz.func30, Tryz.ntmps30
  go_wp2_with fail
  refine (HI _ (h1.alloc _)).mono ?_
  rintro e w' ⟨rfl, rfl⟩
  go_wp2_with (go_at_call 53; refine (HT _ (h1.alloc _)).mono ?_; rintro e w' ⟨rfl, rfl⟩)
  refine (HO _).mono ?_
  rintro e w1 ⟨b1, b2, rfl, k⟩
  have hR := (HasB.new w (#[.int .i64 0, .int .i64 0, .bool false, .slice none 0 0, .int .i64 0, .bool false, .float .f64 0, .string ⟨#[]⟩, .int .i64 0, .int .i64 0, .int .i64 0, .int .i64 0, .slice none 0 0]) 76).below k
  have hB1 : Below w.heap.size w w1 := below_via k ((Below.refl _ w).alloc (Nat.le_refl _) _) (by simp)
  clear k q0 q1 q2 q3 qf p0 p1 p2 p3 p4 p5 p6 p7 p8 p9 p10 p11 p12 pf
  obtain ⟨⟨p0, p1, p2, p3, p4, p5, p6⟩, p7, p8, p9, p10, p11, p12, pf⟩ := hR.obj
  have hlr := hR.lt
  have HBx := Lib.hid hB1
  clear hB1 h1 h2 h3 h4 HI HT HO
  go_wp2_with fail
  refine bodyPost_ret (v := .tuple #[obj1 cl (-1) nat b1 b2, .int .i64 0]) (by simp [results, Tryz.results30, go_sem, p0, p1, p2, p3, p4, p5, p6, p7, p8, p9, p10, p11, p12]) rfl ⟨⟨_, _, rfl⟩, ?_⟩
  exact (((((((((((((HBx.out.setCell (Nat.le_refl _) _).setCell (Nat.le_refl _) _).setCell (Nat.le_refl _) _).setCell (Nat.le_refl _) _).setCell (Nat.le_refl _) _).setCell (Nat.le_refl _) _).setCell (Nat.le_refl _) _).setCell (Nat.le_refl _) _).setCell (Nat.le_refl _) _).setCell (Nat.le_refl _) _).setCell (Nat.le_refl _) _).setCell (Nat.le_refl _) _).setCell (Nat.le_refl _) _)
end Go.Proofs.YtpafbjghlgjfcaaGreatDoor
