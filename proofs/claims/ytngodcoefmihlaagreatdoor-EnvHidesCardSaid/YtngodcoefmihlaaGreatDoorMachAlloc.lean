/-
  Contracts of a machine's Alloc of its first object, a plain one, and of a heap's questions on it (is it there, what is it). Conditions: the machine's and the heap's own cells are as said.
-/
import Derived.Test.YtngodcoefmihlaaGreatDoorHeapAlloc
import Derived.Test.YtngodcoefmihlaaGreatDoorMach
namespace Go.Proofs.YtngodcoefmihlaaGreatDoor
open Go.RowKit

/-- A value told, as Go hands it. -/
abbrev doneN (k : Int) (b : Bool) (n : Nat) (s : ByteArray) (o : Int) : Value := .agg #[.int .i64 0, .int .i64 k, .bool b, .float .f64 n, .string s, .int .i64 o, .string ⟨#[]⟩]

theorem Machine_normal (k : Int) (b : Bool) (n : Nat) (s : ByteArray) (o : Int) (w : World) : Calls Tryz.prog 62 #[val k b n s o] w fun e w' => e = .returned (doneN k b n s o) ∧ Below w.heap.size w w' := by
  go_enter Tryz.func62, Tryz.ntmps62
  go_wp2_with fail
  refine bodyPost_ret (v := doneN k b n s o) (by simp [results, Tryz.results62, go_sem]) rfl ⟨rfl, ?_⟩
  go_grown

theorem But.cell {h : Nat} {w w' : World} (x : But h w w') {a : Addr} {v : Value} (hv : w.cell? a = some v) (hne : a.block ≠ h) : w'.cell? a = some v :=
  (World.cell?_of_block (x.block a.block (World.block_lt_of_cell? w _ hv) hne)).trans hv

theorem HasB.seven {w : World} {b : Nat} {t : TypeId} {v0 v1 v2 v3 v4 v5 v6 : Value} (h : HasB w b #[v0, v1, v2, v3, v4, v5, v6] t) :
    (w.cell? ⟨b, 0, none⟩ = some v0 ∧ w.cell? ⟨b, 1, none⟩ = some v1 ∧ w.cell? ⟨b, 2, none⟩ = some v2 ∧ w.cell? ⟨b, 3, none⟩ = some v3 ∧ w.cell? ⟨b, 4, none⟩ = some v4 ∧ w.cell? ⟨b, 5, none⟩ = some v5 ∧ w.cell? ⟨b, 6, none⟩ = some v6) ∧ ∀ o, w.frozen? ⟨b, o, none⟩ = false :=
  ⟨⟨h.cell 0, h.cell 1, h.cell 2, h.cell 3, h.cell 4, h.cell 5, h.cell 6⟩, h.free⟩

set_option maxRecDepth 100000 in
theorem Machine_Alloc {m : Nat} {f c ch d left : Int} {h : Nat} {envs codes natives body known draws : Value} {drawn calls : Int} {w : World} (cl nat room used : Int)
    (M : MachAt w m f c ch d left false h envs codes natives body known draws drawn calls) (H : HeapAt w h (.slice none 0 0) room used) (hm : m ≠ h) (hc : cl = 1 ∨ cl = 2 ∨ cl = 7) (hn : 0 ≤ nat) (h1 : 1 ≤ room - used) (hu : 0 ≤ used) (hr : room ≤ 16777216) :
    Calls Tryz.prog 23 #[.pointer (some ⟨m, 0, none⟩), obj0 cl (-1) nat] w fun e w' => e = .returned (.tuple #[.int .i64 0, doneN 0 false 0 ⟨#[]⟩ 0]) ∧ OneObj w' h w.heap.size cl nat room (used + 1) ∧ But h w w' := by
  have HA := fun w H => Heap_Alloc h cl nat room used w H hc hn h1 hu hr
  have hlm := HasB.lt M
  have hlh := HasB.lt H
  go_enter Tryz.func23, Tryz.ntmps23
  go_wp2_with fail
  have HO := (HasB.new w (#[.int .i64 cl, .int .i64 (-1), .bool false, .slice none 0 0, .int .i64 0, .bool false, .float .f64 0, .string ⟨#[]⟩, .int .i64 0, .int .i64 nat, .int .i64 0, .int .i64 0, .slice none 0 0]) 59).alloc (.cells (#[.int .i64 0, .int .i64 0, .bool false, .float .f64 0, .string ⟨#[]⟩, .int .i64 0, .string ⟨#[]⟩]) 37)
  have hD0 := HasB.new (w.alloc (.cells (#[.int .i64 cl, .int .i64 (-1), .bool false, .slice none 0 0, .int .i64 0, .bool false, .float .f64 0, .string ⟨#[]⟩, .int .i64 0, .int .i64 nat, .int .i64 0, .int .i64 0, .slice none 0 0]) 59)) (#[.int .i64 0, .int .i64 0, .bool false, .float .f64 0, .string ⟨#[]⟩, .int .i64 0, .string ⟨#[]⟩]) 37
  have hH0 : HeapAt _ h (.slice none 0 0) room used := (H.alloc (.cells (#[.int .i64 cl, .int .i64 (-1), .bool false, .slice none 0 0, .int .i64 0, .bool false, .float .f64 0, .string ⟨#[]⟩, .int .i64 0, .int .i64 nat, .int .i64 0, .int .i64 0, .slice none 0 0]) 59)).alloc (.cells (#[.int .i64 0, .int .i64 0, .bool false, .float .f64 0, .string ⟨#[]⟩, .int .i64 0, .string ⟨#[]⟩]) 37)
  have hM0 : MachAt _ m f c ch d left false h envs codes natives body known draws drawn calls := (M.alloc (.cells (#[.int .i64 cl, .int .i64 (-1), .bool false, .slice none 0 0, .int .i64 0, .bool false, .float .f64 0, .string ⟨#[]⟩, .int .i64 0, .int .i64 nat, .int .i64 0, .int .i64 0, .slice none 0 0]) 59)).alloc (.cells (#[.int .i64 0, .int .i64 0, .bool false, .float .f64 0, .string ⟨#[]⟩, .int .i64 0, .string ⟨#[]⟩]) 37)
  have hB0 := ((But.refl h w).alloc (.cells (#[.int .i64 cl, .int .i64 (-1), .bool false, .slice none 0 0, .int .i64 0, .bool false, .float .f64 0, .string ⟨#[]⟩, .int .i64 0, .int .i64 nat, .int .i64 0, .int .i64 0, .slice none 0 0]) 59)).alloc (.cells (#[.int .i64 0, .int .i64 0, .bool false, .float .f64 0, .string ⟨#[]⟩, .int .i64 0, .string ⟨#[]⟩]) 37)
  have hlo := HO.lt
  have hld := hD0.lt
  revert HO hD0 hH0 hM0 hB0 hlo hld
  rw [show (w.alloc (.cells (#[.int .i64 cl, .int .i64 (-1), .bool false, .slice none 0 0, .int .i64 0, .bool false, .float .f64 0, .string ⟨#[]⟩, .int .i64 0, .int .i64 nat, .int .i64 0, .int .i64 0, .slice none 0 0]) 59)).heap.size = w.heap.size + 1 by simp]
  generalize (w.alloc (.cells (#[.int .i64 cl, .int .i64 (-1), .bool false, .slice none 0 0, .int .i64 0, .bool false, .float .f64 0, .string ⟨#[]⟩, .int .i64 0, .int .i64 nat, .int .i64 0, .int .i64 0, .slice none 0 0]) 59)).alloc (.cells (#[.int .i64 0, .int .i64 0, .bool false, .float .f64 0, .string ⟨#[]⟩, .int .i64 0, .string ⟨#[]⟩]) 37) = w0
  intro HO hD0 hH0 hM0 hB0 hlo hld
  obtain ⟨⟨p0, p1, p2, p3, p4, p5, p6⟩, p7, p8, p9, p10, p11, p12, pf⟩ := HO.obj
  have q6 : w0.cell? ⟨m, 6, none⟩ = some (.pointer (some ⟨h, 0, none⟩)) := HasB.cell hM0 6
  refine (Machine_done hM0).mono ?_
  rintro e w' ⟨rfl, rfl⟩
  go_wp2_with fail
  go_region_held3 (fun w' => w'.cell? ⟨w.heap.size, 0, none⟩ = some (.int .i64 cl) ∧ w'.cell? ⟨w.heap.size, 1, none⟩ = some (.int .i64 (-1)) ∧ w'.cell? ⟨w.heap.size, 2, none⟩ = some (.bool false) ∧ w'.cell? ⟨w.heap.size, 3, none⟩ = some (.slice none 0 0) ∧ w'.cell? ⟨w.heap.size, 4, none⟩ = some (.int .i64 0) ∧ w'.cell? ⟨w.heap.size, 5, none⟩ = some (.bool false) ∧ w'.cell? ⟨w.heap.size, 6, none⟩ = some (.float .f64 0) ∧ w'.cell? ⟨w.heap.size, 7, none⟩ = some (.string ⟨#[]⟩) ∧ w'.cell? ⟨w.heap.size, 8, none⟩ = some (.int .i64 0) ∧ w'.cell? ⟨w.heap.size, 9, none⟩ = some (.int .i64 nat) ∧ w'.cell? ⟨w.heap.size, 10, none⟩ = some (.int .i64 0) ∧ w'.cell? ⟨w.heap.size, 11, none⟩ = some (.int .i64 0) ∧ w'.cell? ⟨w.heap.size, 12, none⟩ = some (.slice none 0 0) ∧ w'.cell? ⟨m, 6, none⟩ = some (.pointer (some ⟨h, 0, none⟩)) ∧ But h w w')
    (first
      | (refine ⟨?_, ?_, ?_, ?_, ?_, ?_, ?_, ?_, ?_, ?_, ?_, ?_, ?_, ?_, ?_⟩ <;> first | exact hB0.drew | assumption)
      | (go_split_ands; refine ⟨?_, ?_, ?_, ?_, ?_, ?_, ?_, ?_, ?_, ?_, ?_, ?_, ?_, ?_, ?_⟩ <;> first | exact But.cell hBk (by assumption) (by simp; omega) | exact But.trans (by assumption) hBk))
    (first | (go_at_call 74; refine (HA _ hH0.drew).mono ?_; rintro e w1 ⟨rfl, hO1, hBk⟩))
  rename_i hS
  obtain ⟨-, -, -, -, -, -, -, -, -, -, -, -, -, -, hB1⟩ := hS
  have hD1 : HasB w1 (w.heap.size + 1) (#[.int .i64 0, .int .i64 0, .bool false, .float .f64 0, .string ⟨#[]⟩, .int .i64 0, .string ⟨#[]⟩]) 37 := hBk.hasB hD0.drew (by omega)
  have hl1 := hD1.lt
  obtain ⟨⟨s0, s1, s2, s3, s4, s5, s6⟩, sf⟩ := hD1.seven
  clear p0 p1 p2 p3 p4 p5 p6 p7 p8 p9 p10 p11 p12 pf q6 hBk HA
  go_wp2_with fail
  refine (Machine_normal 0 false 0 ⟨#[]⟩ 0 _).mono ?_
  rintro e w2 ⟨rfl, k⟩
  have hD2 := hD1.below k
  have hl2 := hD2.lt
  have hO2 := hO1.below k
  have hB2 := hB1.trans (But.of k)
  clear s0 s1 s2 s3 s4 s5 s6 sf hD1 hO1 hB1 k
  obtain ⟨⟨s0, s1, s2, s3, s4, s5, s6⟩, sf⟩ := hD2.seven
  go_wp2_with fail
  have hx1 : w.heap.size + 1 < w0.drew.heap.size := hld
  have hx2 : w.heap.size + 1 ≠ h := by omega
  have hx3 : w.heap.size ≤ w.heap.size + 1 := by omega
  refine bodyPost_ret (v := .tuple #[.int .i64 0, doneN 0 false 0 ⟨#[]⟩ 0]) (by simp [results, Tryz.results23, go_sem, s0, s1, s2, s3, s4, s5, s6]) rfl ⟨rfl, OneObj.mono (OneObj.set (OneObj.set (OneObj.set (OneObj.set (OneObj.set (OneObj.set (OneObj.set hO2 _ _ hx1 hx2) _ _ hx1 hx2) _ _ hx1 hx2) _ _ hx1 hx2) _ _ hx1 hx2) _ _ hx1 hx2) _ _ hx1 hx2) (by omega), (But.set (But.set (But.set (But.set (But.set (But.set (But.set hB2 _ _ (.inr hx3)) _ _ (.inr hx3)) _ _ (.inr hx3)) _ _ (.inr hx3)) _ _ (.inr hx3)) _ _ (.inr hx3)) _ _ (.inr hx3))⟩

/-- The heap's one object is there. -/
theorem Heap_there (h : Nat) (a : Option Addr) (n c : Nat) (room used o : Int) (w : World) (H : HeapAt w h (.slice a n c) room used) (h0 : 0 ≤ o) (h1 : o < n) :
    Calls Tryz.prog 104 #[.pointer (some ⟨h, 0, none⟩), .int .i64 o] w fun e w' => e = .returned (.bool true) ∧ w = w' := by
  have HI := Heap_is h _ room used w H
  obtain ⟨q0, q1, q2, q3, qf⟩ := HasB.four H
  clear H
  go_enter Tryz.func104, Tryz.ntmps104
  go_wp2_with (go_at_call 112; refine HI.mono ?_; rintro e w' ⟨rfl, rfl⟩)
  go_ret
  exact ⟨rfl, rfl⟩
end Go.Proofs.YtngodcoefmihlaaGreatDoor
