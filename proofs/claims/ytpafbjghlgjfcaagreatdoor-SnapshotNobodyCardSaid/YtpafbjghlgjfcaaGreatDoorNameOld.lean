/-
  The teller's names: contract of name, of an object that has one. Conditions: as at a new one.
-/
import Derived.Test.YtpafbjghlgjfcaaGreatDoorName
namespace Go.Proofs.YtpafbjghlgjfcaaGreatDoor
open Go.RowKit

set_option maxRecDepth 200000 in
theorem teller_name_old (T m : Nat) (ba buf : Value) (nm : Nat) (wl : Value) (at_ : Int) {f c ch d left : Int} {over : Bool} {h : Nat} {envs codes natives body known draws : Value} {drawn calls : Int} (a : Option Addr) (n cp : Nat) (room used : Int) (w : World)
    (H : TellAt w T m ba buf nm 1 wl at_) (M : MachAt w m f c ch d left over h envs codes natives body known draws drawn calls) (hH : HeapAt w h (.slice a n cp) room used) (hn : 0 < n) (hnm : w.heap[nm]? = some (.map #[{ key := thing 0, val := .int .i64 0, born := 0 }] 1)) :
    Calls Tryz.prog 12 #[.pointer (some ⟨T, 0, none⟩), thing 0] w fun e w' => e = .returned (.string ⟨#[35, 48]⟩) ∧
      Below w.heap.size w w' := by
  have HT := fun w H M => teller_heap T m ba buf nm 1 wl at_ (f := f) (c := c) (ch := ch) (d := d) (left := left) (over := over) (heap := h) (envs := envs) (codes := codes) (natives := natives) (body := body) (known := known) (draws := draws) (drawn := drawn) (calls := calls) w H M
  have HL := fun w hH => Heap_Len h a n cp room used w hH
  obtain ⟨⟨q0, q1, q2, q3, q4, q5, q6, q7⟩, qf⟩ := HasB.eight H
  have hlt := HasB.lt H
  go_enter Tryz.func12, Tryz.ntmps12
  go_wp2_with fail
  have hX0 : HasB (w.alloc (.cells #[.bool false, .int .i64 0] 60)) w.heap.size #[.bool false, .int .i64 0] 60 := HasB.new w _ _
  have hT0 : TellAt (w.alloc (.cells #[.bool false, .int .i64 0] 60)) T m ba buf nm 1 wl at_ := HasB.alloc H _
  have hM0 : MachAt (w.alloc (.cells #[.bool false, .int .i64 0] 60)) m f c ch d left over h envs codes natives body known draws drawn calls := HasB.alloc M _
  have hH0 : HeapAt (w.alloc (.cells #[.bool false, .int .i64 0] 60)) h (.slice a n cp) room used := HasB.alloc hH _
  have hln : nm < w.heap.size := (Array.getElem?_eq_some_iff.1 hnm).1
  have hn0 : (w.alloc (.cells #[.bool false, .int .i64 0] 60)).heap[nm]? = some (.map #[{ key := thing 0, val := .int .i64 0, born := 0 }] 1) := (Below.heap_alloc w _ nm hln).trans hnm
  have hb0 : Below w.heap.size w (w.alloc (.cells #[.bool false, .int .i64 0] 60)) := (Below.refl _ w).alloc (Nat.le_refl _) _
  have hls : w.heap.size < (w.alloc (.cells #[.bool false, .int .i64 0] 60)).heap.size := by simp
  revert hX0 hT0 hM0 hH0 hn0 hb0 hls
  generalize w.alloc (.cells #[.bool false, .int .i64 0] 60) = w0
  intro hX0 hT0 hM0 hH0 hn0 hb0 hls
  clear q0 q1 q2 q3 q4 q5 q6 q7 qf
  obtain ⟨⟨q0, q1, q2, q3, q4, q5, q6, q7⟩, qf⟩ := HasB.eight hT0
  have p0 : w0.cell? ⟨w.heap.size, 0, none⟩ = some (.bool false) := HasB.cell hX0 0
  have p1 : w0.cell? ⟨w.heap.size, 1, none⟩ = some (.int .i64 0) := HasB.cell hX0 1
  go_region_held3 (fun w' => w'.cell? ⟨w.heap.size, 1, none⟩ = some (.int .i64 0) ∧ TellAt w' T m ba buf nm 1 wl at_ ∧ MachAt w' m f c ch d left over h envs codes natives body known draws drawn calls ∧ HeapAt w' h (.slice a n cp) room used)
    (first
      | (refine ⟨?_, ?_, ?_, ?_⟩ <;> first | exact HasB.drew hT0 | exact HasB.drew hM0 | exact HasB.drew hH0 | assumption)
      | (go_split_ands; refine ⟨?_, ?_, ?_, ?_⟩ <;> assumption))
    (first
      | (go_at_call 25; refine (HT _ (HasB.drew hT0) (HasB.drew hM0)).mono ?_; rintro e w' ⟨rfl, rfl⟩)
      | (go_at_call 26; refine (HL _ (HasB.drew hH0)).mono ?_; rintro e w' ⟨rfl, rfl⟩))
  rename_i hS
  obtain ⟨-, hT1, hM1, hH1⟩ := hS
  go_wp2_with fail
  have hX1 := HasB.drew hX0
  have hn1 : w0.drew.heap[nm]? = some (.map #[{ key := thing 0, val := .int .i64 0, born := 0 }] 1) := hn0
  have hb1 := hb0.drew
  have hls1 : w.heap.size < w0.drew.heap.size := hls
  clear hX0 hT0 hM0 hH0 hn0 hb0 hls q0 q1 q2 q3 q4 q5 q6 q7 qf p0 p1
  revert hX1 hT1 hM1 hH1 hn1 hb1 hls1
  generalize w0.drew = w1
  intro hT1 hM1 hH1 hX1 hn1 hb1 hls1
  obtain ⟨⟨q0, q1, q2, q3, q4, q5, q6, q7⟩, qf⟩ := HasB.eight hT1
  have p0 : w1.cell? ⟨w.heap.size, 0, none⟩ = some (.bool false) := HasB.cell hX1 0
  have p1 : w1.cell? ⟨w.heap.size, 1, none⟩ = some (.int .i64 0) := HasB.cell hX1 1
  have hk1 := look_one nm (.int .i64 0) 0 1 w1 hn1
  have hk2 := look_one nm (.int .i64 0) 0 1 w1.drew hn1
  go_region_held3 (fun w' => (w'.cell? ⟨w.heap.size, 0, none⟩ = some (.bool false) ∧ w'.cell? ⟨w.heap.size, 1, none⟩ = some (.int .i64 0)) ∧ w'.cell? ⟨T, 3, none⟩ = some (.map (some nm)) ∧ (Instr.lookup 42 (.map (some nm)) (thing 0) true).run Tryz.prog w' = .ok (.tuple #[.int .i64 0, .bool true]) w')
    (first
      | (refine ⟨⟨?_, ?_⟩, ?_, ?_⟩ <;> assumption)
      | (go_split_ands; refine ⟨⟨?_, ?_⟩, ?_, ?_⟩ <;> assumption))
    (fail)
  clear hk1 hk2
  go_wp2_with (go_at_call 29; refine (Itoa0 _).mono ?_; rintro e w' ⟨rfl, rfl⟩)
  go_ret
  exact ⟨rfl, hb1.drew⟩
end Go.Proofs.YtpafbjghlgjfcaaGreatDoor
