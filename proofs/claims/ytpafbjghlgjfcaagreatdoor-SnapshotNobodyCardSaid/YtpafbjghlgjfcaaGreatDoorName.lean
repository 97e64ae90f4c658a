/-
  The teller's names: contracts of name, of an object that has none yet, and of one that has. Conditions: the teller's, the machine's and the heap's cells are as said.
-/
import Derived.Test.YtpafbjghlgjfcaaGreatDoorNames
namespace Go.Proofs.YtpafbjghlgjfcaaGreatDoor
open Go.RowKit

theorem Rest.mapSet {S : Nat → Prop} {w w' : World} (x : Rest S w w') {nm : Nat} (h : S nm) (o : Obj) : Rest S w (mapSet w' nm o) :=
  ⟨x.os, x.tape, x.output, Nat.le_trans x.size (Nat.le_of_eq (mapSet_size w' nm o).symm), fun k hk hn => (mapSet_block w' nm o k (fun e => hn (e ▸ h))).trans (x.block k hk hn)⟩
theorem Itoa0 (w : World) : Calls Tryz.prog 29 #[.int .i64 0] w fun e w' => e = .returned (.string ⟨#[48]⟩) ∧ w = w' := by
  refine (strconv_Itoa_small 0 (by decide) w).mono ?_
  rintro e w' ⟨rfl, rfl⟩
  have hd : Lib.decDigits 0 = [48] := by first | decide | kernel_rfl | simp [Lib.decDigits]
  rw [hd]
  exact ⟨rfl, rfl⟩

set_option maxRecDepth 200000 in
theorem teller_name_new (T m : Nat) (ba buf : Value) (nm : Nat) {f c ch d left : Int} {over : Bool} {h : Nat} {envs codes natives body known draws : Value} {drawn calls : Int} (a : Option Addr) (n cp : Nat) (room used : Int) (w : World)
    (H : TellAt w T m ba buf nm 0 (.slice none 0 0) 0) (M : MachAt w m f c ch d left over h envs codes natives body known draws drawn calls) (hH : HeapAt w h (.slice a n cp) room used) (hn : 0 < n) (hnm : w.heap[nm]? = some (.map #[] 0)) :
    Calls Tryz.prog 12 #[.pointer (some ⟨T, 0, none⟩), thing 0] w fun e w' => e = .returned (.string ⟨#[35, 48]⟩) ∧
      ∃ g cc, w.heap.size ≤ g ∧ TellAt w' T m ba buf nm 1 (.slice (some ⟨g, 0, none⟩) 1 cc) 0 ∧ OneThing w' g 0 ∧ w'.heap[nm]? = some (.map #[{ key := thing 0, val := .int .i64 0, born := 0 }] 1) ∧ Rest (fun k => k = T ∨ k = nm) w w' := by
  have HT := fun w H M => teller_heap T m ba buf nm 0 (.slice none 0 0) 0 (f := f) (c := c) (ch := ch) (d := d) (left := left) (over := over) (heap := h) (envs := envs) (codes := codes) (natives := natives) (body := body) (known := known) (draws := draws) (drawn := drawn) (calls := calls) w H M
  have HL := fun w hH => Heap_Len h a n cp room used w hH
  obtain ⟨⟨q0, q1, q2, q3, q4, q5, q6, q7⟩, qf⟩ := HasB.eight H
  have hlt := HasB.lt H
  go_enter Tryz.func12, Tryz.ntmps12
  go_wp2_with fail
  have hX0 : HasB (w.alloc (.cells #[.bool false, .int .i64 0] 60)) w.heap.size #[.bool false, .int .i64 0] 60 := HasB.new w _ _
  have hT0 : TellAt (w.alloc (.cells #[.bool false, .int .i64 0] 60)) T m ba buf nm 0 (.slice none 0 0) 0 := HasB.alloc H _
  have hM0 : MachAt (w.alloc (.cells #[.bool false, .int .i64 0] 60)) m f c ch d left over h envs codes natives body known draws drawn calls := HasB.alloc M _
  have hH0 : HeapAt (w.alloc (.cells #[.bool false, .int .i64 0] 60)) h (.slice a n cp) room used := HasB.alloc hH _
  have hln : nm < w.heap.size := (Array.getElem?_eq_some_iff.1 hnm).1
  have hn0 : (w.alloc (.cells #[.bool false, .int .i64 0] 60)).heap[nm]? = some (.map #[] 0) := (Below.heap_alloc w _ nm hln).trans hnm
  have hb0 : Below w.heap.size w (w.alloc (.cells #[.bool false, .int .i64 0] 60)) := (Below.refl _ w).alloc (Nat.le_refl _) _
  have hls : w.heap.size < (w.alloc (.cells #[.bool false, .int .i64 0] 60)).heap.size := by simp
  revert hX0 hT0 hM0 hH0 hn0 hb0 hls
  generalize w.alloc (.cells #[.bool false, .int .i64 0] 60) = w0
  intro hX0 hT0 hM0 hH0 hn0 hb0 hls
  clear q0 q1 q2 q3 q4 q5 q6 q7 qf
  obtain ⟨⟨q0, q1, q2, q3, q4, q5, q6, q7⟩, qf⟩ := HasB.eight hT0
  have p0 : w0.cell? ⟨w.heap.size, 0, none⟩ = some (.bool false) := HasB.cell hX0 0
  have p1 : w0.cell? ⟨w.heap.size, 1, none⟩ = some (.int .i64 0) := HasB.cell hX0 1
  go_region_held3 (fun w' => w'.cell? ⟨w.heap.size, 1, none⟩ = some (.int .i64 0) ∧ TellAt w' T m ba buf nm 0 (.slice none 0 0) 0 ∧ MachAt w' m f c ch d left over h envs codes natives body known draws drawn calls ∧ HeapAt w' h (.slice a n cp) room used)
    (first
      | (refine ⟨?_, ?_, ?_, ?_⟩ <;> first | exact HasB.drew hT0 | exact HasB.drew hM0 | exact HasB.drew hH0 | assumption)
      | (go_split_ands; refine ⟨?_, ?_, ?_, ?_⟩ <;> assumption))
    (first
      | (go_at_call 25; refine (HT _ (HasB.drew hT0) (HasB.drew hM0)).mono ?_; rintro e w' ⟨rfl, rfl⟩)
      | (go_at_call 26; refine (HL _ (HasB.drew hH0)).mono ?_; rintro e w' ⟨rfl, rfl⟩))
  rename_i hS
  obtain ⟨-, hT1, hM1, hH1⟩ := hS
  go_wp2_with fail
  have hX1 := HasB.drew hX0
  have hn1 : w0.drew.heap[nm]? = some (.map #[] 0) := hn0
  have hb1 := hb0.drew
  have hls1 : w.heap.size < w0.drew.heap.size := hls
  clear hX0 hT0 hM0 hH0 hn0 hb0 hls q0 q1 q2 q3 q4 q5 q6 q7 qf p0 p1
  revert hX1 hT1 hM1 hH1 hn1 hb1 hls1
  generalize w0.drew = w1
  intro hT1 hM1 hH1 hX1 hn1 hb1 hls1
  obtain ⟨⟨q0, q1, q2, q3, q4, q5, q6, q7⟩, qf⟩ := HasB.eight hT1
  have p0 : w1.cell? ⟨w.heap.size, 0, none⟩ = some (.bool false) := HasB.cell hX1 0
  have p1 : w1.cell? ⟨w.heap.size, 1, none⟩ = some (.int .i64 0) := HasB.cell hX1 1
  have hk1 := look_none nm w1 hn1
  have hk2 := look_none nm w1.drew hn1
  go_region_held3 (fun w' => (w'.cell? ⟨w.heap.size, 0, none⟩ = some (.bool false) ∧ w'.cell? ⟨w.heap.size, 1, none⟩ = some (.int .i64 0)) ∧ w'.cell? ⟨T, 3, none⟩ = some (.map (some nm)) ∧ (Instr.lookup 42 (.map (some nm)) (thing 0) true).run Tryz.prog w' = .ok (.tuple #[.int .i64 0, .bool false]) w')
    (first
      | (refine ⟨⟨?_, ?_⟩, ?_, ?_⟩ <;> assumption)
      | (go_split_ands; refine ⟨⟨?_, ?_⟩, ?_, ?_⟩ <;> assumption))
    (fail)
  clear hk1 hk2
  go_wp2_with fail
  have hw1 : IntKind.i64.wrap 1 = 1 := by decide
  go_region_law (fail)
  have hTX : w.heap.size ≠ T := by omega
  have hTn : T ≠ nm := cells_ne_map hT1 hn1
  have hXn : w.heap.size ≠ nm := cells_ne_map hX1 hn1
  have hT2 : TellAt (w1.setCell ⟨T, 4, none⟩ (.int .i64 1)).drew.drew T m ba buf nm 1 (.slice none 0 0) 0 := HasB.drew (HasB.drew (tell4 hT1 1))
  have hX2 : HasB (w1.setCell ⟨T, 4, none⟩ (.int .i64 1)).drew.drew w.heap.size #[.bool false, .int .i64 0] 60 := HasB.drew (HasB.drew (HasB.far hX1 hTX _))
  have hn2 : (w1.setCell ⟨T, 4, none⟩ (.int .i64 1)).drew.drew.heap[nm]? = some (.map #[] 0) := (Below.heap_setCell w1 ⟨T, 4, none⟩ (.int .i64 1) nm (Ne.symm hTn)).trans hn1
  have hb2 : Rest (fun k => k = T ∨ k = nm) w (w1.setCell ⟨T, 4, none⟩ (.int .i64 1)).drew.drew :=
    Rest.trans (Rest.of hb1) (Rest.ofBut (((But.refl T w1).set ⟨T, 4, none⟩ (.int .i64 1) (.inl rfl)).drew.drew) (.inl rfl))
  clear q0 q1 q2 q3 q4 q5 q6 q7 qf p0 p1 hX1 hT1 hn1 hb1 hM1 hH1 hls1
  go_wp2_with fail
  revert hT2 hX2 hn2 hb2
  generalize (w1.setCell ⟨T, 4, none⟩ (.int .i64 1)).drew.drew = w2
  intro hT2 hX2 hn2 hb2
  have q3 : w2.cell? ⟨T, 3, none⟩ = some (.map (some nm)) := HasB.cell hT2 3
  have p0 : w2.cell? ⟨w.heap.size, 0, none⟩ = some (.bool false) := HasB.cell hX2 0
  have p1 : w2.cell? ⟨w.heap.size, 1, none⟩ = some (.int .i64 0) := HasB.cell hX2 1
  have hu := update_none nm (.int .i64 0) w2.drew hn2
  go_region_law (fail)
  all_goals (
    have hT3 : TellAt (mapSet w2.drew nm (.map #[{ key := thing 0, val := .int .i64 0, born := 0 }] 1)) T m ba buf nm 1 (.slice none 0 0) 0 := HasB.mapSet (HasB.drew hT2) hTn _
    have hX3 : HasB (mapSet w2.drew nm (.map #[{ key := thing 0, val := .int .i64 0, born := 0 }] 1)) w.heap.size #[.bool false, .int .i64 0] 60 := HasB.mapSet (HasB.drew hX2) hXn _
    have hn3 : (mapSet w2.drew nm (.map #[{ key := thing 0, val := .int .i64 0, born := 0 }] 1)).heap[nm]? = some (.map #[{ key := thing 0, val := .int .i64 0, born := 0 }] 1) := mapSet_at _ nm _ _ hn2
    have hb3 : Rest (fun k => k = T ∨ k = nm) w (mapSet w2.drew nm (.map #[{ key := thing 0, val := .int .i64 0, born := 0 }] 1)) := Rest.mapSet (Rest.drew hb2) (.inr rfl) _
    clear hT2 hX2 hn2 hb2 q3 p0 p1 hu
    revert hT3 hX3 hn3 hb3
    generalize mapSet w2.drew nm (.map #[{ key := thing 0, val := .int .i64 0, born := 0 }] 1) = w3
    intro hT3 hX3 hn3 hb3
    have p0 : w3.cell? ⟨w.heap.size, 0, none⟩ = some (.bool false) := HasB.cell hX3 0
    have p1 : w3.cell? ⟨w.heap.size, 1, none⟩ = some (.int .i64 0) := HasB.cell hX3 1
    go_wp2_with fail
    go_region_law (go_simp; go_at_call 28; refine (queue_put T m ba buf nm 1 0 w3.drew (HasB.drew hT3)).mono ?_; rintro e w4 ⟨rfl, g, cc, hg4, hT4, hO4, hB4⟩)
    all_goals go_wp2_with (go_at_call 29; refine (Itoa0 _).mono ?_; rintro e w' ⟨rfl, rfl⟩)
    all_goals (
      have hl3 : nm < w3.heap.size := (Array.getElem?_eq_some_iff.1 hn3).1
      have hfin : w4.heap[nm]? = some (.map #[{ key := thing 0, val := .int .i64 0, born := 0 }] 1) := (hB4.block nm hl3 (Ne.symm hTn)).trans hn3
      have hsz := hb3.size
      have hg5 : w3.heap.size ≤ g := hg4
      have hbf := Rest.trans (Rest.drew hb3) (Rest.ofBut hB4 (.inl rfl))
      go_ret
      exact ⟨rfl, g, cc, by omega, hT4, hO4, hfin, hbf⟩))
end Go.Proofs.YtpafbjghlgjfcaaGreatDoor
