/-
  The teller's queue: contracts of put (the first thing that waits) and of next. Conditions: the teller's cells are as said. The teller's map of names: what is looked up, and what is laid into it: of no name yet, and of one. No condition. The teller's names: contracts of name, of an object that has none yet, and of one that has. Conditions: the teller's, the machine's and the heap's cells are as said. The teller's names: contract of name, of an object that has one. Conditions: as at a new one. Contracts of snapshot's class, of the teller's head of a plain object, and of its value of an object that has no name yet. Conditions: as at the names. Contract of the teller's object, of the heap's one plain object. Conditions: the teller's, the machine's and the heap's cells are as said; something is written. Contract of strings.Builder's String, of the teller's builder. Condition: something is written. Contract of snapshot.Of, of one plain object. Conditions: the machine and its heap are as said; the roots are the object. Contract of the law's own question (quilllaw29.awake): it answers yes. No condition. quilllaw29.SnapshotShows answers true for every value whose text holds at most 1048576 letters. Conditions: the laid variables of strconv have their values.
-/
import Derived.Test.YtelgobelbeabaaaGreatDoorShM15
import Derived.Deep.QuietTactic
import Derived.BigQuiet
import Derived.WideMake
import Derived.Test.YtelgobelbeabaaaGreatDoorShM10
import Derived.Test.YtelgobelbeabaaaGreatDoorShM14
namespace Go.Proofs.YtelgobelbeabaaaGreatDoor
open Go.RowKit

theorem info_thing : (Tryz.prog.info? 92).map (fun i => (i.zero, i.size, i.bytes)) = some (some (.agg #[.bool false, .int .i64 0]), 2, 16) := by kernel_rfl

/-- A list of things of one thing, an object's. -/
def OneThing (w : World) (g : Nat) (n : Int) : Prop := (w.cell? ⟨g, 0, none⟩ = some (.bool false) ∧ w.cell? ⟨g, 1, none⟩ = some (.int .i64 n)) ∧ g < w.heap.size

theorem two_app0 (a b : Value) (X : Array Value) : (#[a, b] ++ X)[0]? = some a := by rw [Array.getElem?_append_left (by simp)]; rfl
theorem two_app1 (a b : Value) (X : Array Value) : (#[a, b] ++ X)[1]? = some b := by rw [Array.getElem?_append_left (by simp)]; rfl
theorem tell6 {w : World} {T m : Nat} {ba buf : Value} {nm : Nat} {c0 : Int} {wl : Value} {at_ : Int} (H : TellAt w T m ba buf nm c0 wl at_) (v : Value) : TellAt (w.setCell ⟨T, 6, none⟩ v) T m ba buf nm c0 v at_ := by
  have h := HasB.set H 6 v
  simp at h
  exact h
theorem tell7 {w : World} {T m : Nat} {ba buf : Value} {nm : Nat} {c0 : Int} {wl : Value} {at_ : Int} (H : TellAt w T m ba buf nm c0 wl at_) (n : Int) : TellAt (w.setCell ⟨T, 7, none⟩ (.int .i64 n)) T m ba buf nm c0 wl n := by
  have h := HasB.set H 7 (.int .i64 n)
  simp at h
  exact h
theorem tell4 {w : World} {T m : Nat} {ba buf : Value} {nm : Nat} {c0 : Int} {wl : Value} {at_ : Int} (H : TellAt w T m ba buf nm c0 wl at_) (n : Int) : TellAt (w.setCell ⟨T, 4, none⟩ (.int .i64 n)) T m ba buf nm n wl at_ := by
  have h := HasB.set H 4 (.int .i64 n)
  simp at h
  exact h

set_option maxRecDepth 200000 in
theorem queue_put (T m : Nat) (ba buf : Value) (nm : Nat) (c0 n : Int) (w : World) (H : TellAt w T m ba buf nm c0 (.slice none 0 0) 0) :
    Calls Tryz.prog 87 #[.pointer (some ⟨T, 6, none⟩), .agg #[.bool false, .int .i64 n]] w fun e w' => e = .returned (.tuple #[]) ∧ ∃ g c, w.heap.size ≤ g ∧ TellAt w' T m ba buf nm c0 (.slice (some ⟨g, 0, none⟩) 1 c) 0 ∧ OneThing w' g n ∧ But T w w' := by
  obtain ⟨i0, hi, hz0, hz1, hz2⟩ := info_parts info_thing
  obtain ⟨⟨q0, q1, q2, q3, q4, q5, q6, q7⟩, qf⟩ := HasB.eight H
  have hlt := HasB.lt H
  have hnc : Builtin.nextslicecap 1 0 * Tryz.t92.bytes = 16 := by kernel_rfl
  go_enter Tryz.func87, Tryz.ntmps87
  have hl1 : T < w.heap.size + 1 := by omega
  have hl2 : T < w.heap.size + 1 + 1 := by omega
  have hn1 : ¬ T = w.heap.size := by omega
  have hn2 : ¬ T = w.heap.size + 1 := by omega
  go_wp2
  go_region_law (fail)
  all_goals
    go_end0
    refine ⟨rfl, w.heap.size + 1 + 1, (Question.appendCap 1 0 92).cut (w.tape (w.drawn + 1) (Question.appendCap 1 0 92)), by omega, ?_, ⟨⟨?_, ?_⟩, by simp⟩, ?_⟩
    · exact HasB.drew (HasB.drew (HasB.alloc (HasB.alloc (HasB.alloc (tell6 H _) _) _) _))
    · exact (HasB.cell (HasB.drew (HasB.drew (HasB.new3 (by simp)))) 0).trans (two_app0 _ _ _)
    · exact (HasB.cell (HasB.drew (HasB.drew (HasB.new3 (by simp)))) 1).trans (two_app1 _ _ _)
    · exact But.drew (But.drew (But.alloc (But.alloc (But.alloc (But.set (But.refl T w) _ _ (.inl rfl)) _) _) _))

theorem queue_next (T m : Nat) (ba buf : Value) (nm : Nat) (c0 n : Int) (g c : Nat) (w : World) (H : TellAt w T m ba buf nm c0 (.slice (some ⟨g, 0, none⟩) 1 c) 0) (hg : OneThing w g n) :
    Calls Tryz.prog 51 #[.pointer (some ⟨T, 6, none⟩)] w fun e w' => e = .returned (.tuple #[.agg #[.bool false, .int .i64 n], .bool true]) ∧ TellAt w' T m ba buf nm c0 (.slice (some ⟨g, 0, none⟩) 1 c) 1 ∧ But T w w' := by
  obtain ⟨⟨q0, q1, q2, q3, q4, q5, q6, q7⟩, qf⟩ := HasB.eight H
  obtain ⟨⟨p0, p1⟩, p2⟩ := hg
  have hlt := HasB.lt H
  go_enter Tryz.func51, Tryz.ntmps51
  have hn1 : ¬ T = w.heap.size := by omega
  go_wp2
  go_quiet (fail)
  go_wp2
  have hA : HasB (((w.alloc (.cells #[.bool false, .int .i64 0] 92)).drewN nq).setCell ⟨T, 7, none⟩ (.int .i64 1)) w.heap.size #[.bool false, .int .i64 0] 92 := HasB.far (w := (w.alloc (.cells #[.bool false, .int .i64 0] 92)).drewN nq) (HasB.new w #[.bool false, .int .i64 0] 92) (by simp; omega) _
  have hT : TellAt (((w.alloc (.cells #[.bool false, .int .i64 0] 92)).drewN nq).setCell ⟨T, 7, none⟩ (.int .i64 1)) T m ba buf nm c0 (.slice (some ⟨g, 0, none⟩) 1 c) 1 := tell7 (w := (w.alloc (.cells #[.bool false, .int .i64 0] 92)).drewN nq) (HasB.alloc H _) 1
  have hb0 : But T w ((w.alloc (.cells #[.bool false, .int .i64 0] 92)).drewN nq) := ⟨rfl, rfl, rfl, by show w.heap.size ≤ (w.alloc _).heap.size; simp, fun k hk _ => Below.heap_alloc w _ k hk⟩
  have hb : But T w (((w.alloc (.cells #[.bool false, .int .i64 0] 92)).drewN nq).setCell ⟨T, 7, none⟩ (.int .i64 1)) := hb0.set _ _ (.inl rfl)
  revert hA hT hb
  generalize (((w.alloc (.cells #[.bool false, .int .i64 0] 92)).drewN nq).setCell ⟨T, 7, none⟩ (.int .i64 1)) = w1
  intro hA hT hb
  have hgT : g ≠ T := by
    rintro rfl
    have := q0.symm.trans p0
    simp at this
  have r0 : w1.cell? ⟨g, 0, none⟩ = some (.bool false) := hb.cell p0 hgT
  have r1 : w1.cell? ⟨g, 1, none⟩ = some (.int .i64 n) := hb.cell p1 hgT
  have s6 : w1.cell? ⟨T, 6, none⟩ = some (.slice (some ⟨g, 0, none⟩) 1 c) := HasB.cell hT 6
  have s7 : w1.cell? ⟨T, 7, none⟩ = some (.int .i64 1) := HasB.cell hT 7
  have u0 : w1.cell? ⟨w.heap.size, 0, none⟩ = some (.bool false) := HasB.cell hA 0
  have u1 : w1.cell? ⟨w.heap.size, 1, none⟩ = some (.int .i64 0) := HasB.cell hA 1
  have uf := HasB.free hA
  clear q0 q1 q2 q3 q4 q5 q6 q7 qf p0 p1
  have hw0 : IntKind.i64.wrap 0 = 0 := by decide
  go_region_law (fail)
  all_goals go_wp2
  all_goals
    refine bodyPost_ret (v := .tuple #[.agg #[.bool false, .int .i64 n], .bool true]) (by simp [results, Tryz.results51, go_sem, Act.put, u0, u1]) rfl ⟨rfl, ?_, ?_⟩
    · exact HasB.drew (HasB.far (HasB.far hT (by simp; omega) _) (by simp; omega) _)
    · exact But.drew (But.set (But.set hb _ _ (.inr (Nat.le_refl _))) _ _ (.inr (Nat.le_refl _)))
theorem queue_none (T m : Nat) (ba buf : Value) (nm : Nat) (c0 : Int) (g c : Nat) (w : World) (H : TellAt w T m ba buf nm c0 (.slice (some ⟨g, 0, none⟩) 1 c) 1) :
    Calls Tryz.prog 51 #[.pointer (some ⟨T, 6, none⟩)] w fun e w' => e = .returned (.tuple #[.agg #[.bool false, .int .i64 0], .bool false]) ∧ Below w.heap.size w w' := by
  obtain ⟨⟨q0, q1, q2, q3, q4, q5, q6, q7⟩, qf⟩ := HasB.eight H
  have hlt := HasB.lt H
  go_enter Tryz.func51, Tryz.ntmps51
  have hn1 : ¬ T = w.heap.size := by omega
  go_wp2
  go_quiet (fail)
  go_wp2
  all_goals
    refine bodyPost_ret (v := .tuple #[.agg #[.bool false, .int .i64 0], .bool false]) (by simp [results, Tryz.results51, go_sem]) rfl ⟨rfl, ?_⟩
    have hbase : ∀ o, Below w.heap.size w ((w.alloc o).drewN nq) := fun o => below_drawn ((Below.refl _ w).alloc (Nat.le_refl _) _)
    exact Below.alloc (((hbase _).setCell (p := ⟨w.heap.size, 0, none⟩) (Nat.le_refl _) _).setCell (p := ⟨w.heap.size, 1, none⟩) (Nat.le_refl _) _) (by simp) _

theorem teller_heap (T m : Nat) (ba buf : Value) (nm : Nat) (c0 : Int) (wl : Value) (at_ : Int) {f c ch d left : Int} {over : Bool} {heap : Nat} {envs codes natives body known draws : Value} {drawn calls : Int} (w : World)
    (H : TellAt w T m ba buf nm c0 wl at_) (M : MachAt w m f c ch d left over heap envs codes natives body known draws drawn calls) :
    Calls Tryz.prog 84 #[.pointer (some ⟨T, 0, none⟩)] w fun e w' => e = .returned (.pointer (some ⟨heap, 0, none⟩)) ∧ w = w' := by
  have HM := Machine_Heap M
  obtain ⟨⟨q0, q1, q2, q3, q4, q5, q6, q7⟩, qf⟩ := HasB.eight H
  clear M
  go_enter Tryz.func84, Tryz.ntmps84
  go_wp2_with (go_at_call 48; refine HM.mono ?_; rintro e w' ⟨rfl, rfl⟩)
  go_ret
  exact ⟨rfl, rfl⟩
end Go.Proofs.YtelgobelbeabaaaGreatDoor
namespace Go.Proofs.YtelgobelbeabaaaGreatDoor
open Go.RowKit

/-- The key of an object's name. -/
abbrev thing (n : Int) : Value := .agg #[.bool false, .int .i64 n]
theorem check_thing (e : Bool) (w : World) : (Instr.checkKey e 10000 92 (thing 0)).run Tryz.prog w = .ok () w := by
  cases e <;> kernel_rfl
theorem equal_thing (w : World) : (Op.equal 92 (thing 0) (thing 0)).run Tryz.prog w = .ok true w := by kernel_rfl
theorem find_none (w : World) : (Instr.findKey 92 (thing 0) []).run Tryz.prog w = .ok none w := by kernel_rfl
theorem find_one (w : World) (v : Value) (b : Nat) : (Instr.findKey 92 (thing 0) [{ key := thing 0, val := v, born := b }]).run Tryz.prog w = .ok (some (0, v)) w := by
  kernel_rfl
theorem zero_int (w : World) : (zeroValue 3).run Tryz.prog w = .ok (.int .i64 0) w := by kernel_rfl

theorem look_none (nm : Nat) (w : World) (hb : w.heap[nm]? = some (.map #[] 0)) : (Instr.lookup 79 (.map (some nm)) (thing 0) true).run Tryz.prog w = .ok (.tuple #[.int .i64 0, .bool false]) w := by
  simp [Instr.lookup, run_underlying Tryz.underlying79, MapKept.run_getObj_map hb, check_thing, find_none, Result.andThen]
theorem look_one (nm : Nat) (v : Value) (b c : Nat) (w : World) (hb : w.heap[nm]? = some (.map #[{ key := thing 0, val := v, born := b }] c)) : (Instr.lookup 79 (.map (some nm)) (thing 0) true).run Tryz.prog w = .ok (.tuple #[v, .bool true]) w := by
  simp [Instr.lookup, run_underlying Tryz.underlying79, MapKept.run_getObj_map hb, check_thing, find_one, Result.andThen]
/-- A map's block, laid anew. -/
def mapSet (w : World) (nm : Nat) (o : Obj) : World := { w with heap := w.heap.setIfInBounds nm o }
theorem mapSet_block (w : World) (nm : Nat) (o : Obj) (k : Nat) (h : k ≠ nm) : (mapSet w nm o).heap[k]? = w.heap[k]? := by
  unfold mapSet
  simp [Ne.symm h]
theorem mapSet_at (w : World) (nm : Nat) (o o' : Obj) (h : w.heap[nm]? = some o') : (mapSet w nm o).heap[nm]? = some o := by
  have hl := (Array.getElem?_eq_some_iff.1 h).1
  unfold mapSet
  simp [hl]
theorem mapSet_size (w : World) (nm : Nat) (o : Obj) : (mapSet w nm o).heap.size = w.heap.size := by
  unfold mapSet
  simp
theorem update_none (nm : Nat) (v : Value) (w : World) (hb : w.heap[nm]? = some (.map #[] 0)) :
    (Instr.mapUpdate 79 (.map (some nm)) (thing 0) v).run Tryz.prog w = .ok () (mapSet w nm (.map #[{ key := thing 0, val := v, born := 0 }] 1)) := by
  simp [Instr.mapUpdate, run_underlying Tryz.underlying79, MapKept.run_getObj_map hb, check_thing, find_none, MapKept.run_setObj_map _ hb, Result.andThen, mapSet]
theorem HasB.mapSet {w : World} {b : Nat} {cs : Array Value} {t : TypeId} (h : HasB w b cs t) {nm : Nat} (hne : b ≠ nm) (o : Obj) : HasB (mapSet w nm o) b cs t := (mapSet_block w nm o b hne).trans h
theorem cells_ne_map {w : World} {b nm : Nat} {cs : Array Value} {t : TypeId} {es : Array MapEntry} {c : Nat} (h : HasB w b cs t) (hn : w.heap[nm]? = some (.map es c)) : b ≠ nm := by
  rintro rfl
  have := h.symm.trans hn
  cases this
end Go.Proofs.YtelgobelbeabaaaGreatDoor
namespace Go.Proofs.YtelgobelbeabaaaGreatDoor
open Go.RowKit

theorem Rest.mapSet {S : Nat → Prop} {w w' : World} (x : Rest S w w') {nm : Nat} (h : S nm) (o : Obj) : Rest S w (mapSet w' nm o) :=
  ⟨x.os, x.tape, x.output, Nat.le_trans x.size (Nat.le_of_eq (mapSet_size w' nm o).symm), fun k hk hn => (mapSet_block w' nm o k (fun e => hn (e ▸ h))).trans (x.block k hk hn)⟩
theorem Itoa0 (w : World) : Calls Tryz.prog 88 #[.int .i64 0] w fun e w' => e = .returned (.string ⟨#[48]⟩) ∧ w = w' := by
  refine (strconv_Itoa_small 0 (by decide) w).mono ?_
  rintro e w' ⟨rfl, rfl⟩
  have hd : Lib.decDigits 0 = [48] := by first | decide | kernel_rfl | simp [Lib.decDigits]
  rw [hd]
  exact ⟨rfl, rfl⟩

set_option maxRecDepth 200000 in
theorem teller_name_new (T m : Nat) (ba buf : Value) (nm : Nat) {f c ch d left : Int} {over : Bool} {h : Nat} {envs codes natives body known draws : Value} {drawn calls : Int} (a : Option Addr) (n cp : Nat) (room used : Int) (w : World)
    (H : TellAt w T m ba buf nm 0 (.slice none 0 0) 0) (M : MachAt w m f c ch d left over h envs codes natives body known draws drawn calls) (hH : HeapAt w h (.slice a n cp) room used) (hn : 0 < n) (hnm : w.heap[nm]? = some (.map #[] 0)) :
    Calls Tryz.prog 53 #[.pointer (some ⟨T, 0, none⟩), thing 0] w fun e w' => e = .returned (.string ⟨#[35, 48]⟩) ∧
      ∃ g cc, w.heap.size ≤ g ∧ TellAt w' T m ba buf nm 1 (.slice (some ⟨g, 0, none⟩) 1 cc) 0 ∧ OneThing w' g 0 ∧ w'.heap[nm]? = some (.map #[{ key := thing 0, val := .int .i64 0, born := 0 }] 1) ∧ Rest (fun k => k = T ∨ k = nm) w w' := by
  have HT := fun w H M => teller_heap T m ba buf nm 0 (.slice none 0 0) 0 (f := f) (c := c) (ch := ch) (d := d) (left := left) (over := over) (heap := h) (envs := envs) (codes := codes) (natives := natives) (body := body) (known := known) (draws := draws) (drawn := drawn) (calls := calls) w H M
  have HL := fun w hH => Heap_Len h a n cp room used w hH
  obtain ⟨⟨q0, q1, q2, q3, q4, q5, q6, q7⟩, qf⟩ := HasB.eight H
  have hlt := HasB.lt H
  go_enter Tryz.func53, Tryz.ntmps53
  go_wp2_with fail
  have hX0 : HasB (w.alloc (.cells #[.bool false, .int .i64 0] 92)) w.heap.size #[.bool false, .int .i64 0] 92 := HasB.new w _ _
  have hT0 : TellAt (w.alloc (.cells #[.bool false, .int .i64 0] 92)) T m ba buf nm 0 (.slice none 0 0) 0 := HasB.alloc H _
  have hM0 : MachAt (w.alloc (.cells #[.bool false, .int .i64 0] 92)) m f c ch d left over h envs codes natives body known draws drawn calls := HasB.alloc M _
  have hH0 : HeapAt (w.alloc (.cells #[.bool false, .int .i64 0] 92)) h (.slice a n cp) room used := HasB.alloc hH _
  have hln : nm < w.heap.size := (Array.getElem?_eq_some_iff.1 hnm).1
  have hn0 : (w.alloc (.cells #[.bool false, .int .i64 0] 92)).heap[nm]? = some (.map #[] 0) := (Below.heap_alloc w _ nm hln).trans hnm
  have hb0 : Below w.heap.size w (w.alloc (.cells #[.bool false, .int .i64 0] 92)) := (Below.refl _ w).alloc (Nat.le_refl _) _
  have hls : w.heap.size < (w.alloc (.cells #[.bool false, .int .i64 0] 92)).heap.size := by simp
  revert hX0 hT0 hM0 hH0 hn0 hb0 hls
  generalize w.alloc (.cells #[.bool false, .int .i64 0] 92) = w0
  intro hX0 hT0 hM0 hH0 hn0 hb0 hls
  clear q0 q1 q2 q3 q4 q5 q6 q7 qf
  obtain ⟨⟨q0, q1, q2, q3, q4, q5, q6, q7⟩, qf⟩ := HasB.eight hT0
  have p0 : w0.cell? ⟨w.heap.size, 0, none⟩ = some (.bool false) := HasB.cell hX0 0
  have p1 : w0.cell? ⟨w.heap.size, 1, none⟩ = some (.int .i64 0) := HasB.cell hX0 1
  go_region_held3 (fun w' => w'.cell? ⟨w.heap.size, 1, none⟩ = some (.int .i64 0) ∧ TellAt w' T m ba buf nm 0 (.slice none 0 0) 0 ∧ MachAt w' m f c ch d left over h envs codes natives body known draws drawn calls ∧ HeapAt w' h (.slice a n cp) room used)
    (first
      | (refine ⟨?_, ?_, ?_, ?_⟩ <;> first | exact HasB.drew hT0 | exact HasB.drew hM0 | exact HasB.drew hH0 | assumption)
      | (go_split_ands; refine ⟨?_, ?_, ?_, ?_⟩ <;> assumption))
    (first
      | (go_at_call 84; refine (HT _ (HasB.drew hT0) (HasB.drew hM0)).mono ?_; rintro e w' ⟨rfl, rfl⟩)
      | (go_at_call 85; refine (HL _ (HasB.drew hH0)).mono ?_; rintro e w' ⟨rfl, rfl⟩))
  rename_i hS
  obtain ⟨-, hT1, hM1, hH1⟩ := hS
  go_wp2_with fail
  have hX1 := HasB.drew hX0
  have hn1 : w0.drew.heap[nm]? = some (.map #[] 0) := hn0
  have hb1 := hb0.drew
  have hls1 : w.heap.size < w0.drew.heap.size := hls
  clear hX0 hT0 hM0 hH0 hn0 hb0 hls q0 q1 q2 q3 q4 q5 q6 q7 qf p0 p1
  revert hX1 hT1 hM1 hH1 hn1 hb1 hls1
  generalize w0.drew = w1
  intro hT1 hM1 hH1 hX1 hn1 hb1 hls1
  obtain ⟨⟨q0, q1, q2, q3, q4, q5, q6, q7⟩, qf⟩ := HasB.eight hT1
  have p0 : w1.cell? ⟨w.heap.size, 0, none⟩ = some (.bool false) := HasB.cell hX1 0
  have p1 : w1.cell? ⟨w.heap.size, 1, none⟩ = some (.int .i64 0) := HasB.cell hX1 1
  have hk1 := look_none nm w1 hn1
  have hk2 := look_none nm w1.drew hn1
  go_region_held3 (fun w' => (w'.cell? ⟨w.heap.size, 0, none⟩ = some (.bool false) ∧ w'.cell? ⟨w.heap.size, 1, none⟩ = some (.int .i64 0)) ∧ w'.cell? ⟨T, 3, none⟩ = some (.map (some nm)) ∧ (Instr.lookup 79 (.map (some nm)) (thing 0) true).run Tryz.prog w' = .ok (.tuple #[.int .i64 0, .bool false]) w')
    (first
      | (refine ⟨⟨?_, ?_⟩, ?_, ?_⟩ <;> assumption)
      | (go_split_ands; refine ⟨⟨?_, ?_⟩, ?_, ?_⟩ <;> assumption))
    (fail)
  clear hk1 hk2
  go_wp2_with fail
  have hw1 : IntKind.i64.wrap 1 = 1 := by decide
  go_region_law (fail)
  have hTX : w.heap.size ≠ T := by omega
  have hTn : T ≠ nm := cells_ne_map hT1 hn1
  have hXn : w.heap.size ≠ nm := cells_ne_map hX1 hn1
  have hT2 : TellAt (w1.setCell ⟨T, 4, none⟩ (.int .i64 1)).drew.drew T m ba buf nm 1 (.slice none 0 0) 0 := HasB.drew (HasB.drew (tell4 hT1 1))
  have hX2 : HasB (w1.setCell ⟨T, 4, none⟩ (.int .i64 1)).drew.drew w.heap.size #[.bool false, .int .i64 0] 92 := HasB.drew (HasB.drew (HasB.far hX1 hTX _))
  have hn2 : (w1.setCell ⟨T, 4, none⟩ (.int .i64 1)).drew.drew.heap[nm]? = some (.map #[] 0) := (Below.heap_setCell w1 ⟨T, 4, none⟩ (.int .i64 1) nm (Ne.symm hTn)).trans hn1
  have hb2 : Rest (fun k => k = T ∨ k = nm) w (w1.setCell ⟨T, 4, none⟩ (.int .i64 1)).drew.drew :=
    Rest.trans (Rest.of hb1) (Rest.ofBut (((But.refl T w1).set ⟨T, 4, none⟩ (.int .i64 1) (.inl rfl)).drew.drew) (.inl rfl))
  clear q0 q1 q2 q3 q4 q5 q6 q7 qf p0 p1 hX1 hT1 hn1 hb1 hM1 hH1 hls1
  go_wp2_with fail
  revert hT2 hX2 hn2 hb2
  generalize (w1.setCell ⟨T, 4, none⟩ (.int .i64 1)).drew.drew = w2
  intro hT2 hX2 hn2 hb2
  have q3 : w2.cell? ⟨T, 3, none⟩ = some (.map (some nm)) := HasB.cell hT2 3
  have p0 : w2.cell? ⟨w.heap.size, 0, none⟩ = some (.bool false) := HasB.cell hX2 0
  have p1 : w2.cell? ⟨w.heap.size, 1, none⟩ = some (.int .i64 0) := HasB.cell hX2 1
  have hu := update_none nm (.int .i64 0) w2.drew hn2
  go_region_law (fail)
  all_goals (
    have hT3 : TellAt (mapSet w2.drew nm (.map #[{ key := thing 0, val := .int .i64 0, born := 0 }] 1)) T m ba buf nm 1 (.slice none 0 0) 0 := HasB.mapSet (HasB.drew hT2) hTn _
    have hX3 : HasB (mapSet w2.drew nm (.map #[{ key := thing 0, val := .int .i64 0, born := 0 }] 1)) w.heap.size #[.bool false, .int .i64 0] 92 := HasB.mapSet (HasB.drew hX2) hXn _
    have hn3 : (mapSet w2.drew nm (.map #[{ key := thing 0, val := .int .i64 0, born := 0 }] 1)).heap[nm]? = some (.map #[{ key := thing 0, val := .int .i64 0, born := 0 }] 1) := mapSet_at _ nm _ _ hn2
    have hb3 : Rest (fun k => k = T ∨ k = nm) w (mapSet w2.drew nm (.map #[{ key := thing 0, val := .int .i64 0, born := 0 }] 1)) := Rest.mapSet (Rest.drew hb2) (.inr rfl) _
    clear hT2 hX2 hn2 hb2 q3 p0 p1 hu
    revert hT3 hX3 hn3 hb3
    generalize mapSet w2.drew nm (.map #[{ key := thing 0, val := .int .i64 0, born := 0 }] 1) = w3
    intro hT3 hX3 hn3 hb3
    have p0 : w3.cell? ⟨w.heap.size, 0, none⟩ = some (.bool false) := HasB.cell hX3 0
    have p1 : w3.cell? ⟨w.heap.size, 1, none⟩ = some (.int .i64 0) := HasB.cell hX3 1
    go_wp2_with fail
    go_region_law (go_simp; go_at_call 87; refine (queue_put T m ba buf nm 1 0 w3.drew (HasB.drew hT3)).mono ?_; rintro e w4 ⟨rfl, g, cc, hg4, hT4, hO4, hB4⟩)
    all_goals go_wp2_with (go_at_call 88; refine (Itoa0 _).mono ?_; rintro e w' ⟨rfl, rfl⟩)
    all_goals (
      have hl3 : nm < w3.heap.size := (Array.getElem?_eq_some_iff.1 hn3).1
      have hfin : w4.heap[nm]? = some (.map #[{ key := thing 0, val := .int .i64 0, born := 0 }] 1) := (hB4.block nm hl3 (Ne.symm hTn)).trans hn3
      have hsz := hb3.size
      have hg5 : w3.heap.size ≤ g := hg4
      have hbf := Rest.trans (Rest.drew hb3) (Rest.ofBut hB4 (.inl rfl))
      go_ret
      exact ⟨rfl, g, cc, by omega, hT4, hO4, hfin, hbf⟩))
end Go.Proofs.YtelgobelbeabaaaGreatDoor
namespace Go.Proofs.YtelgobelbeabaaaGreatDoor
open Go.RowKit

set_option maxRecDepth 200000 in
theorem teller_name_old (T m : Nat) (ba buf : Value) (nm : Nat) (wl : Value) (at_ : Int) {f c ch d left : Int} {over : Bool} {h : Nat} {envs codes natives body known draws : Value} {drawn calls : Int} (a : Option Addr) (n cp : Nat) (room used : Int) (w : World)
    (H : TellAt w T m ba buf nm 1 wl at_) (M : MachAt w m f c ch d left over h envs codes natives body known draws drawn calls) (hH : HeapAt w h (.slice a n cp) room used) (hn : 0 < n) (hnm : w.heap[nm]? = some (.map #[{ key := thing 0, val := .int .i64 0, born := 0 }] 1)) :
    Calls Tryz.prog 53 #[.pointer (some ⟨T, 0, none⟩), thing 0] w fun e w' => e = .returned (.string ⟨#[35, 48]⟩) ∧
      Below w.heap.size w w' := by
  have HT := fun w H M => teller_heap T m ba buf nm 1 wl at_ (f := f) (c := c) (ch := ch) (d := d) (left := left) (over := over) (heap := h) (envs := envs) (codes := codes) (natives := natives) (body := body) (known := known) (draws := draws) (drawn := drawn) (calls := calls) w H M
  have HL := fun w hH => Heap_Len h a n cp room used w hH
  obtain ⟨⟨q0, q1, q2, q3, q4, q5, q6, q7⟩, qf⟩ := HasB.eight H
  have hlt := HasB.lt H
  go_enter Tryz.func53, Tryz.ntmps53
  go_wp2_with fail
  have hX0 : HasB (w.alloc (.cells #[.bool false, .int .i64 0] 92)) w.heap.size #[.bool false, .int .i64 0] 92 := HasB.new w _ _
  have hT0 : TellAt (w.alloc (.cells #[.bool false, .int .i64 0] 92)) T m ba buf nm 1 wl at_ := HasB.alloc H _
  have hM0 : MachAt (w.alloc (.cells #[.bool false, .int .i64 0] 92)) m f c ch d left over h envs codes natives body known draws drawn calls := HasB.alloc M _
  have hH0 : HeapAt (w.alloc (.cells #[.bool false, .int .i64 0] 92)) h (.slice a n cp) room used := HasB.alloc hH _
  have hln : nm < w.heap.size := (Array.getElem?_eq_some_iff.1 hnm).1
  have hn0 : (w.alloc (.cells #[.bool false, .int .i64 0] 92)).heap[nm]? = some (.map #[{ key := thing 0, val := .int .i64 0, born := 0 }] 1) := (Below.heap_alloc w _ nm hln).trans hnm
  have hb0 : Below w.heap.size w (w.alloc (.cells #[.bool false, .int .i64 0] 92)) := (Below.refl _ w).alloc (Nat.le_refl _) _
  have hls : w.heap.size < (w.alloc (.cells #[.bool false, .int .i64 0] 92)).heap.size := by simp
  revert hX0 hT0 hM0 hH0 hn0 hb0 hls
  generalize w.alloc (.cells #[.bool false, .int .i64 0] 92) = w0
  intro hX0 hT0 hM0 hH0 hn0 hb0 hls
  clear q0 q1 q2 q3 q4 q5 q6 q7 qf
  obtain ⟨⟨q0, q1, q2, q3, q4, q5, q6, q7⟩, qf⟩ := HasB.eight hT0
  have p0 : w0.cell? ⟨w.heap.size, 0, none⟩ = some (.bool false) := HasB.cell hX0 0
  have p1 : w0.cell? ⟨w.heap.size, 1, none⟩ = some (.int .i64 0) := HasB.cell hX0 1
  go_region_held3 (fun w' => w'.cell? ⟨w.heap.size, 1, none⟩ = some (.int .i64 0) ∧ TellAt w' T m ba buf nm 1 wl at_ ∧ MachAt w' m f c ch d left over h envs codes natives body known draws drawn calls ∧ HeapAt w' h (.slice a n cp) room used)
    (first
      | (refine ⟨?_, ?_, ?_, ?_⟩ <;> first | exact HasB.drew hT0 | exact HasB.drew hM0 | exact HasB.drew hH0 | assumption)
      | (go_split_ands; refine ⟨?_, ?_, ?_, ?_⟩ <;> assumption))
    (first
      | (go_at_call 84; refine (HT _ (HasB.drew hT0) (HasB.drew hM0)).mono ?_; rintro e w' ⟨rfl, rfl⟩)
      | (go_at_call 85; refine (HL _ (HasB.drew hH0)).mono ?_; rintro e w' ⟨rfl, rfl⟩))
  rename_i hS
  obtain ⟨-, hT1, hM1, hH1⟩ := hS
  go_wp2_with fail
  have hX1 := HasB.drew hX0
  have hn1 : w0.drew.heap[nm]? = some (.map #[{ key := thing 0, val := .int .i64 0, born := 0 }] 1) := hn0
  have hb1 := hb0.drew
  have hls1 : w.heap.size < w0.drew.heap.size := hls
  clear hX0 hT0 hM0 hH0 hn0 hb0 hls q0 q1 q2 q3 q4 q5 q6 q7 qf p0 p1
  revert hX1 hT1 hM1 hH1 hn1 hb1 hls1
  generalize w0.drew = w1
  intro hT1 hM1 hH1 hX1 hn1 hb1 hls1
  obtain ⟨⟨q0, q1, q2, q3, q4, q5, q6, q7⟩, qf⟩ := HasB.eight hT1
  have p0 : w1.cell? ⟨w.heap.size, 0, none⟩ = some (.bool false) := HasB.cell hX1 0
  have p1 : w1.cell? ⟨w.heap.size, 1, none⟩ = some (.int .i64 0) := HasB.cell hX1 1
  have hk1 := look_one nm (.int .i64 0) 0 1 w1 hn1
  have hk2 := look_one nm (.int .i64 0) 0 1 w1.drew hn1
  go_region_held3 (fun w' => (w'.cell? ⟨w.heap.size, 0, none⟩ = some (.bool false) ∧ w'.cell? ⟨w.heap.size, 1, none⟩ = some (.int .i64 0)) ∧ w'.cell? ⟨T, 3, none⟩ = some (.map (some nm)) ∧ (Instr.lookup 79 (.map (some nm)) (thing 0) true).run Tryz.prog w' = .ok (.tuple #[.int .i64 0, .bool true]) w')
    (first
      | (refine ⟨⟨?_, ?_⟩, ?_, ?_⟩ <;> assumption)
      | (go_split_ands; refine ⟨⟨?_, ?_⟩, ?_, ?_⟩ <;> assumption))
    (fail)
  clear hk1 hk2
  go_wp2_with (go_at_call 88; refine (Itoa0 _).mono ?_; rintro e w' ⟨rfl, rfl⟩)
  go_ret
  exact ⟨rfl, hb1.drew⟩
end Go.Proofs.YtelgobelbeabaaaGreatDoor
namespace Go.Proofs.YtelgobelbeabaaaGreatDoor
open Go.RowKit

theorem class_Object (w : World) : Calls Tryz.prog 121 #[.int .i64 1] w fun e w' => e = .returned (.string ⟨#[79, 98, 106, 101, 99, 116]⟩) ∧ Below w.heap.size w w' := by
  go_enter Tryz.func121, Tryz.ntmps121
  go_wp2
  go_ret
  exact ⟨rfl, by go_grown⟩

theorem words_of_block {w : World} {b : Nat} {t : TypeId} {xs : List ByteArray} (h : HasB w b (xs.map Value.string).toArray t) : WordsAt w b 0 xs := by
  refine ⟨h.lt, fun j x hx => ?_⟩
  rw [Nat.zero_add, h.cell j]
  simp [hx]

set_option maxRecDepth 200000 in
theorem teller_head (T : Nat) (name : ByteArray) (b1 b2 : Nat) (w : World) :
    Calls Tryz.prog 90 #[.pointer (some ⟨T, 0, none⟩), .string name, obj1 1 (-1) 0 b1 b2] w fun e w' => (∃ g c, e = .returned (.slice (some ⟨g, 0, none⟩) 3 c) ∧ 3 ≤ c ∧ WordsAt w' g 0 [name, ⟨#[79, 98, 106, 101, 99, 116]⟩, ⟨#[110, 117, 108, 108]⟩]) ∧ Below w.heap.size w w' := by
  go_enter Tryz.func90, Tryz.ntmps90
  go_wp2_with fail
  refine (class_Object _).mono ?_
  rintro e w1 ⟨rfl, k⟩
  have HO := (HasB.new w (#[.int .i64 1, .int .i64 (-1), .bool false, .slice (some ⟨b2, 0, none⟩) 0 0, .int .i64 0, .bool false, .float .f64 0, .string ⟨#[]⟩, .int .i64 0, .int .i64 0, .int .i64 0, .int .i64 0, .slice (some ⟨b1, 0, none⟩) 0 0]) 46).below k
  obtain ⟨⟨p0, p1, p2, p3, p4, p5, p6⟩, p7, p8, p9, p10, p11, p12, pf⟩ := HO.obj
  have hlo := HO.lt
  have hb1 : Below w.heap.size w w1 := below_via k ((Below.refl _ w).alloc (Nat.le_refl _) _) (by simp)
  have HB1 := Lib.hid hb1
  clear k HO hb1
  go_wp2_with fail
  go_ret
  exact ⟨⟨w1.heap.size, 3, rfl, by decide, words_of_block (HasB.new w1 _ _)⟩, HB1.out.alloc (by omega) _⟩

set_option maxRecDepth 200000 in
theorem teller_value (T m : Nat) (ba buf : Value) (nm : Nat) {f c ch d left : Int} {over : Bool} {h : Nat} {envs codes natives body known draws : Value} {drawn calls : Int} (a : Option Addr) (n cp : Nat) (room used : Int) (w : World)
    (H : TellAt w T m ba buf nm 0 (.slice none 0 0) 0) (M : MachAt w m f c ch d left over h envs codes natives body known draws drawn calls) (hH : HeapAt w h (.slice a n cp) room used) (hn : 0 < n) (hnm : w.heap[nm]? = some (.map #[] 0)) :
    Calls Tryz.prog 49 #[.pointer (some ⟨T, 0, none⟩), val 5 false 0 ⟨#[]⟩ 0] w fun e w' => e = .returned (.string ⟨#[35, 48]⟩) ∧
      ∃ g cc, w.heap.size ≤ g ∧ TellAt w' T m ba buf nm 1 (.slice (some ⟨g, 0, none⟩) 1 cc) 0 ∧ OneThing w' g 0 ∧ w'.heap[nm]? = some (.map #[{ key := thing 0, val := .int .i64 0, born := 0 }] 1) ∧ Rest (fun k => k = T ∨ k = nm) w w' := by
  have hln : nm < w.heap.size := (Array.getElem?_eq_some_iff.1 hnm).1
  have HN := fun w H M hH hnm => teller_name_new T m ba buf nm (f := f) (c := c) (ch := ch) (d := d) (left := left) (over := over) (h := h) (envs := envs) (codes := codes) (natives := natives) (body := body) (known := known) (draws := draws) (drawn := drawn) (calls := calls) a n cp room used w H M hH hn hnm
  go_enter Tryz.func49, Tryz.ntmps49
  go_wp2_with fail
  refine (HN (w.alloc (.cells #[.int .i64 5, .bool false, .float .f64 0, .string ⟨#[]⟩, .int .i64 0] 24)) (HasB.alloc H _) (HasB.alloc M _) (HasB.alloc hH _) ((Below.heap_alloc w _ nm hln).trans hnm)).mono ?_
  rintro e w1 ⟨rfl, g, cc, hg, hT, hO, hn1, hR⟩
  have hR0 := Rest.trans (Rest.of (S := fun k => k = T ∨ k = nm) ((Below.refl w.heap.size w).alloc (Nat.le_refl _) (.cells #[.int .i64 5, .bool false, .float .f64 0, .string ⟨#[]⟩, .int .i64 0] 24))) hR
  have hg2 : w.heap.size ≤ g := by simp at hg; omega
  clear hR
  go_wp2_with fail
  go_ret
  exact ⟨rfl, g, cc, hg2, hT, hO, hn1, hR0⟩
end Go.Proofs.YtelgobelbeabaaaGreatDoor
namespace Go.Proofs.YtelgobelbeabaaaGreatDoor
open Go.RowKit

/-- What is told of the object. -/
def told : List UInt8 := joined [⟨#[35, 48]⟩, ⟨#[79, 98, 106, 101, 99, 116]⟩, ⟨#[110, 117, 108, 108]⟩] ++ joined [⟨#[10]⟩]

set_option maxRecDepth 200000 in
theorem teller_object (T m : Nat) (ba buf : Value) (nm : Nat) (c0 : Int) (wl : Value) (at_ : Int) (B : Nat) (l : List UInt8) {f c ch d left : Int} {over : Bool} {h : Nat} {envs codes natives body known draws : Value} {drawn calls : Int} {B' : Nat} {room used : Int} (w : World)
    (H : TellAt w T m ba buf nm c0 wl at_) (hW : Wrote w T ba buf B l) (hT : T < B) (hB : B ≤ w.heap.size) (M : MachAt w m f c ch d left over h envs codes natives body known draws drawn calls) (hO : OneObj w h B' 1 0 room used) (hl : l.length ≤ 50000) :
    Calls Tryz.prog 54 #[.pointer (some ⟨T, 0, none⟩), .string ⟨#[35, 48]⟩, .int .i64 0] w fun e w' => e = .returned (.tuple #[]) ∧ ∃ buf', TellAt w' T m (.pointer (some ⟨T, 1, none⟩)) buf' nm c0 wl at_ ∧ Wrote w' T (.pointer (some ⟨T, 1, none⟩)) buf' B (l ++ told) ∧ ButB T B w w' ∧ ∀ (b : Nat) (cs : Array Value) (t : TypeId), HasB w b cs t → t ≠ 5 → b ≠ T → HasB w' b cs t := by
  have HH := teller_heap T m ba buf nm c0 wl at_ w H M
  have HO := Heap_Object hO
  go_enter Tryz.func54, Tryz.ntmps54
  go_wp2_with (first
    | (go_at_call 84; refine HH.mono ?_; rintro e w' ⟨rfl, rfl⟩)
    | (go_at_call 89; refine HO.mono ?_; rintro e w1 ⟨⟨b1, b2, rfl⟩, k⟩))
  refine (teller_head T ⟨#[35, 48]⟩ b1 b2 _).mono ?_
  rintro e w2 ⟨⟨g, cp, rfl, hcp, hWd⟩, k2⟩
  have HX := (HasB.new w1 (#[.int .i64 1, .int .i64 (-1), .bool false, .slice (some ⟨b2, 0, none⟩) 0 0, .int .i64 0, .bool false, .float .f64 0, .string ⟨#[]⟩, .int .i64 0, .int .i64 0, .int .i64 0, .int .i64 0, .slice (some ⟨b1, 0, none⟩) 0 0]) 46).below k2
  have hk : Below w.heap.size w w2 := below_via k2 (k.alloc (by have := k.size; omega) _) (by have := k.size; simp; omega)
  have hs2 := hk.size
  have hkw : Below w.heap.size w w1 := k
  have hs1 := hkw.size
  have H2 : TellAt w2 T m ba buf nm c0 wl at_ := HasB.below H hk
  have hW2 : Wrote w2 T ba buf B l := ⟨hW.1, ownsRow_keep hW.2 hk⟩
  have hltT := HasB.lt H
  clear HH HO H hW M hO k k2
  go_wp2_with fail
  have hj1 : (joined [⟨#[35, 48]⟩, ⟨#[79, 98, 106, 101, 99, 116]⟩, ⟨#[110, 117, 108, 108]⟩]).length = 14 := by kernel_rfl
  have hj2 : (joined [⟨#[10]⟩]).length = 1 := by kernel_rfl
  have HL := Lib.hid hl
  clear hl
  refine (teller_put T m ba buf nm c0 wl at_ B l g 0 cp [⟨#[35, 48]⟩, ⟨#[79, 98, 106, 101, 99, 116]⟩, ⟨#[110, 117, 108, 108]⟩] w2 H2 hW2 hT (by omega) hWd hcp (by decide) (by rw [hj1]; omega) (by have := HL.out; rw [hj1]; omega)).mono ?_
  rintro e w3 ⟨rfl, buf1, H3, hW3, hB3, hR3⟩
  have hs3 := hR3.size
  have HX3 := Rest.hasB hR3 HX (by
    rintro (h | h)
    · omega
    · exact HasB.ne_own HX hW2.2 (by decide) h)
  go_wp2_with fail
  have H4 : TellAt (w3.alloc (.cells #[.string ⟨#[10]⟩] 9)) T m (.pointer (some ⟨T, 1, none⟩)) buf1 nm c0 wl at_ := HasB.alloc H3 _
  have hW4 : Wrote (w3.alloc (.cells #[.string ⟨#[10]⟩] 9)) T (.pointer (some ⟨T, 1, none⟩)) buf1 B _ := ⟨hW3.1, hW3.2.alloc _⟩
  have HX4 := HasB.alloc HX3 (.cells #[.string ⟨#[10]⟩] 9)
  refine (teller_put T m _ buf1 nm c0 wl at_ B _ w3.heap.size 0 1 [⟨#[10]⟩] _ H4 hW4 hT (by simp; omega) (words_of_block (HasB.new w3 _ _)) (by decide) (by decide) (by rw [hj2]; omega) (by have := HL.out; rw [hj2, List.length_append, hj1]; omega)).mono ?_
  rintro e w5 ⟨rfl, buf2, H5, hW5, hB5, hR5⟩
  have HX5 := Rest.hasB hR5 HX4 (by
    rintro (h | h)
    · omega
    · exact HasB.ne_own HX4 hW4.2 (by decide) h)
  obtain ⟨⟨p0, p1, p2, p3, p4, p5, p6⟩, p7, p8, p9, p10, p11, p12, pf⟩ := HX5.obj
  have hfr : ButB T B w w5 := ButB.trans (ButB.of (hk.mono hB)) (ButB.trans hB3 (ButB.trans (ButB.of ((Below.refl B w3).alloc (by omega) _)) hB5))
  have hW6 : Wrote w5 T (.pointer (some ⟨T, 1, none⟩)) buf2 B (l ++ told) := by
    unfold told
    rw [← List.append_assoc]
    exact hW5
  have hkeep : ∀ (b : Nat) (cs : Array Value) (t : TypeId), HasB w b cs t → t ≠ 5 → b ≠ T → HasB w5 b cs t := by
    intro b cs t hb ht hbT
    have h2 := hb.below hk
    have h3 := Rest.hasB hR3 h2 (by
      rintro (h | h)
      · exact hbT h
      · exact HasB.ne_own h2 hW2.2 ht h)
    have h4 := HasB.alloc h3 (.cells #[.string ⟨#[10]⟩] 9)
    exact Rest.hasB hR5 h4 (by
      rintro (h | h)
      · exact hbT h
      · exact HasB.ne_own h4 hW4.2 ht h)
  have HK := Lib.hid hkeep
  clear hkeep
  have HH5 := Lib.hid H5
  have HW6 := Lib.hid hW6
  have HF := Lib.hid hfr
  clear H2 hW2 H3 hW3 hB3 hR3 H4 hW4 HX HX3 HX4 HX5 H5 hW5 hB5 hR5 hW6 hfr hWd
  go_wp2_with fail
  go_rounds 1
  go_end0
  exact ⟨rfl, buf2, HH5.out, HW6.out, HF.out, HK.out⟩
end Go.Proofs.YtelgobelbeabaaaGreatDoor
namespace Go.Proofs.YtelgobelbeabaaaGreatDoor
open Go.RowKit

theorem cells_byte : Tryz.prog.cellsOf 5 = 1 := by kernel_rfl

set_option maxRecDepth 200000 in
theorem Builder_String (T m : Nat) (ba buf : Value) (nm : Nat) (c0 : Int) (wl : Value) (at_ : Int) (B : Nat) (l : List UInt8) (w : World) (H : TellAt w T m ba buf nm c0 wl at_) (hown : w.ownsRow B 5 1 buf l.length (bv l)) (h0 : l ≠ []) :
    Calls Tryz.prog 55 #[.pointer (some ⟨T, 1, none⟩)] w fun e w' => e = .returned (.string ⟨l.toArray⟩) ∧ Below B w w' := by
  have hl0 : l.length ≠ 0 := by simpa using h0
  obtain ⟨g, cap, cur, rfl, hbg, hg, hnc, hcm, hcs, htake⟩ : ∃ g cap cur, buf = .slice (some ⟨g, 0, none⟩) l.length cap ∧ B ≤ g ∧ w.heap[g]? = some (.cells cur 5 (0, 0)) ∧ l.length ≤ cap ∧ cap ≤ maxLen ∧ cur.size = cap * 1 ∧ cur.toList.take (l.length * 1) = bv l := by
    rcases hown.2 with ⟨_, hz⟩ | ⟨g, cap, cur, hv, r⟩
    · exact absurd hz hl0
    · exact ⟨g, cap, cur, hv, r⟩
  have c1 : w.drew.cell? ⟨T, 2, none⟩ = some (.slice (some ⟨g, 0, none⟩) l.length cap) := HasB.cell (HasB.drew H) 2
  have hSD : (Builtin.unsafeSliceData_ #[51] 146 #[.slice (some ⟨g, 0, none⟩) l.length cap]).run Tryz.prog w.drew = .ok (.pointer (some ⟨g, 0, none⟩)) w.drew :=
    Lib.run_unsafeSliceData_row _ _ _ _ _ _ (by omega)
  have hUS : (Builtin.unsafeString_ #[146, 3] 9 #[.pointer (some ⟨g, 0, none⟩), .int .i64 l.length]).run Tryz.prog w.drew = .ok (.string ⟨l.toArray⟩) (w.drew.freeze ⟨g, 0, none⟩ l.length) := by
    refine Lib.run_unsafeString_row w.drew 146 3 9 5 Tryz.underlying146 cells_byte g cur.size (by have hg' : w.drew.heap[g]? = some (.cells cur 5 (0, 0)) := hg; simp [World.shape?, hg']) l h0 (by omega) (by unfold maxLen at hcm; omega) ?_
    intro j x hx
    have := hown.cells (g := g) rfl j (.int .u8 x.toNat) (by simp [bv, hx])
    exact this
  go_enter Tryz.func55, Tryz.ntmps55
  go_wp2
  go_region_law (fail)
  all_goals (go_wp2; go_ret; exact ⟨rfl, Lib.below_freeze (Below.drew (Below.refl B w)) (p := ⟨g, 0, none⟩) hbg _⟩)
end Go.Proofs.YtelgobelbeabaaaGreatDoor
namespace Go.Proofs.YtelgobelbeabaaaGreatDoor
open Go.RowKit

theorem info_string : (Tryz.prog.info? 9).map (fun i => (i.zero, i.size, i.bytes)) = some (some (.string ⟨#[]⟩), 1, 16) := by kernel_rfl
theorem Rest.grown1 {S : Nat → Prop} {w w' : World} {o : Obj} {r : Option Nat} (hg : (w.alloc o).grownBy w' r) (hS : ∀ k, r = some k → S k) : Rest S w w' :=
  ⟨hg.os, hg.tape, hg.output, by have := hg.size; simp at this; omega, fun k hk hn => (hg.block k (by simp; omega) (fun hh => hn (hS k hh.symm))).trans (Below.heap_alloc w o k hk)⟩
theorem OneThing.keep {S : Nat → Prop} {w w' : World} {g : Nat} {n : Int} (h : OneThing w g n) (r : Rest S w w') (hn : ¬ S g) : OneThing w' g n :=
  ⟨⟨Rest.cell r h.1.1 hn, Rest.cell r h.1.2 hn⟩, Nat.lt_of_lt_of_le h.2 r.size⟩
theorem OneThing.butB {T B : Nat} {w w' : World} {g : Nat} {n : Int} (h : OneThing w g n) (r : ButB T B w w') (hB : g < B) (hn : g ≠ T) : OneThing w' g n :=
  ⟨⟨(World.cell?_of_block (r.block g hB hn)).trans h.1.1, (World.cell?_of_block (r.block g hB hn)).trans h.1.2⟩, Nat.lt_of_lt_of_le h.2 r.size⟩
theorem ownsRow_but {w w' : World} {base e size n T : Nat} {v : Value} {xs : List Value} (h : w.ownsRow base e size v n xs) (k : But T w w') (hT : T < base) : w'.ownsRow base e size v n xs := by
  obtain ⟨h1, h2⟩ := h
  refine ⟨h1, ?_⟩
  rcases h2 with h2 | ⟨g, cap, cur, e1, e2, e3, e4⟩
  · exact .inl h2
  · exact .inr ⟨g, cap, cur, e1, e2, (k.block g ((Array.getElem?_eq_some_iff.1 e3).1) (by omega)).trans e3, e4⟩
theorem ownsRow_elsewhere {w : World} {base e size n : Nat} {v : Value} {xs : List Value} (h : w.ownsRow base e size v n xs) {a : Addr} (ha : v.ownBlock ≠ some a.block) (u : Value) : (w.setCell a u).ownsRow base e size v n xs := by
  obtain ⟨h1, h2⟩ := h
  refine ⟨h1, ?_⟩
  rcases h2 with h2 | ⟨g, cap, cur, e1, e2, e3, e4⟩
  · exact .inl h2
  · refine .inr ⟨g, cap, cur, e1, e2, (Below.heap_setCell w a u g ?_).trans e3, e4⟩
    rintro rfl
    apply ha
    rw [e1]
    rfl
theorem ownsRow_words {w : World} {base : Nat} {e : TypeId} {v : Value} {a b : ByteArray} (h : w.ownsRow base e 1 v 2 [.string a, .string b]) : ∃ g c, v = .slice (some ⟨g, 0, none⟩) 2 c ∧ WordsAt w g 0 [a, b] ∧ 2 ≤ c := by
  rcases h.2 with ⟨-, h0⟩ | ⟨g, c, cur, rfl, hg, hh, hn, hm, hs, ht⟩
  · cases h0
  · refine ⟨g, c, rfl, ⟨(Array.getElem?_eq_some_iff.1 hh).1, fun j x hx => ?_⟩, hn⟩
    have hj : j < 2 := by
      have := (List.getElem?_eq_some_iff.1 hx).1
      simpa using this
    rw [Nat.zero_add, h.cellAt j (by omega)]
    match j, hj with
    | 0, _ => simp at hx; simp [hx]
    | 1, _ => simp at hx; simp [hx]

set_option maxRecDepth 200000 in
theorem snapshot_Of_one {m : Nat} {f c ch d left : Int} {over : Bool} {h : Nat} {envs codes natives body known draws : Value} {drawn calls : Int} {B' : Nat} {room used : Int} (rb : Nat) (w : World)
    (M : MachAt w m f c ch d left over h envs codes natives body known draws drawn calls) (hO : OneObj w h B' 1 0 room used) (hr : HasB w rb #[.int .i64 5, .bool false, .float .f64 0, .string ⟨#[]⟩, .int .i64 0] 24) :
    Calls Tryz.prog 19 #[.pointer (some ⟨m, 0, none⟩), .slice (some ⟨rb, 0, none⟩) 1 1] w fun e w' => e = .returned (.string ⟨(joined [⟨#[114, 111, 111, 116, 115]⟩, ⟨#[35, 48]⟩] ++ joined [⟨#[10]⟩] ++ told).toArray⟩) ∧ Below w.heap.size w w' := by
  have hmm := @run_makeMap Tryz.prog
  have HM := Machine_Heap M
  go_enter Tryz.func19, Tryz.ntmps19
  go_wp2_with (go_at_call 48; refine HM.mono ?_; rintro e w' ⟨rfl, rfl⟩)
  have hb0 : Below w.heap.size w (((w.alloc (.map #[] 0)).alloc (.cells #[.pointer (some ⟨m, 0, none⟩), .pointer none, .slice none 0 0, .map (some w.heap.size), .int .i64 0, .int .i64 0, .slice none 0 0, .int .i64 0] 88)).alloc (.cells #[.string ⟨#[114, 111, 111, 116, 115]⟩] 9)) := (((Below.refl _ w).alloc (Nat.le_refl _) _).alloc (by simp) _).alloc (by simp; omega) _
  have hn0 : (((w.alloc (.map #[] 0)).alloc (.cells #[.pointer (some ⟨m, 0, none⟩), .pointer none, .slice none 0 0, .map (some w.heap.size), .int .i64 0, .int .i64 0, .slice none 0 0, .int .i64 0] 88)).alloc (.cells #[.string ⟨#[114, 111, 111, 116, 115]⟩] 9)).heap[w.heap.size]? = some (.map #[] 0) := ((Below.heap_alloc _ _ _ (by simp; omega)).trans (Below.heap_alloc _ _ _ (by simp))).trans (heap_alloc_new w _)
  have hT0 : TellAt (((w.alloc (.map #[] 0)).alloc (.cells #[.pointer (some ⟨m, 0, none⟩), .pointer none, .slice none 0 0, .map (some w.heap.size), .int .i64 0, .int .i64 0, .slice none 0 0, .int .i64 0] 88)).alloc (.cells #[.string ⟨#[114, 111, 111, 116, 115]⟩] 9)) (w.heap.size + 1) m (.pointer none) (.slice none 0 0) w.heap.size 0 (.slice none 0 0) 0 := HasB.alloc (HasB.newAt (by simp)) _
  have hL0 : HasB (((w.alloc (.map #[] 0)).alloc (.cells #[.pointer (some ⟨m, 0, none⟩), .pointer none, .slice none 0 0, .map (some w.heap.size), .int .i64 0, .int .i64 0, .slice none 0 0, .int .i64 0] 88)).alloc (.cells #[.string ⟨#[114, 111, 111, 116, 115]⟩] 9)) (w.heap.size + 1 + 1) #[.string ⟨#[114, 111, 111, 116, 115]⟩] 9 := HasB.newAt (by simp)
  have hls : w.heap.size + 1 + 1 < (((w.alloc (.map #[] 0)).alloc (.cells #[.pointer (some ⟨m, 0, none⟩), .pointer none, .slice none 0 0, .map (some w.heap.size), .int .i64 0, .int .i64 0, .slice none 0 0, .int .i64 0] 88)).alloc (.cells #[.string ⟨#[114, 111, 111, 116, 115]⟩] 9)).heap.size := by simp
  revert hb0 hn0 hT0 hL0 hls
  generalize (((w.alloc (.map #[] 0)).alloc (.cells #[.pointer (some ⟨m, 0, none⟩), .pointer none, .slice none 0 0, .map (some w.heap.size), .int .i64 0, .int .i64 0, .slice none 0 0, .int .i64 0] 88)).alloc (.cells #[.string ⟨#[114, 111, 111, 116, 115]⟩] 9)) = w0
  intro hb0 hn0 hT0 hL0 hls
  have hr0 := HasB.below hr hb0
  have hM0 : MachAt w0 m f c ch d left over h envs codes natives body known draws drawn calls := HasB.below M hb0
  have hO0 := OneObj.below hO hb0
  have hlr := HasB.lt hr
  have hlm := HasB.lt M
  obtain ⟨q0, q1, q2, q3, q4, qf⟩ := hr0.five
  refine wp_loop_rounds 2 ?_
  rw [rounds_succ]
  go_wp2_with fail
  obtain ⟨g0, cp0, x0, bb1, bb2, mp, hg0, hx0, hHp, hcl, hob⟩ := hO0
  have hmT : m ≠ w.heap.size + 1 := by omega
  have hmN : m ≠ w.heap.size := by omega
  refine (teller_value (w.heap.size + 1) m (.pointer none) (.slice none 0 0) w.heap.size (some ⟨g0, 0, none⟩) 1 cp0 room used (w0.alloc (.cells #[.int .i64 5, .bool false, .float .f64 0, .string ⟨#[]⟩, .int .i64 0] 24)) (HasB.alloc hT0 _) (HasB.alloc hM0 _) (HasB.alloc hHp _) (by decide) ((Below.heap_alloc w0 _ _ (by omega)).trans hn0)).mono ?_
  rintro e w1 ⟨rfl, g, cc, hg, hT1, hTh1, hn1, hR1⟩
  have hs1 := hR1.size
  have hs2 : w0.heap.size + 1 ≤ w1.heap.size := by simpa using hs1
  have hL1 : HasB w1 (w.heap.size + 1 + 1) #[.string ⟨#[114, 111, 111, 116, 115]⟩] 9 := Rest.hasB hR1 (HasB.alloc hL0 _) (by rintro (h | h) <;> omega)
  have hown : w1.ownsRow (w.heap.size + 1 + 1) 9 1 (.slice (some ⟨w.heap.size + 1 + 1, 0, none⟩) 1 1) 1 [.string ⟨#[114, 111, 111, 116, 115]⟩] := ⟨rfl, .inr ⟨_, 1, #[.string ⟨#[114, 111, 111, 116, 115]⟩], rfl, Nat.le_refl _, hL1, by decide, by decide, rfl, rfl⟩⟩
  have hRw : Rest (fun k => k = w.heap.size + 1 ∨ k = w.heap.size) w0 w1 := Rest.trans (Rest.of ((Below.refl w0.heap.size w0).alloc (Nat.le_refl _) (.cells #[.int .i64 5, .bool false, .float .f64 0, .string ⟨#[]⟩, .int .i64 0] 24))) hR1
  obtain ⟨i0, hi, hz0, hz1, hz2⟩ := info_parts info_string
  clear hR1 hL0 hT0 hn0 q0 q1 q2 q3 q4 qf
  go_wp2_with (at_builtin; go_must (refine wpList_append_own _ rfl _ _ 89 rfl (w.heap.size + 1 + 1) 9 i0 (.string ⟨#[]⟩) 1 16 Tryz.underlying89 hi hz0 hz1 hz2 rfl (by decide) _ 1 _ rfl (hown.alloc _) ⟨w1.heap.size, 0, none⟩ 1 1 [.string ⟨#[35, 48]⟩] rfl rfl (World.news_of_block (cs := #[.string ⟨#[35, 48]⟩]) (t := 9) (fr := (0, 0)) (heap_alloc_new w1 _)) (by simp [Value.oneCell']) (by decide) (by decide) (by simp; omega) ?_))
  intro v1 w2 hown2 hg2 _
  have hR2 : Rest (fun k => k = w.heap.size + 1 + 1) w1 w2 := Rest.grown1 hg2 (fun k h => by simpa [Value.ownBlock] using h.symm)
  obtain ⟨g2, c2, hv1, hc2, hcap2⟩ := ownsRow_words hown2
  subst hv1
  have hs3 := hR2.size
  have hT2 : TellAt w2 (w.heap.size + 1) m (.pointer none) (.slice none 0 0) w.heap.size 1 (.slice (some ⟨g, 0, none⟩) 1 cc) 0 := Rest.hasB hR2 hT1 (by omega)
  have hn2 : w2.heap[w.heap.size]? = some (.map #[{ key := thing 0, val := .int .i64 0, born := 0 }] 1) := (hR2.block _ (by omega) (by omega)).trans hn1
  have hWd : WordsAt w2 g2 0 [⟨#[114, 111, 111, 116, 115]⟩, ⟨#[35, 48]⟩] := hc2
  have hg3 : w0.heap.size + 1 ≤ g := by simpa using hg
  have hTh2 : OneThing w2 g 0 := OneThing.keep hTh1 hR2 (by omega)
  have hb2 : Below w.heap.size w w2 := ⟨hR2.os.trans (hRw.os.trans hb0.os), hR2.tape.trans (hRw.tape.trans hb0.tape), hR2.output.trans (hRw.output.trans hb0.output), by omega,
    fun k hk => (hR2.block k (by omega) (by omega)).trans ((hRw.block k (by omega) (by omega)).trans (hb0.block k hk))⟩
  have hgl2 := hTh2.2
  clear hown hown2 hg2 hL1 hT1 hTh1 hn1 hR2 hRw hg hr0 hM0 hHp hcl hob hc2 HM hb0
  go_wp2_with fail
  rw [rounds_succ]
  go_wp2_with fail
  have hj0 : (joined [⟨#[114, 111, 111, 116, 115]⟩, ⟨#[35, 48]⟩]).length = 8 := by kernel_rfl
  have hj2 : (joined [⟨#[10]⟩]).length = 1 := by kernel_rfl
  have hTB : w.heap.size + 1 < w2.heap.size := by omega
  refine (teller_put (w.heap.size + 1) m (.pointer none) (.slice none 0 0) w.heap.size 1 _ 0 w2.heap.size [] g2 0 c2 [⟨#[114, 111, 111, 116, 115]⟩, ⟨#[35, 48]⟩] w2 hT2 ⟨.inl rfl, World.ownsRow_nil _ _ _ _⟩ hTB (Nat.le_refl _) hWd hcap2 (by decide) (by rw [hj0]; decide) (by rw [hj0]; decide)).mono ?_
  rintro e w3 ⟨rfl, buf3, hT3, hW3, hB3, -⟩
  have hs4 := hB3.size
  go_wp2_with fail
  refine (teller_put (w.heap.size + 1) m _ buf3 w.heap.size 1 _ 0 w2.heap.size _ w3.heap.size 0 1 [⟨#[10]⟩] (w3.alloc (.cells #[.string ⟨#[10]⟩] 9)) (HasB.alloc hT3 _) ⟨hW3.1, hW3.2.alloc _⟩ hTB (by simp; omega) (words_of_block (HasB.new w3 _ _)) (by decide) (by decide) (by rw [hj2]; decide) (by rw [hj2, List.length_append, hj0]; decide)).mono ?_
  rintro e w5 ⟨rfl, buf5, hT5, hW5, hB5, -⟩
  have hs5 : w3.heap.size + 1 ≤ w5.heap.size := by simpa using hB5.size
  have hB25 : ButB (w.heap.size + 1) w2.heap.size w2 w5 := ButB.trans hB3 (ButB.trans (ButB.of ((Below.refl _ w3).alloc (by omega) _)) hB5)
  have hb5 : Below w.heap.size w w5 := ButB.below hB25 hb2 (by omega) (by omega)
  have hn5 : w5.heap[w.heap.size]? = some (.map #[{ key := thing 0, val := .int .i64 0, born := 0 }] 1) := (hB25.block _ (by omega) (by omega)).trans hn2
  have hTh5 : OneThing w5 g 0 := OneThing.butB hTh2 hB25 hgl2 (by omega)
  clear hT2 hWd hT3 hW3 hB3 hB5 hB25 hTh2 hn2 hb2
  go_wp2_with fail
  refine (queue_next (w.heap.size + 1) m _ buf5 w.heap.size 1 0 g cc w5 hT5 hTh5).mono ?_
  rintro e w6 ⟨rfl, hT6, hB6⟩
  have hs6 := hB6.size
  have hW6 : Wrote w6 (w.heap.size + 1) (.pointer (some ⟨w.heap.size + 1, 1, none⟩)) buf5 w2.heap.size _ := ⟨.inr rfl, ownsRow_but hW5.2 hB6 hTB⟩
  have hb6 : Below w.heap.size w w6 := But.below hB6 hb5 (by omega) (by omega)
  have hn6 : w6.heap[w.heap.size]? = some (.map #[{ key := thing 0, val := .int .i64 0, born := 0 }] 1) := (hB6.block _ (by omega) (by omega)).trans hn5
  clear hT5 hTh5 hW5 hB6 hb5 hn5
  go_wp2_with fail
  have hX7 : HasB (w6.alloc (.cells #[.bool false, .int .i64 0] 92)) w6.heap.size #[.bool false, .int .i64 0] 92 := HasB.new w6 _ _
  have hT7 : TellAt (w6.alloc (.cells #[.bool false, .int .i64 0] 92)) (w.heap.size + 1) m (.pointer (some ⟨w.heap.size + 1, 1, none⟩)) buf5 w.heap.size 1 (.slice (some ⟨g, 0, none⟩) 1 cc) 1 := HasB.alloc hT6 _
  have hW7 : Wrote (w6.alloc (.cells #[.bool false, .int .i64 0] 92)) (w.heap.size + 1) (.pointer (some ⟨w.heap.size + 1, 1, none⟩)) buf5 w2.heap.size _ := ⟨hW6.1, hW6.2.alloc _⟩
  have hb7 : Below w.heap.size w (w6.alloc (.cells #[.bool false, .int .i64 0] 92)) := hb6.alloc (by omega) _
  have hn7 : (w6.alloc (.cells #[.bool false, .int .i64 0] 92)).heap[w.heap.size]? = some (.map #[{ key := thing 0, val := .int .i64 0, born := 0 }] 1) := (Below.heap_alloc w6 _ _ (by omega)).trans hn6
  have hs7 : w6.heap.size < (w6.alloc (.cells #[.bool false, .int .i64 0] 92)).heap.size := by simp
  clear hT6 hW6 hb6 hn6
  revert hX7 hT7 hW7 hb7 hn7 hs7
  generalize w6.alloc (.cells #[.bool false, .int .i64 0] 92) = w7
  intro hX7 hT7 hW7 hb7 hn7 hs7
  have hM7 : MachAt w7.drew m f c ch d left over h envs codes natives body known draws drawn calls := HasB.drew (HasB.below M hb7)
  have hO7 : OneObj w7.drew h B' 1 0 room used := OneObj.below hO hb7.drew
  obtain ⟨g7, cp7, x7, ba7, bb7, mp7, -, -, hHp7, -, -⟩ := OneObj.below hO hb7.drew
  have p0 : w7.cell? ⟨w6.heap.size, 0, none⟩ = some (.bool false) := HasB.cell hX7 0
  have p1 : w7.cell? ⟨w6.heap.size, 1, none⟩ = some (.int .i64 0) := HasB.cell hX7 1
  have pf := HasB.free hX7
  refine wp_loop_rounds 2 ?_
  rw [rounds_succ]
  go_wp2_with fail
  go_region_law (first
    | (go_simp; go_at_call 53; refine (teller_name_old (w.heap.size + 1) m _ buf5 w.heap.size _ 1 (some ⟨g7, 0, none⟩) 1 cp7 room used w7.drew (HasB.drew hT7) hM7 hHp7 (by decide) hn7).mono ?_; rintro e w8 ⟨rfl, k8⟩; have p0' := below_keep k8 p0; have p1' := below_keep k8 p1)
    | (go_simp; go_at_call 54; refine (teller_object (w.heap.size + 1) m _ buf5 w.heap.size 1 _ 1 w2.heap.size _ w8 (HasB.below (HasB.drew hT7) k8) ⟨.inr rfl, ownsRow_keep (w := w7.drew) hW7.2 k8⟩ hTB (by have := k8.size; have : w7.heap.size ≤ w8.heap.size := this; omega) (HasB.below hM7 k8) (OneObj.below hO7 k8) (by rw [List.length_append, hj2]; show _ + 1 ≤ 50000; rw [List.nil_append, hj0]; decide)).mono ?_; rintro e w9 ⟨rfl, buf9, hT9, hW9, hB9, hK9⟩))
  all_goals (
    have hs8 : w7.heap.size ≤ w8.heap.size := k8.size
    have hs9 := hB9.size
    have hX9 := hK9 _ _ _ (HasB.below (HasB.drew hX7) k8) (by decide) (by omega)
    have hb9 : Below w.heap.size w w9 := ButB.below hB9 (below_via k8 hb7.drew (by have : w.heap.size ≤ w7.heap.size := by omega
                                                                                   exact this)) (by omega) (by omega)
    clear hK9 hX7 hT7 hW7 hb7 hn7 hM7 hO7 hHp7 p0 p1 pf p0' p1' k8 hB9
    have p0 : w9.cell? ⟨w6.heap.size, 0, none⟩ = some (.bool false) := HasB.cell hX9 0
    have p1 : w9.cell? ⟨w6.heap.size, 1, none⟩ = some (.int .i64 0) := HasB.cell hX9 1
    have hlx := HasB.lt hX9
    go_wp2_with fail
    refine (queue_none (w.heap.size + 1) m _ buf9 w.heap.size 1 g cc (w9.alloc (.cells #[.bool false, .int .i64 0] 92)) (HasB.alloc hT9 _)).mono ?_
    rintro e w10 ⟨rfl, k10⟩
    have hX10 := HasB.below (HasB.newAt (w := w9) (cs := #[.bool false, .int .i64 0]) (t := 92) rfl) k10
    have hT10 := HasB.below (HasB.alloc hT9 (.cells #[.bool false, .int .i64 0] 92)) k10
    have hW10 := ownsRow_keep (hW9.2.alloc (.cells #[.bool false, .int .i64 0] 92)) k10
    have hb10 : Below w.heap.size w w10 := below_via k10 (hb9.alloc (by omega) _) (by simp; omega)
    have hl10 := HasB.lt hX10
    have u0 : w10.cell? ⟨w9.heap.size, 0, none⟩ = some (.bool false) := HasB.cell hX10 0
    have u1 : w10.cell? ⟨w9.heap.size, 1, none⟩ = some (.int .i64 0) := HasB.cell hX10 1
    have uf := HasB.free hX10
    clear hT9 hW9 hb9 k10 p0 p1
    go_wp2_with fail
    rw [rounds_succ]
    go_wp2_with fail
    refine (Builder_String (w.heap.size + 1) m _ buf9 w.heap.size 1 _ 1 w2.heap.size _ _ (HasB.far (HasB.far hT10 (by simp; omega) _) (by simp; omega) _) (ownsRow_elsewhere (ownsRow_elsewhere hW10 (HasB.ne_own hX10 hW10 (by decide)) _) (HasB.ne_own (HasB.set hX10 0 (.bool false)) (ownsRow_elsewhere hW10 (HasB.ne_own hX10 hW10 (by decide)) _) (by decide)) _) (by simp [told, joined, Lib.join])).mono ?_
    rintro e w11 ⟨rfl, k11⟩
    go_wp2_with fail
    go_ret
    exact ⟨rfl, ((hb10.setCell (p := ⟨w9.heap.size, 0, none⟩) (by show w.heap.size ≤ w9.heap.size; omega) _).setCell (p := ⟨w9.heap.size, 1, none⟩) (by show w.heap.size ≤ w9.heap.size; omega) _).trans (k11.mono (by omega))⟩)
end Go.Proofs.YtelgobelbeabaaaGreatDoor
namespace Go.Proofs.YtelgobelbeabaaaGreatDoor
open Go.RowKit

theorem told_is : (joined [⟨#[114, 111, 111, 116, 115]⟩, ⟨#[35, 48]⟩] ++ joined [⟨#[10]⟩] ++ told) = [114, 111, 111, 116, 115, 32, 35, 48, 10, 35, 48, 32, 79, 98, 106, 101, 99, 116, 32, 110, 117, 108, 108, 10] := by kernel_rfl

set_option maxRecDepth 100000 in
theorem awake29 (w : World) : Calls Tryz.prog 7 #[] w fun e w' => e = .returned (.bool true) ∧ Below w.heap.size w w' := by
  go_enter Tryz.func7, Tryz.ntmps7
  go_wp2_with fail
  refine (machine_New 0 9 0 0 w (by decide) (by decide) (by decide) (by decide) (by decide) (by decide) (by decide)).mono ?_
  rintro e w1 ⟨m, h, v, rfl, hM, hH, hown, hlh, hlm, hb⟩
  go_wp2_with fail
  refine (Machine_Alloc 1 0 9 0 hM hH (by omega) (.inl rfl) (by decide) (by decide) (by decide) (by decide)).mono ?_
  rintro e w2 ⟨rfl, hO, hB⟩
  have hM2 := hB.hasB hM (by omega)
  have hb2 : Below w.heap.size w w2 := But.below hB hb (by omega) hb.size
  have hs1 := hb.size
  have hs2 := hb2.size
  clear hM hH hown hb hB
  go_wp2_with fail
  refine (snapshot_Of_one (w2.heap.size + 1) ((w2.alloc (.cells #[.int .i64 0, .int .i64 0, .bool false, .float .f64 0, .string ⟨#[]⟩, .int .i64 0, .string ⟨#[]⟩] 40)).alloc (.cells #[.int .i64 5, .bool false, .float .f64 0, .string ⟨#[]⟩, .int .i64 0] 24)) (HasB.alloc (HasB.alloc hM2 _) _) (OneObj.below hO (((Below.refl _ w2).alloc (Nat.le_refl _) _).alloc (by simp) _)) (HasB.newAt (by simp))).mono ?_
  rintro e w3 ⟨rfl, k⟩
  have hb3 : Below w.heap.size w w3 := below_via k ((hb2.alloc hs2 _).alloc (by simp; omega) _) (by simp; omega)
  clear k
  rw [told_is]
  go_wp2_with fail
  go_ret
  exact ⟨rfl, hb3⟩
end Go.Proofs.YtelgobelbeabaaaGreatDoor
namespace Go.Proofs.YtelgobelbeabaaaGreatDoor
open Go.RowKit
namespace Us
open Nv

/-- A value's text, named. -/
noncomputable def showT (k : Int) (b : Bool) (n : Nat) (s : ByteArray) : ByteArray := Classical.epsilon (ShowR k b n s)
theorem showT_of {k : Int} {b : Bool} {n : Nat} {s : ByteArray} {w w' : World} {e : Ending} (h : ShowQ k b n s w e w') : e = .returned (.string (showT k b n s)) ∧ Below w.heap.size w w' := by
  obtain ⟨t, rfl, hr, hb⟩ := h
  rw [hr.one (Classical.epsilon_spec (p := ShowR k b n s) ⟨t, hr⟩)]
  exact ⟨rfl, hb⟩
theorem snap_Show {k : Int} {b : Bool} {n : Nat} {s : ByteArray} {o : Int} {w : World} (hT : Tabs w) (hm : mayP k b n s o) (hn : n < 18446744073709551616) (hs : s.size ≤ 1200000) : Calls Tryz.prog 5 #[_root_.Go.Proofs.YtelgobelbeabaaaGreatDoor.val k b n s o] w (ShowQ k b n s w) := by
  obtain ⟨h1, h2, -, -, h5, -⟩ := hm
  rcases (show k = 0 ∨ k = 1 ∨ k = 2 ∨ k = 3 ∨ k = 4 ∨ k = 5 by omega) with rfl | rfl | rfl | rfl | rfl | rfl
  · exact snap_k0 w
  · exact snap_k1 w
  · exact snap_k2 w
  · by_cases h : (FloatKind.f64.format.order n 0 == some .eq) = true ∧ sgB n = true
    · exact snap_k3z w h.1 h.2
    · exact snap_k3 w hT hn h
  · have he : s.size % 2 = 0 := by
      by_cases h : s.toList = []
      · rw [toList_nil_size h]
      · exact (h5 h).2
    exact snap_k4 (m := s.size / 2) w (by omega) (by omega)
  · exact snap_k5 w
theorem rf_Show {k : Int} {b : Bool} {n : Nat} {s : ByteArray} {o : Int} (w : World) (hm : mayP k b n s o) (hn : n < 18446744073709551616) (hs : s.size ≤ 1200000) : Calls Tryz.prog 6 #[_root_.Go.Proofs.YtelgobelbeabaaaGreatDoor.val k b n s o] w (ShowQ k b n s w) := by
  obtain ⟨h1, h2, -, -, h5, -⟩ := hm
  rcases (show k = 0 ∨ k = 1 ∨ k = 2 ∨ k = 3 ∨ k = 4 ∨ k = 5 by omega) with rfl | rfl | rfl | rfl | rfl | rfl
  · exact rf_k0 w
  · exact rf_k1 w
  · exact rf_k2 w
  · by_cases h : (FloatKind.f64.format.order n 0 == some .eq) = true ∧ sgB n = true
    · exact rf_k3z w h.1 h.2
    · exact rf_k3 w hn h
  · have he : s.size % 2 = 0 := by
      by_cases h : s.toList = []
      · rw [toList_nil_size h]
      · exact (h5 h).2
    exact rf_k4 (m := s.size / 2) w (by omega) (by omega)
  · exact rf_k5 w
/-- What Clean tells here: a value that may be, of a text that is no longer. -/
theorem law14_CleanM {k : Int} {b : Bool} {n : Nat} {s : ByteArray} {o : Int} (w : World) (hn : n < 18446744073709551616) (hs : s.size ≤ 1200000) :
    Calls Tryz.prog 4 #[_root_.Go.Proofs.YtelgobelbeabaaaGreatDoor.val k b n s o] w fun e w' => ∃ k b n s o, e = .returned (_root_.Go.Proofs.YtelgobelbeabaaaGreatDoor.val k b n s o) ∧ (mayP k b n s o ∧ n < 18446744073709551616 ∧ s.size ≤ 1200000) ∧ Below w.heap.size w w' := by
  have hm0 : s.size ≤ maxLen := by unfold maxLen; omega
  cases hm : mayB k b n s o with
  | true =>
    refine (law14_Clean_yes k b n s o w hm0 hm).mono fun _ _ h => ⟨k, b, n, s, o, h.1, ⟨?_, hn, hs⟩, h.2⟩
    exact Classical.byContradiction fun hc => by rw [mayB_no hc] at hm; cases hm
  | false =>
    refine (law14_Clean_no k b n s o w hm0 hm).mono fun _ _ h => ⟨0, false, 0, ⟨#[]⟩, 0, h.1, ⟨?_, by decide, by decide⟩, h.2⟩
    exact ⟨by decide, by decide, fun h => (by cases h), fun h => absurd rfl h, fun h => absurd ((toList_nil_iff_emptyBytes _).2 rfl) h, fun h => absurd rfl h⟩
set_option maxRecDepth 100000 in
set_option maxHeartbeats 4000000 in
theorem law_Shows {k : Int} {b : Bool} {n : Nat} {s : ByteArray} {o : Int} {w : World} (hT : Tabs w) (hn : n < 18446744073709551616) (hs : s.size ≤ 1200000) : Calls Tryz.prog 3 #[_root_.Go.Proofs.YtelgobelbeabaaaGreatDoor.val k b n s o] w fun e w' => e = .returned (.bool true) ∧ Below w.heap.size w w' := by
  have h1 := fun W => Far.mk (law14_CleanM (k := k) (b := b) (o := o) W hn hs)
  have hA := Far.mk awake29
  have hT2 : Far (∀ W, Below w.heap.size w W → Tabs W) := ⟨fun W hb => hT.keep hb⟩
  clear hn hs hT
  go_enter Tryz.func3, Tryz.ntmps3
  go_wp2_with fail
  with_reducible refine (h1 _).out.mono ?_
  rintro e w1 ⟨k1, b1, n1, s1, o1, rfl, ⟨hv1, hv2, hv3⟩, hb1⟩
  have B0 := ((HasB.new w _ _)).below hb1
  have hz := hb1.size
  have HB := Far.mk (show Below w.heap.size w w1 from below_via hb1 (by go_grown) (by simp))
  obtain ⟨p0, p1, p2, p3, p4, pf⟩ := B0.five
  have c1 := fun W (hb : Below w.heap.size w W) => Far.mk ((snap_Show (o := o1) (hT2.out W hb) hv1 hv2 hv3).mono fun _ _ h => showT_of h)
  have c2 := fun W => Far.mk ((rf_Show (o := o1) W hv1 hv2 hv3).mono fun _ _ h => showT_of h)
  generalize showT k1 b1 n1 s1 = T at c1 c2
  clear h1 hT2 hv1 hv2 hv3 hb1 B0
  simp at hz
  go_wp2_with fail
  refine wp_gen (fun V => V.cell? ⟨w.heap.size, 0, none⟩ = some (.int .i64 k1) ∧ V.cell? ⟨w.heap.size, 1, none⟩ = some (.bool b1) ∧ V.cell? ⟨w.heap.size, 2, none⟩ = some (.float .f64 n1) ∧ V.cell? ⟨w.heap.size, 3, none⟩ = some (.string s1) ∧ V.cell? ⟨w.heap.size, 4, none⟩ = some (.int .i64 o1) ∧ Below w.heap.size w V) ⟨by simp [go_sem, p0], by simp [go_sem, p1], by simp [go_sem, p2], by simp [go_sem, p3], by simp [go_sem, p4], HB.out.setCell (by simp) _ |>.setCell (by simp) _ |>.setCell (by simp) _ |>.setCell (by simp) _ |>.setCell (by simp) _⟩ ?_
  clear p0 p1 p2 p3 p4 pf HB hz
  rintro W ⟨q0, q1, q2, q3, q4, qb⟩
  go_region_held3 (fun V => V.cell? ⟨w.heap.size, 0, none⟩ = some (.int .i64 k1) ∧ V.cell? ⟨w.heap.size, 1, none⟩ = some (.bool b1) ∧ V.cell? ⟨w.heap.size, 2, none⟩ = some (.float .f64 n1) ∧ V.cell? ⟨w.heap.size, 3, none⟩ = some (.string s1) ∧ V.cell? ⟨w.heap.size, 4, none⟩ = some (.int .i64 o1) ∧ Below w.heap.size w V)
    (first | (refine ⟨?_, ?_, ?_, ?_, ?_, ?_⟩ <;> first | assumption | exact Below.drew (by assumption)) | (go_split_ands; refine ⟨?_, ?_, ?_, ?_, ?_, ?_⟩ <;> first | exact below_keep k' (by assumption) | exact below_via k' (by assumption) (by omega) | (exact (‹Below w.heap.size w _›).trans (k'.mono (‹Below w.heap.size w _›).size))))
    (first | (go_at_call 5; refine ((c1 _ (by first | assumption | (go_split_ands; assumption))).out).mono ?_; rintro e w' ⟨rfl, k'⟩)
           | (go_at_call 6; refine ((c2 _).out).mono ?_; rintro e w' ⟨rfl, k'⟩)
           | (go_at_call 7; refine (hA.out _).mono ?_; rintro e w' ⟨rfl, k'⟩))
  obtain ⟨_, _, _, _, _, HB⟩ := ‹_ ∧ _ ∧ _ ∧ _ ∧ _ ∧ _›
  go_wp2
  go_ret
  exact ⟨rfl, HB⟩
end Us
end Go.Proofs.YtelgobelbeabaaaGreatDoor
