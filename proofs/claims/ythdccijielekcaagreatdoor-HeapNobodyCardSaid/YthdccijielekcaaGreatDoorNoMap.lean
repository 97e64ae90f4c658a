/-
  A heap's table of places, of no key, of one and of two: what is looked up in it, and what is laid into it. No condition.
-/
import Derived.Test.YthdccijielekcaaGreatDoorBase
import Derived.WideMake
namespace Go.Proofs.YthdccijielekcaaGreatDoor
open Go.RowKit

abbrev lenW : ByteArray := ⟨#[0, 108, 0, 101, 0, 110, 0, 103, 0, 116, 0, 104]⟩
abbrev fourW : ByteArray := ⟨#[0, 52]⟩
abbrev ent0 : MapEntry := { key := .string lenW, val := .int .i64 0, born := 0 }
abbrev ent1 : MapEntry := { key := .string fourW, val := .int .i64 1, born := 1 }
theorem key_any (e : Bool) (s : ByteArray) (w : World) : (Instr.checkKey e 10000 9 (.string s)).run Tryz.prog w = .ok () w :=
  MapKept.run_checkKey (k := .string s) Tryz.underlying9 (by simp [MapKept.IsKey]) e 9999
theorem find_nil (s : ByteArray) (w : World) : (Instr.findKey 9 (.string s) []).run Tryz.prog w = .ok none w := MapKept.run_findKey Tryz.underlying9 rfl
theorem find_len1 (w : World) : (Instr.findKey 9 (.string lenW) [ent0]).run Tryz.prog w = .ok (some (0, .int .i64 0)) w := MapKept.run_findKey Tryz.underlying9 (by kernel_rfl)
theorem find_four1 (w : World) : (Instr.findKey 9 (.string fourW) [ent0]).run Tryz.prog w = .ok none w := MapKept.run_findKey Tryz.underlying9 (by kernel_rfl)
theorem find_len2 (w : World) : (Instr.findKey 9 (.string lenW) [ent0, ent1]).run Tryz.prog w = .ok (some (0, .int .i64 0)) w := MapKept.run_findKey Tryz.underlying9 (by kernel_rfl)
variable {w : World} {mp : Nat}
theorem look_nil (s : ByteArray) (c : Nat) (h : w.heap[mp]? = some (.map #[] c)) : (Instr.lookup 108 (.map (some mp)) (.string s) true).run Tryz.prog w = .ok (.tuple #[.int .i64 0, .bool false]) w := by
  simp [Instr.lookup, run_underlying Tryz.underlying108, MapKept.run_getObj_map h, key_any, find_nil, Result.andThen]
theorem look_len1 (c : Nat) (h : w.heap[mp]? = some (.map #[ent0] c)) : (Instr.lookup 108 (.map (some mp)) (.string lenW) true).run Tryz.prog w = .ok (.tuple #[.int .i64 0, .bool true]) w := by
  simp [Instr.lookup, run_underlying Tryz.underlying108, MapKept.run_getObj_map h, key_any, find_len1, Result.andThen]
theorem look_four1 (c : Nat) (h : w.heap[mp]? = some (.map #[ent0] c)) : (Instr.lookup 108 (.map (some mp)) (.string fourW) true).run Tryz.prog w = .ok (.tuple #[.int .i64 0, .bool false]) w := by
  simp [Instr.lookup, run_underlying Tryz.underlying108, MapKept.run_getObj_map h, key_any, find_four1, Result.andThen]
theorem look_len2 (c : Nat) (h : w.heap[mp]? = some (.map #[ent0, ent1] c)) : (Instr.lookup 108 (.map (some mp)) (.string lenW) true).run Tryz.prog w = .ok (.tuple #[.int .i64 0, .bool true]) w := by
  simp [Instr.lookup, run_underlying Tryz.underlying108, MapKept.run_getObj_map h, key_any, find_len2, Result.andThen]
theorem at_len1 (c : Nat) (h : w.heap[mp]? = some (.map #[ent0] c)) : (Instr.lookup 108 (.map (some mp)) (.string lenW) false).run Tryz.prog w = .ok (.int .i64 0) w := by
  simp [Instr.lookup, run_underlying Tryz.underlying108, MapKept.run_getObj_map h, key_any, find_len1, Result.andThen]
theorem at_len2 (c : Nat) (h : w.heap[mp]? = some (.map #[ent0, ent1] c)) : (Instr.lookup 108 (.map (some mp)) (.string lenW) false).run Tryz.prog w = .ok (.int .i64 0) w := by
  simp [Instr.lookup, run_underlying Tryz.underlying108, MapKept.run_getObj_map h, key_any, find_len2, Result.andThen]

/-- A map's block, laid anew. -/
def putMap (w : World) (nm : Nat) (o : Obj) : World := { w with heap := w.heap.setIfInBounds nm o }
theorem putMap_block (w : World) (nm : Nat) (o : Obj) (k : Nat) (h : k ≠ nm) : (putMap w nm o).heap[k]? = w.heap[k]? := by
  unfold putMap
  simp [Ne.symm h]
theorem putMap_at {nm : Nat} {o o' : Obj} (h : w.heap[nm]? = some o') : (putMap w nm o).heap[nm]? = some o := by
  have hl := (Array.getElem?_eq_some_iff.1 h).1
  unfold putMap
  simp [hl]
theorem putMap_size (w : World) (nm : Nat) (o : Obj) : (putMap w nm o).heap.size = w.heap.size := by
  unfold putMap
  simp
theorem HasB.putMap {b : Nat} {cs : Array Value} {t : TypeId} (h : HasB w b cs t) {nm : Nat} (hne : b ≠ nm) (o : Obj) : HasB (putMap w nm o) b cs t := (putMap_block w nm o b hne).trans h
theorem below_putMap {B nm : Nat} {a : World} (h : Below B a w) (hB : B ≤ nm) (o : Obj) : Below B a (putMap w nm o) :=
  ⟨h.os, h.tape, h.output, by rw [putMap_size]; exact h.size, fun k hk => (putMap_block w nm o k (by omega)).trans (h.block k hk)⟩
theorem ne_map {b nm : Nat} {cs : Array Value} {t : TypeId} {es : Array MapEntry} {c : Nat} (h : HasB w b cs t) (hn : w.heap[nm]? = some (.map es c)) : b ≠ nm := by
  rintro rfl
  have := h.symm.trans hn
  cases this
theorem upd_nil (h : w.heap[mp]? = some (.map #[] 0)) : (Instr.mapUpdate 108 (.map (some mp)) (.string lenW) (.int .i64 0)).run Tryz.prog w = .ok () (putMap w mp (.map #[ent0] 1)) := by
  simp [Instr.mapUpdate, run_underlying Tryz.underlying108, MapKept.run_getObj_map h, key_any, find_nil, MapKept.run_setObj_map _ h, Result.andThen, putMap]
theorem upd_one (h : w.heap[mp]? = some (.map #[ent0] 1)) : (Instr.mapUpdate 108 (.map (some mp)) (.string fourW) (.int .i64 1)).run Tryz.prog w = .ok () (putMap w mp (.map #[ent0, ent1] 2)) := by
  simp [Instr.mapUpdate, run_underlying Tryz.underlying108, MapKept.run_getObj_map h, key_any, find_four1, MapKept.run_setObj_map _ h, Result.andThen, putMap]
end Go.Proofs.YthdccijielekcaaGreatDoor
