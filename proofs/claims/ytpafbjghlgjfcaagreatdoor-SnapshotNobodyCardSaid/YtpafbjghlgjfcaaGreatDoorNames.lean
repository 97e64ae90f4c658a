/-
  The teller's map of names: what is looked up, and what is laid into it: of no name yet, and of one. No condition.
-/
import Derived.Test.YtpafbjghlgjfcaaGreatDoorQueue
import Derived.WideMake
namespace Go.Proofs.YtpafbjghlgjfcaaGreatDoor
open Go.RowKit

/-- The key of an object's name. -/
abbrev thing (n : Int) : Value := .agg #[.bool false, .int .i64 n]
theorem check_thing (e : Bool) (w : World) : (Instr.checkKey e 10000 60 (thing 0)).run Tryz.prog w = .ok () w := by
  cases e <;> kernel_rfl
theorem equal_thing (w : World) : (Op.equal 60 (thing 0) (thing 0)).run Tryz.prog w = .ok true w := by kernel_rfl
theorem find_none (w : World) : (Instr.findKey 60 (thing 0) []).run Tryz.prog w = .ok none w := by kernel_rfl
theorem find_one (w : World) (v : Value) (b : Nat) : (Instr.findKey 60 (thing 0) [{ key := thing 0, val := v, born := b }]).run Tryz.prog w = .ok (some (0, v)) w := by
  kernel_rfl
theorem zero_int (w : World) : (zeroValue 3).run Tryz.prog w = .ok (.int .i64 0) w := by kernel_rfl

theorem look_none (nm : Nat) (w : World) (hb : w.heap[nm]? = some (.map #[] 0)) : (Instr.lookup 42 (.map (some nm)) (thing 0) true).run Tryz.prog w = .ok (.tuple #[.int .i64 0, .bool false]) w := by
  simp [Instr.lookup, run_underlying Tryz.underlying42, MapKept.run_getObj_map hb, check_thing, find_none, Result.andThen]
theorem look_one (nm : Nat) (v : Value) (b c : Nat) (w : World) (hb : w.heap[nm]? = some (.map #[{ key := thing 0, val := v, born := b }] c)) : (Instr.lookup 42 (.map (some nm)) (thing 0) true).run Tryz.prog w = .ok (.tuple #[v, .bool true]) w := by
  simp [Instr.lookup, run_underlying Tryz.underlying42, MapKept.run_getObj_map hb, check_thing, find_one, Result.andThen]
/-- A map's block, laid anew. -/
def mapSet (w : World) (nm : Nat) (o : Obj) : World := { w with heap := w.heap.setIfInBounds nm o }
theorem mapSet_block (w : World) (nm : Nat) (o : Obj) (k : Nat) (h : k ≠ nm) : (mapSet w nm o).heap[k]? = w.heap[k]? := by
  unfold mapSet
  simp [Ne.symm h]
theorem mapSet_at (w : World) (nm : Nat) (o o' : Obj) (h : w.heap[nm]? = some o') : (mapSet w nm o).heap[nm]? = some o := by
  have hl := (Array.getElem?_eq_some_iff.1 h).1
  unfold mapSet
  simp [hl]
theorem mapSet_size (w : World) (nm : Nat) (o : Obj) : (mapSet w nm o).heap.size = w.heap.size := by
  unfold mapSet
  simp
theorem update_none (nm : Nat) (v : Value) (w : World) (hb : w.heap[nm]? = some (.map #[] 0)) :
    (Instr.mapUpdate 42 (.map (some nm)) (thing 0) v).run Tryz.prog w = .ok () (mapSet w nm (.map #[{ key := thing 0, val := v, born := 0 }] 1)) := by
  simp [Instr.mapUpdate, run_underlying Tryz.underlying42, MapKept.run_getObj_map hb, check_thing, find_none, MapKept.run_setObj_map _ hb, Result.andThen, mapSet]
theorem HasB.mapSet {w : World} {b : Nat} {cs : Array Value} {t : TypeId} (h : HasB w b cs t) {nm : Nat} (hne : b ≠ nm) (o : Obj) : HasB (mapSet w nm o) b cs t := (mapSet_block w nm o b hne).trans h
theorem cells_ne_map {w : World} {b nm : Nat} {cs : Array Value} {t : TypeId} {es : Array MapEntry} {c : Nat} (h : HasB w b cs t) (hn : w.heap[nm]? = some (.map es c)) : b ≠ nm := by
  rintro rfl
  have := h.symm.trans hn
  cases this
end Go.Proofs.YtpafbjghlgjfcaaGreatDoor
