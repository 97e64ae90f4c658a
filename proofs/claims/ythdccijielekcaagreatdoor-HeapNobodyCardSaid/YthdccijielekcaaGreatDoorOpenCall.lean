/-
  What is done to a heap, handed in by value: what its reading as data gives of its object's number and its key. No condition.
-/
import Derived.Test.YthdccijielekcaaGreatDoorBase
import Derived.ProofKit
import Derived.Laws.Cover2
namespace Go.Proofs.YthdccijielekcaaGreatDoor
open Go.ChangeShapes Go.WideShapes Go.RowKit

theorem cellsOf_call : Tryz.prog.cellsOf 45 = 36 := by kernel_rfl
theorem cellsOf_int : Tryz.prog.cellsOf 3 = 1 := by kernel_rfl
theorem cellsOf_string : Tryz.prog.cellsOf 9 = 1 := by kernel_rfl
theorem fields_call : ∃ f0 f1 f2 f3 f4 f5 : Field, Tryz.prog.underlying 45 = some (.struct #[f0, f1, f2, f3, f4, f5]) ∧ f1.type = 3 ∧ f1.offset = 1 ∧ f2.type = 9 ∧ f2.offset = 2 :=
  ⟨_, _, _, _, _, _, Tryz.underlying45, rfl, rfl, rfl, rfl⟩

theorem list3 {α : Type} {l : List α} {n : Nat} (h : l.length = n + 3) : ∃ a b c r, l = a :: b :: c :: r ∧ r.length = n := by
  match l, h with
  | a :: b :: c :: r, h => exact ⟨a, b, c, r, rfl, by simpa using h⟩
set_option maxRecDepth 100000 in
theorem open_call {H : Type} {enc : TypeId × Value → H} {w : World} {base : Nat} {spare : Nat → Bool} {held : Bool} {r : Reach} {b0 : Nat} {v : Value} {d : DataW H} {p : List MemPlace}
    (hv : Value.okWide Tryz.prog w r b0 45 v) (h : DataW.Trod enc Tryz.prog w base spare held 45 v d p) :
    ∃ (d0 : Value) (o : Int) (s : ByteArray) (l : List Value), v = .agg ⟨d0 :: .int .i64 o :: .string s :: l⟩ ∧ l.length = 33 := by
  obtain ⟨f0, f1, f2, f3, f4, f5, hs, t1, o1, t2, o2⟩ := fields_call
  obtain ⟨cs, rfl, hsz⟩ := okWide_struct hs hv
  rw [cellsOf_call] at hsz
  obtain ⟨l⟩ := cs
  obtain ⟨c0, c1, c2, l, rfl, hl⟩ := list3 (n := 33) (l := l) (by simpa using hsz)
  obtain ⟨fuel, hf⟩ := h
  obtain ⟨xs, n, _, hx, _, hlen, hg⟩ := DataW.trod_struct hs hf
  match xs, hlen with
  | [y0, y1, y2, y3, y4, y5], _ =>
    have g1 := hg 1 f1 rfl
    have g2 := hg 2 f2 rfl
    rw [t1, o1, cellsOf_int, show ((Value.agg ⟨c0 :: c1 :: c2 :: l⟩).cells.toList.drop 1).take 1 = [c1] from rfl] at g1
    rw [t2, o2, cellsOf_string, show ((Value.agg ⟨c0 :: c1 :: c2 :: l⟩).cells.toList.drop 2).take 1 = [c2] from rfl] at g2
    obtain ⟨o, e1, -, -⟩ := DataW.trod_int Tryz.underlying3 g1
    obtain ⟨s, e2, -, -⟩ := DataW.trod_string Tryz.underlying9 g2
    simp only [List.cons.injEq, and_true] at e1 e2
    subst e1 e2
    exact ⟨c0, o, s, l, rfl, hl⟩
end Go.Proofs.YthdccijielekcaaGreatDoor
