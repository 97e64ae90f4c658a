/-
  The law on heaps that nobody made, for every call handed in: true. Condition: the call has all its cells.
-/
import Derived.Test.YthdccijielekcaaGreatDoorNoAwake
import Derived.Test.YthdccijielekcaaGreatDoorNoRound
import Derived.Test.YthdccijielekcaaGreatDoorOpenCall
namespace Go.Proofs.YthdccijielekcaaGreatDoor
open Go.RowKit

theorem law_HeapNobody (dd : Value) (o : Int) (s : ByteArray) (l : List Value) (hl : l.length = 33) (W : World) :
    Calls Tryz.prog 4 #[.agg ⟨dd :: .int .i64 o :: .string s :: l⟩] W fun e w' => e = .returned (.bool true) ∧ Below W.heap.size W w' := by
  obtain ⟨c0, c1, c2, l, rfl, h101⟩ := list3 (n := 30) hl
  obtain ⟨c3, c4, c5, l, rfl, h102⟩ := list3 (n := 27) h101
  obtain ⟨c6, c7, c8, l, rfl, h103⟩ := list3 (n := 24) h102
  obtain ⟨c9, c10, c11, l, rfl, h104⟩ := list3 (n := 21) h103
  obtain ⟨c12, c13, c14, l, rfl, h105⟩ := list3 (n := 18) h104
  obtain ⟨c15, c16, c17, l, rfl, h106⟩ := list3 (n := 15) h105
  obtain ⟨c18, x0, x1, l, rfl, h107⟩ := list3 (n := 12) h106
  obtain ⟨x2, x3, x4, l, rfl, h108⟩ := list3 (n := 9) h107
  obtain ⟨x5, x6, x7, l, rfl, h109⟩ := list3 (n := 6) h108
  obtain ⟨x8, x9, x10, l, rfl, h110⟩ := list3 (n := 3) h109
  obtain ⟨x11, x12, n, l, rfl, h111⟩ := list3 (n := 0) h110
  obtain rfl := List.length_eq_zero_iff.1 h111
  exact heapNobody_walk dd o s c0 c1 c2 c3 c4 c5 c6 c7 c8 c9 c10 c11 c12 c13 c14 c15 c16 c17 c18 x0 x1 x2 x3 x4 x5 x6 x7 x8 x9 x10 x11 x12 n W law13_awake
end Go.Proofs.YthdccijielekcaaGreatDoor
