/-
  Small facts on blocks that are known whole: behind an append, behind a store. No condition.
-/
import Derived.Test.YtngodcoefmihlaaGreatDoorKit
namespace Go.Proofs.YtngodcoefmihlaaGreatDoor
open Go.RowKit

theorem HasB.grown {w w' : World} {b : Nat} {cs : Array Value} {t : TypeId} {v : Value} {o : Obj} {base e size n : Nat} {xs : List Value} (h : HasB w b cs t) (hown : w.ownsRow base e size v n xs) (hb : b < base) (hg : (w.alloc o).grownBy w' v.ownBlock) : HasB w' b cs t :=
  (hg.block b (by have := h.lt; simp; omega) (fun hh => by have := (hown.lt b hh.symm).1; omega)).trans (h.alloc o)
theorem HasB.set {w : World} {b : Nat} {cs : Array Value} {t : TypeId} (h : HasB w b cs t) (i : Nat) (v : Value) : HasB (w.setCell ⟨b, i, none⟩ v) b (cs.setIfInBounds i v) t := by
  unfold HasB at h ⊢
  simp [World.setCell, Array.getElem?_modify, h]
theorem HasB.far {w : World} {b : Nat} {cs : Array Value} {t : TypeId} (h : HasB w b cs t) {a : Addr} (hne : b ≠ a.block) (v : Value) : HasB (w.setCell a v) b cs t := (Below.heap_setCell w a v b hne).trans h
theorem ownsRow_far {w : World} {base e size n : Nat} {v : Value} {xs : List Value} (h : w.ownsRow base e size v n xs) {a : Addr} (ha : a.block < base) (u : Value) : (w.setCell a u).ownsRow base e size v n xs := ownsRow_setCell_below h ha u

/-- What owns a row is a slice. -/
theorem own_shape {w : World} {base e size n : Nat} {v : Value} {xs : List Value} (h : w.ownsRow base e size v n xs) : ∃ a c, v = .slice a n c := by
  rcases h.2 with ⟨rfl, rfl⟩ | ⟨g, cap, cur, rfl, _⟩
  · exact ⟨none, 0, rfl⟩
  · exact ⟨_, _, rfl⟩
end Go.Proofs.YtngodcoefmihlaaGreatDoor
