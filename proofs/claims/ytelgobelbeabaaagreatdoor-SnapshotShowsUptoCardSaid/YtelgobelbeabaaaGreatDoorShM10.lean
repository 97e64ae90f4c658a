/-
  Small facts on blocks that are known whole: behind an append, behind a store. No condition. Small facts on blocks that are known whole, behind the store of a struct of so many cells; the world at a call under a name of its own. No condition. Contracts of internal/strconv's scaling: prescale's look-ups, uscale, and what is made of its answer. Conditions: the table of powers of ten lies where it lies; the numbers are words. A contract of internal/strconv.uscale. Conditions: the numbers are words; the product's upper word is not nought.
-/
import Derived.Test.YtelgobelbeabaaaGreatDoorShM4
import Derived.Test.YtelgobelbeabaaaGreatDoorShM9
import Derived.Handy
import Derived.Test.YtelgobelbeabaaaGreatDoorShM7
import Derived.Test.YtelgobelbeabaaaGreatDoorShM3
namespace Go.Proofs.YtelgobelbeabaaaGreatDoor
open Go.RowKit

theorem HasB.grown {w w' : World} {b : Nat} {cs : Array Value} {t : TypeId} {v : Value} {o : Obj} {base e size n : Nat} {xs : List Value} (h : HasB w b cs t) (hown : w.ownsRow base e size v n xs) (hb : b < base) (hg : (w.alloc o).grownBy w' v.ownBlock) : HasB w' b cs t :=
  (hg.block b (by have := h.lt; simp; omega) (fun hh => by have := (hown.lt b hh.symm).1; omega)).trans (h.alloc o)
theorem HasB.set {w : World} {b : Nat} {cs : Array Value} {t : TypeId} (h : HasB w b cs t) (i : Nat) (v : Value) : HasB (w.setCell ⟨b, i, none⟩ v) b (cs.setIfInBounds i v) t := by
  unfold HasB at h ⊢
  simp [World.setCell, Array.getElem?_modify, h]
theorem HasB.far {w : World} {b : Nat} {cs : Array Value} {t : TypeId} (h : HasB w b cs t) {a : Addr} (hne : b ≠ a.block) (v : Value) : HasB (w.setCell a v) b cs t := (Below.heap_setCell w a v b hne).trans h
theorem ownsRow_far {w : World} {base e size n : Nat} {v : Value} {xs : List Value} (h : w.ownsRow base e size v n xs) {a : Addr} (ha : a.block < base) (u : Value) : (w.setCell a u).ownsRow base e size v n xs := ownsRow_setCell_below h ha u

/-- What owns a row is a slice. -/
theorem own_shape {w : World} {base e size n : Nat} {v : Value} {xs : List Value} (h : w.ownsRow base e size v n xs) : ∃ a c, v = .slice a n c := by
  rcases h.2 with ⟨rfl, rfl⟩ | ⟨g, cap, cur, rfl, _⟩
  · exact ⟨none, 0, rfl⟩
  · exact ⟨_, _, rfl⟩
end Go.Proofs.YtelgobelbeabaaaGreatDoor
namespace Go.Proofs.YtelgobelbeabaaaGreatDoor
open Go.RowKit

/-- The world at a call, and what is known of it: it goes on under a name of its own. -/
theorem calls_gen {p : Program} {f : FuncId} {a : Array Value} {W : World} {Q : Ending → World → Prop} (P : World → Prop) (h : P W) (k : ∀ W', P W' → Calls p f a W' Q) : Calls p f a W Q := k W h
theorem wp_gen {p : Program} {c : Code} {a : Act} {W : World} {Q : Exit → Act → World → Prop} (P : World → Prop) (h : P W) (k : ∀ W', P W' → Code.wp p c Q a W') : Code.wp p c Q a W := k W h
theorem post_gen {p : Program} {f : Func} {R : Ending → World → Prop} {x : Exit} {a : Act} {W : World} (P : World → Prop) (h : P W) (k : ∀ W', P W' → bodyPost p f R x a W') : bodyPost p f R x a W := k W h
theorem HasB.newAt {w : World} {cs : Array Value} {t : TypeId} {n : Nat} (hn : n = w.heap.size) : HasB (w.alloc (.cells cs t)) n cs t := by
  subst hn
  exact HasB.new w cs t
theorem cell_far {w : World} {a p : Addr} {v u : Value} (h : w.cell? p = some u) (hne : p.block ≠ a.block) : (w.setCell a v).cell? p = some u := (World.cell?_of_block (Below.heap_setCell w a v p.block hne)).trans h

theorem HasB.set2 {w : World} {b : Nat} {t : TypeId} {a0 a1 v0 v1 : Value} (h : HasB w b #[a0, a1] t) : HasB ((w.setCell ⟨b, 0, none⟩ v0).setCell ⟨b, 1, none⟩ v1) b #[v0, v1] t := by
  have h := (HasB.set (HasB.set h 0 v0) 1 v1)
  simp at h
  exact h
theorem HasB.off2 {w : World} {b c : Nat} {cs : Array Value} {t : TypeId} {v0 v1 : Value} (h : HasB w c cs t) (hne : c ≠ b) : HasB ((w.setCell ⟨b, 0, none⟩ v0).setCell ⟨b, 1, none⟩ v1) c cs t := (HasB.far (HasB.far h hne v0) hne v1)
theorem below_set2 {B : Nat} {a w : World} {b : Nat} {v0 v1 : Value} (h : Below B a w) (hB : B ≤ b) : Below B a ((w.setCell ⟨b, 0, none⟩ v0).setCell ⟨b, 1, none⟩ v1) := (Below.setCell (Below.setCell h hB v0) hB v1)
theorem cell_off2 {w : World} {b : Nat} {p : Addr} {u v0 v1 : Value} (h : w.cell? p = some u) (hne : p.block ≠ b) : ((w.setCell ⟨b, 0, none⟩ v0).setCell ⟨b, 1, none⟩ v1).cell? p = some u := (cell_far (cell_far h hne) hne)

theorem HasB.set3 {w : World} {b : Nat} {t : TypeId} {a0 a1 a2 v0 v1 v2 : Value} (h : HasB w b #[a0, a1, a2] t) : HasB (((w.setCell ⟨b, 0, none⟩ v0).setCell ⟨b, 1, none⟩ v1).setCell ⟨b, 2, none⟩ v2) b #[v0, v1, v2] t := by
  have h := (HasB.set (HasB.set (HasB.set h 0 v0) 1 v1) 2 v2)
  simp at h
  exact h
theorem HasB.off3 {w : World} {b c : Nat} {cs : Array Value} {t : TypeId} {v0 v1 v2 : Value} (h : HasB w c cs t) (hne : c ≠ b) : HasB (((w.setCell ⟨b, 0, none⟩ v0).setCell ⟨b, 1, none⟩ v1).setCell ⟨b, 2, none⟩ v2) c cs t := (HasB.far (HasB.far (HasB.far h hne v0) hne v1) hne v2)
theorem below_set3 {B : Nat} {a w : World} {b : Nat} {v0 v1 v2 : Value} (h : Below B a w) (hB : B ≤ b) : Below B a (((w.setCell ⟨b, 0, none⟩ v0).setCell ⟨b, 1, none⟩ v1).setCell ⟨b, 2, none⟩ v2) := (Below.setCell (Below.setCell (Below.setCell h hB v0) hB v1) hB v2)
theorem cell_off3 {w : World} {b : Nat} {p : Addr} {u v0 v1 v2 : Value} (h : w.cell? p = some u) (hne : p.block ≠ b) : (((w.setCell ⟨b, 0, none⟩ v0).setCell ⟨b, 1, none⟩ v1).setCell ⟨b, 2, none⟩ v2).cell? p = some u := (cell_far (cell_far (cell_far h hne) hne) hne)

theorem HasB.set5 {w : World} {b : Nat} {t : TypeId} {a0 a1 a2 a3 a4 v0 v1 v2 v3 v4 : Value} (h : HasB w b #[a0, a1, a2, a3, a4] t) : HasB (((((w.setCell ⟨b, 0, none⟩ v0).setCell ⟨b, 1, none⟩ v1).setCell ⟨b, 2, none⟩ v2).setCell ⟨b, 3, none⟩ v3).setCell ⟨b, 4, none⟩ v4) b #[v0, v1, v2, v3, v4] t := by
  have h := (HasB.set (HasB.set (HasB.set (HasB.set (HasB.set h 0 v0) 1 v1) 2 v2) 3 v3) 4 v4)
  simp at h
  exact h
theorem HasB.off5 {w : World} {b c : Nat} {cs : Array Value} {t : TypeId} {v0 v1 v2 v3 v4 : Value} (h : HasB w c cs t) (hne : c ≠ b) : HasB (((((w.setCell ⟨b, 0, none⟩ v0).setCell ⟨b, 1, none⟩ v1).setCell ⟨b, 2, none⟩ v2).setCell ⟨b, 3, none⟩ v3).setCell ⟨b, 4, none⟩ v4) c cs t := (HasB.far (HasB.far (HasB.far (HasB.far (HasB.far h hne v0) hne v1) hne v2) hne v3) hne v4)
theorem below_set5 {B : Nat} {a w : World} {b : Nat} {v0 v1 v2 v3 v4 : Value} (h : Below B a w) (hB : B ≤ b) : Below B a (((((w.setCell ⟨b, 0, none⟩ v0).setCell ⟨b, 1, none⟩ v1).setCell ⟨b, 2, none⟩ v2).setCell ⟨b, 3, none⟩ v3).setCell ⟨b, 4, none⟩ v4) := (Below.setCell (Below.setCell (Below.setCell (Below.setCell (Below.setCell h hB v0) hB v1) hB v2) hB v3) hB v4)
theorem cell_off5 {w : World} {b : Nat} {p : Addr} {u v0 v1 v2 v3 v4 : Value} (h : w.cell? p = some u) (hne : p.block ≠ b) : (((((w.setCell ⟨b, 0, none⟩ v0).setCell ⟨b, 1, none⟩ v1).setCell ⟨b, 2, none⟩ v2).setCell ⟨b, 3, none⟩ v3).setCell ⟨b, 4, none⟩ v4).cell? p = some u := (cell_far (cell_far (cell_far (cell_far (cell_far h hne) hne) hne) hne) hne)

theorem HasB.set7 {w : World} {b : Nat} {t : TypeId} {a0 a1 a2 a3 a4 a5 a6 v0 v1 v2 v3 v4 v5 v6 : Value} (h : HasB w b #[a0, a1, a2, a3, a4, a5, a6] t) : HasB (((((((w.setCell ⟨b, 0, none⟩ v0).setCell ⟨b, 1, none⟩ v1).setCell ⟨b, 2, none⟩ v2).setCell ⟨b, 3, none⟩ v3).setCell ⟨b, 4, none⟩ v4).setCell ⟨b, 5, none⟩ v5).setCell ⟨b, 6, none⟩ v6) b #[v0, v1, v2, v3, v4, v5, v6] t := by
  have h := (HasB.set (HasB.set (HasB.set (HasB.set (HasB.set (HasB.set (HasB.set h 0 v0) 1 v1) 2 v2) 3 v3) 4 v4) 5 v5) 6 v6)
  simp at h
  exact h
theorem HasB.off7 {w : World} {b c : Nat} {cs : Array Value} {t : TypeId} {v0 v1 v2 v3 v4 v5 v6 : Value} (h : HasB w c cs t) (hne : c ≠ b) : HasB (((((((w.setCell ⟨b, 0, none⟩ v0).setCell ⟨b, 1, none⟩ v1).setCell ⟨b, 2, none⟩ v2).setCell ⟨b, 3, none⟩ v3).setCell ⟨b, 4, none⟩ v4).setCell ⟨b, 5, none⟩ v5).setCell ⟨b, 6, none⟩ v6) c cs t := (HasB.far (HasB.far (HasB.far (HasB.far (HasB.far (HasB.far (HasB.far h hne v0) hne v1) hne v2) hne v3) hne v4) hne v5) hne v6)
theorem below_set7 {B : Nat} {a w : World} {b : Nat} {v0 v1 v2 v3 v4 v5 v6 : Value} (h : Below B a w) (hB : B ≤ b) : Below B a (((((((w.setCell ⟨b, 0, none⟩ v0).setCell ⟨b, 1, none⟩ v1).setCell ⟨b, 2, none⟩ v2).setCell ⟨b, 3, none⟩ v3).setCell ⟨b, 4, none⟩ v4).setCell ⟨b, 5, none⟩ v5).setCell ⟨b, 6, none⟩ v6) := (Below.setCell (Below.setCell (Below.setCell (Below.setCell (Below.setCell (Below.setCell (Below.setCell h hB v0) hB v1) hB v2) hB v3) hB v4) hB v5) hB v6)
theorem cell_off7 {w : World} {b : Nat} {p : Addr} {u v0 v1 v2 v3 v4 v5 v6 : Value} (h : w.cell? p = some u) (hne : p.block ≠ b) : (((((((w.setCell ⟨b, 0, none⟩ v0).setCell ⟨b, 1, none⟩ v1).setCell ⟨b, 2, none⟩ v2).setCell ⟨b, 3, none⟩ v3).setCell ⟨b, 4, none⟩ v4).setCell ⟨b, 5, none⟩ v5).setCell ⟨b, 6, none⟩ v6).cell? p = some u := (cell_far (cell_far (cell_far (cell_far (cell_far (cell_far (cell_far h hne) hne) hne) hne) hne) hne) hne)

theorem HasB.set13 {w : World} {b : Nat} {t : TypeId} {a0 a1 a2 a3 a4 a5 a6 a7 a8 a9 a10 a11 a12 v0 v1 v2 v3 v4 v5 v6 v7 v8 v9 v10 v11 v12 : Value} (h : HasB w b #[a0, a1, a2, a3, a4, a5, a6, a7, a8, a9, a10, a11, a12] t) : HasB (((((((((((((w.setCell ⟨b, 0, none⟩ v0).setCell ⟨b, 1, none⟩ v1).setCell ⟨b, 2, none⟩ v2).setCell ⟨b, 3, none⟩ v3).setCell ⟨b, 4, none⟩ v4).setCell ⟨b, 5, none⟩ v5).setCell ⟨b, 6, none⟩ v6).setCell ⟨b, 7, none⟩ v7).setCell ⟨b, 8, none⟩ v8).setCell ⟨b, 9, none⟩ v9).setCell ⟨b, 10, none⟩ v10).setCell ⟨b, 11, none⟩ v11).setCell ⟨b, 12, none⟩ v12) b #[v0, v1, v2, v3, v4, v5, v6, v7, v8, v9, v10, v11, v12] t := by
  have h := (HasB.set (HasB.set (HasB.set (HasB.set (HasB.set (HasB.set (HasB.set (HasB.set (HasB.set (HasB.set (HasB.set (HasB.set (HasB.set h 0 v0) 1 v1) 2 v2) 3 v3) 4 v4) 5 v5) 6 v6) 7 v7) 8 v8) 9 v9) 10 v10) 11 v11) 12 v12)
  simp at h
  exact h
theorem HasB.off13 {w : World} {b c : Nat} {cs : Array Value} {t : TypeId} {v0 v1 v2 v3 v4 v5 v6 v7 v8 v9 v10 v11 v12 : Value} (h : HasB w c cs t) (hne : c ≠ b) : HasB (((((((((((((w.setCell ⟨b, 0, none⟩ v0).setCell ⟨b, 1, none⟩ v1).setCell ⟨b, 2, none⟩ v2).setCell ⟨b, 3, none⟩ v3).setCell ⟨b, 4, none⟩ v4).setCell ⟨b, 5, none⟩ v5).setCell ⟨b, 6, none⟩ v6).setCell ⟨b, 7, none⟩ v7).setCell ⟨b, 8, none⟩ v8).setCell ⟨b, 9, none⟩ v9).setCell ⟨b, 10, none⟩ v10).setCell ⟨b, 11, none⟩ v11).setCell ⟨b, 12, none⟩ v12) c cs t := (HasB.far (HasB.far (HasB.far (HasB.far (HasB.far (HasB.far (HasB.far (HasB.far (HasB.far (HasB.far (HasB.far (HasB.far (HasB.far h hne v0) hne v1) hne v2) hne v3) hne v4) hne v5) hne v6) hne v7) hne v8) hne v9) hne v10) hne v11) hne v12)
theorem below_set13 {B : Nat} {a w : World} {b : Nat} {v0 v1 v2 v3 v4 v5 v6 v7 v8 v9 v10 v11 v12 : Value} (h : Below B a w) (hB : B ≤ b) : Below B a (((((((((((((w.setCell ⟨b, 0, none⟩ v0).setCell ⟨b, 1, none⟩ v1).setCell ⟨b, 2, none⟩ v2).setCell ⟨b, 3, none⟩ v3).setCell ⟨b, 4, none⟩ v4).setCell ⟨b, 5, none⟩ v5).setCell ⟨b, 6, none⟩ v6).setCell ⟨b, 7, none⟩ v7).setCell ⟨b, 8, none⟩ v8).setCell ⟨b, 9, none⟩ v9).setCell ⟨b, 10, none⟩ v10).setCell ⟨b, 11, none⟩ v11).setCell ⟨b, 12, none⟩ v12) := (Below.setCell (Below.setCell (Below.setCell (Below.setCell (Below.setCell (Below.setCell (Below.setCell (Below.setCell (Below.setCell (Below.setCell (Below.setCell (Below.setCell (Below.setCell h hB v0) hB v1) hB v2) hB v3) hB v4) hB v5) hB v6) hB v7) hB v8) hB v9) hB v10) hB v11) hB v12)
theorem cell_off13 {w : World} {b : Nat} {p : Addr} {u v0 v1 v2 v3 v4 v5 v6 v7 v8 v9 v10 v11 v12 : Value} (h : w.cell? p = some u) (hne : p.block ≠ b) : (((((((((((((w.setCell ⟨b, 0, none⟩ v0).setCell ⟨b, 1, none⟩ v1).setCell ⟨b, 2, none⟩ v2).setCell ⟨b, 3, none⟩ v3).setCell ⟨b, 4, none⟩ v4).setCell ⟨b, 5, none⟩ v5).setCell ⟨b, 6, none⟩ v6).setCell ⟨b, 7, none⟩ v7).setCell ⟨b, 8, none⟩ v8).setCell ⟨b, 9, none⟩ v9).setCell ⟨b, 10, none⟩ v10).setCell ⟨b, 11, none⟩ v11).setCell ⟨b, 12, none⟩ v12).cell? p = some u := (cell_far (cell_far (cell_far (cell_far (cell_far (cell_far (cell_far (cell_far (cell_far (cell_far (cell_far (cell_far (cell_far h hne) hne) hne) hne) hne) hne) hne) hne) hne) hne) hne) hne) hne)

theorem HasB.set14 {w : World} {b : Nat} {t : TypeId} {a0 a1 a2 a3 a4 a5 a6 a7 a8 a9 a10 a11 a12 a13 v0 v1 v2 v3 v4 v5 v6 v7 v8 v9 v10 v11 v12 v13 : Value} (h : HasB w b #[a0, a1, a2, a3, a4, a5, a6, a7, a8, a9, a10, a11, a12, a13] t) : HasB ((((((((((((((w.setCell ⟨b, 0, none⟩ v0).setCell ⟨b, 1, none⟩ v1).setCell ⟨b, 2, none⟩ v2).setCell ⟨b, 3, none⟩ v3).setCell ⟨b, 4, none⟩ v4).setCell ⟨b, 5, none⟩ v5).setCell ⟨b, 6, none⟩ v6).setCell ⟨b, 7, none⟩ v7).setCell ⟨b, 8, none⟩ v8).setCell ⟨b, 9, none⟩ v9).setCell ⟨b, 10, none⟩ v10).setCell ⟨b, 11, none⟩ v11).setCell ⟨b, 12, none⟩ v12).setCell ⟨b, 13, none⟩ v13) b #[v0, v1, v2, v3, v4, v5, v6, v7, v8, v9, v10, v11, v12, v13] t := by
  have h := (HasB.set (HasB.set (HasB.set (HasB.set (HasB.set (HasB.set (HasB.set (HasB.set (HasB.set (HasB.set (HasB.set (HasB.set (HasB.set (HasB.set h 0 v0) 1 v1) 2 v2) 3 v3) 4 v4) 5 v5) 6 v6) 7 v7) 8 v8) 9 v9) 10 v10) 11 v11) 12 v12) 13 v13)
  simp at h
  exact h
theorem HasB.off14 {w : World} {b c : Nat} {cs : Array Value} {t : TypeId} {v0 v1 v2 v3 v4 v5 v6 v7 v8 v9 v10 v11 v12 v13 : Value} (h : HasB w c cs t) (hne : c ≠ b) : HasB ((((((((((((((w.setCell ⟨b, 0, none⟩ v0).setCell ⟨b, 1, none⟩ v1).setCell ⟨b, 2, none⟩ v2).setCell ⟨b, 3, none⟩ v3).setCell ⟨b, 4, none⟩ v4).setCell ⟨b, 5, none⟩ v5).setCell ⟨b, 6, none⟩ v6).setCell ⟨b, 7, none⟩ v7).setCell ⟨b, 8, none⟩ v8).setCell ⟨b, 9, none⟩ v9).setCell ⟨b, 10, none⟩ v10).setCell ⟨b, 11, none⟩ v11).setCell ⟨b, 12, none⟩ v12).setCell ⟨b, 13, none⟩ v13) c cs t := (HasB.far (HasB.far (HasB.far (HasB.far (HasB.far (HasB.far (HasB.far (HasB.far (HasB.far (HasB.far (HasB.far (HasB.far (HasB.far (HasB.far h hne v0) hne v1) hne v2) hne v3) hne v4) hne v5) hne v6) hne v7) hne v8) hne v9) hne v10) hne v11) hne v12) hne v13)
theorem below_set14 {B : Nat} {a w : World} {b : Nat} {v0 v1 v2 v3 v4 v5 v6 v7 v8 v9 v10 v11 v12 v13 : Value} (h : Below B a w) (hB : B ≤ b) : Below B a ((((((((((((((w.setCell ⟨b, 0, none⟩ v0).setCell ⟨b, 1, none⟩ v1).setCell ⟨b, 2, none⟩ v2).setCell ⟨b, 3, none⟩ v3).setCell ⟨b, 4, none⟩ v4).setCell ⟨b, 5, none⟩ v5).setCell ⟨b, 6, none⟩ v6).setCell ⟨b, 7, none⟩ v7).setCell ⟨b, 8, none⟩ v8).setCell ⟨b, 9, none⟩ v9).setCell ⟨b, 10, none⟩ v10).setCell ⟨b, 11, none⟩ v11).setCell ⟨b, 12, none⟩ v12).setCell ⟨b, 13, none⟩ v13) := (Below.setCell (Below.setCell (Below.setCell (Below.setCell (Below.setCell (Below.setCell (Below.setCell (Below.setCell (Below.setCell (Below.setCell (Below.setCell (Below.setCell (Below.setCell (Below.setCell h hB v0) hB v1) hB v2) hB v3) hB v4) hB v5) hB v6) hB v7) hB v8) hB v9) hB v10) hB v11) hB v12) hB v13)
theorem cell_off14 {w : World} {b : Nat} {p : Addr} {u v0 v1 v2 v3 v4 v5 v6 v7 v8 v9 v10 v11 v12 v13 : Value} (h : w.cell? p = some u) (hne : p.block ≠ b) : ((((((((((((((w.setCell ⟨b, 0, none⟩ v0).setCell ⟨b, 1, none⟩ v1).setCell ⟨b, 2, none⟩ v2).setCell ⟨b, 3, none⟩ v3).setCell ⟨b, 4, none⟩ v4).setCell ⟨b, 5, none⟩ v5).setCell ⟨b, 6, none⟩ v6).setCell ⟨b, 7, none⟩ v7).setCell ⟨b, 8, none⟩ v8).setCell ⟨b, 9, none⟩ v9).setCell ⟨b, 10, none⟩ v10).setCell ⟨b, 11, none⟩ v11).setCell ⟨b, 12, none⟩ v12).setCell ⟨b, 13, none⟩ v13).cell? p = some u := (cell_far (cell_far (cell_far (cell_far (cell_far (cell_far (cell_far (cell_far (cell_far (cell_far (cell_far (cell_far (cell_far (cell_far h hne) hne) hne) hne) hne) hne) hne) hne) hne) hne) hne) hne) hne) hne)

theorem HasB.set19 {w : World} {b : Nat} {t : TypeId} {a0 a1 a2 a3 a4 a5 a6 a7 a8 a9 a10 a11 a12 a13 a14 a15 a16 a17 a18 v0 v1 v2 v3 v4 v5 v6 v7 v8 v9 v10 v11 v12 v13 v14 v15 v16 v17 v18 : Value} (h : HasB w b #[a0, a1, a2, a3, a4, a5, a6, a7, a8, a9, a10, a11, a12, a13, a14, a15, a16, a17, a18] t) : HasB (((((((((((((((((((w.setCell ⟨b, 0, none⟩ v0).setCell ⟨b, 1, none⟩ v1).setCell ⟨b, 2, none⟩ v2).setCell ⟨b, 3, none⟩ v3).setCell ⟨b, 4, none⟩ v4).setCell ⟨b, 5, none⟩ v5).setCell ⟨b, 6, none⟩ v6).setCell ⟨b, 7, none⟩ v7).setCell ⟨b, 8, none⟩ v8).setCell ⟨b, 9, none⟩ v9).setCell ⟨b, 10, none⟩ v10).setCell ⟨b, 11, none⟩ v11).setCell ⟨b, 12, none⟩ v12).setCell ⟨b, 13, none⟩ v13).setCell ⟨b, 14, none⟩ v14).setCell ⟨b, 15, none⟩ v15).setCell ⟨b, 16, none⟩ v16).setCell ⟨b, 17, none⟩ v17).setCell ⟨b, 18, none⟩ v18) b #[v0, v1, v2, v3, v4, v5, v6, v7, v8, v9, v10, v11, v12, v13, v14, v15, v16, v17, v18] t := by
  have h := (HasB.set (HasB.set (HasB.set (HasB.set (HasB.set (HasB.set (HasB.set (HasB.set (HasB.set (HasB.set (HasB.set (HasB.set (HasB.set (HasB.set (HasB.set (HasB.set (HasB.set (HasB.set (HasB.set h 0 v0) 1 v1) 2 v2) 3 v3) 4 v4) 5 v5) 6 v6) 7 v7) 8 v8) 9 v9) 10 v10) 11 v11) 12 v12) 13 v13) 14 v14) 15 v15) 16 v16) 17 v17) 18 v18)
  simp at h
  exact h
theorem HasB.off19 {w : World} {b c : Nat} {cs : Array Value} {t : TypeId} {v0 v1 v2 v3 v4 v5 v6 v7 v8 v9 v10 v11 v12 v13 v14 v15 v16 v17 v18 : Value} (h : HasB w c cs t) (hne : c ≠ b) : HasB (((((((((((((((((((w.setCell ⟨b, 0, none⟩ v0).setCell ⟨b, 1, none⟩ v1).setCell ⟨b, 2, none⟩ v2).setCell ⟨b, 3, none⟩ v3).setCell ⟨b, 4, none⟩ v4).setCell ⟨b, 5, none⟩ v5).setCell ⟨b, 6, none⟩ v6).setCell ⟨b, 7, none⟩ v7).setCell ⟨b, 8, none⟩ v8).setCell ⟨b, 9, none⟩ v9).setCell ⟨b, 10, none⟩ v10).setCell ⟨b, 11, none⟩ v11).setCell ⟨b, 12, none⟩ v12).setCell ⟨b, 13, none⟩ v13).setCell ⟨b, 14, none⟩ v14).setCell ⟨b, 15, none⟩ v15).setCell ⟨b, 16, none⟩ v16).setCell ⟨b, 17, none⟩ v17).setCell ⟨b, 18, none⟩ v18) c cs t := (HasB.far (HasB.far (HasB.far (HasB.far (HasB.far (HasB.far (HasB.far (HasB.far (HasB.far (HasB.far (HasB.far (HasB.far (HasB.far (HasB.far (HasB.far (HasB.far (HasB.far (HasB.far (HasB.far h hne v0) hne v1) hne v2) hne v3) hne v4) hne v5) hne v6) hne v7) hne v8) hne v9) hne v10) hne v11) hne v12) hne v13) hne v14) hne v15) hne v16) hne v17) hne v18)
theorem below_set19 {B : Nat} {a w : World} {b : Nat} {v0 v1 v2 v3 v4 v5 v6 v7 v8 v9 v10 v11 v12 v13 v14 v15 v16 v17 v18 : Value} (h : Below B a w) (hB : B ≤ b) : Below B a (((((((((((((((((((w.setCell ⟨b, 0, none⟩ v0).setCell ⟨b, 1, none⟩ v1).setCell ⟨b, 2, none⟩ v2).setCell ⟨b, 3, none⟩ v3).setCell ⟨b, 4, none⟩ v4).setCell ⟨b, 5, none⟩ v5).setCell ⟨b, 6, none⟩ v6).setCell ⟨b, 7, none⟩ v7).setCell ⟨b, 8, none⟩ v8).setCell ⟨b, 9, none⟩ v9).setCell ⟨b, 10, none⟩ v10).setCell ⟨b, 11, none⟩ v11).setCell ⟨b, 12, none⟩ v12).setCell ⟨b, 13, none⟩ v13).setCell ⟨b, 14, none⟩ v14).setCell ⟨b, 15, none⟩ v15).setCell ⟨b, 16, none⟩ v16).setCell ⟨b, 17, none⟩ v17).setCell ⟨b, 18, none⟩ v18) := (Below.setCell (Below.setCell (Below.setCell (Below.setCell (Below.setCell (Below.setCell (Below.setCell (Below.setCell (Below.setCell (Below.setCell (Below.setCell (Below.setCell (Below.setCell (Below.setCell (Below.setCell (Below.setCell (Below.setCell (Below.setCell (Below.setCell h hB v0) hB v1) hB v2) hB v3) hB v4) hB v5) hB v6) hB v7) hB v8) hB v9) hB v10) hB v11) hB v12) hB v13) hB v14) hB v15) hB v16) hB v17) hB v18)
theorem cell_off19 {w : World} {b : Nat} {p : Addr} {u v0 v1 v2 v3 v4 v5 v6 v7 v8 v9 v10 v11 v12 v13 v14 v15 v16 v17 v18 : Value} (h : w.cell? p = some u) (hne : p.block ≠ b) : (((((((((((((((((((w.setCell ⟨b, 0, none⟩ v0).setCell ⟨b, 1, none⟩ v1).setCell ⟨b, 2, none⟩ v2).setCell ⟨b, 3, none⟩ v3).setCell ⟨b, 4, none⟩ v4).setCell ⟨b, 5, none⟩ v5).setCell ⟨b, 6, none⟩ v6).setCell ⟨b, 7, none⟩ v7).setCell ⟨b, 8, none⟩ v8).setCell ⟨b, 9, none⟩ v9).setCell ⟨b, 10, none⟩ v10).setCell ⟨b, 11, none⟩ v11).setCell ⟨b, 12, none⟩ v12).setCell ⟨b, 13, none⟩ v13).setCell ⟨b, 14, none⟩ v14).setCell ⟨b, 15, none⟩ v15).setCell ⟨b, 16, none⟩ v16).setCell ⟨b, 17, none⟩ v17).setCell ⟨b, 18, none⟩ v18).cell? p = some u := (cell_far (cell_far (cell_far (cell_far (cell_far (cell_far (cell_far (cell_far (cell_far (cell_far (cell_far (cell_far (cell_far (cell_far (cell_far (cell_far (cell_far (cell_far (cell_far h hne) hne) hne) hne) hne) hne) hne) hne) hne) hne) hne) hne) hne) hne) hne) hne) hne) hne) hne)

theorem HasB.set20 {w : World} {b : Nat} {t : TypeId} {a0 a1 a2 a3 a4 a5 a6 a7 a8 a9 a10 a11 a12 a13 a14 a15 a16 a17 a18 a19 v0 v1 v2 v3 v4 v5 v6 v7 v8 v9 v10 v11 v12 v13 v14 v15 v16 v17 v18 v19 : Value} (h : HasB w b #[a0, a1, a2, a3, a4, a5, a6, a7, a8, a9, a10, a11, a12, a13, a14, a15, a16, a17, a18, a19] t) : HasB ((((((((((((((((((((w.setCell ⟨b, 0, none⟩ v0).setCell ⟨b, 1, none⟩ v1).setCell ⟨b, 2, none⟩ v2).setCell ⟨b, 3, none⟩ v3).setCell ⟨b, 4, none⟩ v4).setCell ⟨b, 5, none⟩ v5).setCell ⟨b, 6, none⟩ v6).setCell ⟨b, 7, none⟩ v7).setCell ⟨b, 8, none⟩ v8).setCell ⟨b, 9, none⟩ v9).setCell ⟨b, 10, none⟩ v10).setCell ⟨b, 11, none⟩ v11).setCell ⟨b, 12, none⟩ v12).setCell ⟨b, 13, none⟩ v13).setCell ⟨b, 14, none⟩ v14).setCell ⟨b, 15, none⟩ v15).setCell ⟨b, 16, none⟩ v16).setCell ⟨b, 17, none⟩ v17).setCell ⟨b, 18, none⟩ v18).setCell ⟨b, 19, none⟩ v19) b #[v0, v1, v2, v3, v4, v5, v6, v7, v8, v9, v10, v11, v12, v13, v14, v15, v16, v17, v18, v19] t := by
  have h := (HasB.set (HasB.set (HasB.set (HasB.set (HasB.set (HasB.set (HasB.set (HasB.set (HasB.set (HasB.set (HasB.set (HasB.set (HasB.set (HasB.set (HasB.set (HasB.set (HasB.set (HasB.set (HasB.set (HasB.set h 0 v0) 1 v1) 2 v2) 3 v3) 4 v4) 5 v5) 6 v6) 7 v7) 8 v8) 9 v9) 10 v10) 11 v11) 12 v12) 13 v13) 14 v14) 15 v15) 16 v16) 17 v17) 18 v18) 19 v19)
  simp at h
  exact h
theorem HasB.off20 {w : World} {b c : Nat} {cs : Array Value} {t : TypeId} {v0 v1 v2 v3 v4 v5 v6 v7 v8 v9 v10 v11 v12 v13 v14 v15 v16 v17 v18 v19 : Value} (h : HasB w c cs t) (hne : c ≠ b) : HasB ((((((((((((((((((((w.setCell ⟨b, 0, none⟩ v0).setCell ⟨b, 1, none⟩ v1).setCell ⟨b, 2, none⟩ v2).setCell ⟨b, 3, none⟩ v3).setCell ⟨b, 4, none⟩ v4).setCell ⟨b, 5, none⟩ v5).setCell ⟨b, 6, none⟩ v6).setCell ⟨b, 7, none⟩ v7).setCell ⟨b, 8, none⟩ v8).setCell ⟨b, 9, none⟩ v9).setCell ⟨b, 10, none⟩ v10).setCell ⟨b, 11, none⟩ v11).setCell ⟨b, 12, none⟩ v12).setCell ⟨b, 13, none⟩ v13).setCell ⟨b, 14, none⟩ v14).setCell ⟨b, 15, none⟩ v15).setCell ⟨b, 16, none⟩ v16).setCell ⟨b, 17, none⟩ v17).setCell ⟨b, 18, none⟩ v18).setCell ⟨b, 19, none⟩ v19) c cs t := (HasB.far (HasB.far (HasB.far (HasB.far (HasB.far (HasB.far (HasB.far (HasB.far (HasB.far (HasB.far (HasB.far (HasB.far (HasB.far (HasB.far (HasB.far (HasB.far (HasB.far (HasB.far (HasB.far (HasB.far h hne v0) hne v1) hne v2) hne v3) hne v4) hne v5) hne v6) hne v7) hne v8) hne v9) hne v10) hne v11) hne v12) hne v13) hne v14) hne v15) hne v16) hne v17) hne v18) hne v19)
theorem below_set20 {B : Nat} {a w : World} {b : Nat} {v0 v1 v2 v3 v4 v5 v6 v7 v8 v9 v10 v11 v12 v13 v14 v15 v16 v17 v18 v19 : Value} (h : Below B a w) (hB : B ≤ b) : Below B a ((((((((((((((((((((w.setCell ⟨b, 0, none⟩ v0).setCell ⟨b, 1, none⟩ v1).setCell ⟨b, 2, none⟩ v2).setCell ⟨b, 3, none⟩ v3).setCell ⟨b, 4, none⟩ v4).setCell ⟨b, 5, none⟩ v5).setCell ⟨b, 6, none⟩ v6).setCell ⟨b, 7, none⟩ v7).setCell ⟨b, 8, none⟩ v8).setCell ⟨b, 9, none⟩ v9).setCell ⟨b, 10, none⟩ v10).setCell ⟨b, 11, none⟩ v11).setCell ⟨b, 12, none⟩ v12).setCell ⟨b, 13, none⟩ v13).setCell ⟨b, 14, none⟩ v14).setCell ⟨b, 15, none⟩ v15).setCell ⟨b, 16, none⟩ v16).setCell ⟨b, 17, none⟩ v17).setCell ⟨b, 18, none⟩ v18).setCell ⟨b, 19, none⟩ v19) := (Below.setCell (Below.setCell (Below.setCell (Below.setCell (Below.setCell (Below.setCell (Below.setCell (Below.setCell (Below.setCell (Below.setCell (Below.setCell (Below.setCell (Below.setCell (Below.setCell (Below.setCell (Below.setCell (Below.setCell (Below.setCell (Below.setCell (Below.setCell h hB v0) hB v1) hB v2) hB v3) hB v4) hB v5) hB v6) hB v7) hB v8) hB v9) hB v10) hB v11) hB v12) hB v13) hB v14) hB v15) hB v16) hB v17) hB v18) hB v19)
theorem cell_off20 {w : World} {b : Nat} {p : Addr} {u v0 v1 v2 v3 v4 v5 v6 v7 v8 v9 v10 v11 v12 v13 v14 v15 v16 v17 v18 v19 : Value} (h : w.cell? p = some u) (hne : p.block ≠ b) : ((((((((((((((((((((w.setCell ⟨b, 0, none⟩ v0).setCell ⟨b, 1, none⟩ v1).setCell ⟨b, 2, none⟩ v2).setCell ⟨b, 3, none⟩ v3).setCell ⟨b, 4, none⟩ v4).setCell ⟨b, 5, none⟩ v5).setCell ⟨b, 6, none⟩ v6).setCell ⟨b, 7, none⟩ v7).setCell ⟨b, 8, none⟩ v8).setCell ⟨b, 9, none⟩ v9).setCell ⟨b, 10, none⟩ v10).setCell ⟨b, 11, none⟩ v11).setCell ⟨b, 12, none⟩ v12).setCell ⟨b, 13, none⟩ v13).setCell ⟨b, 14, none⟩ v14).setCell ⟨b, 15, none⟩ v15).setCell ⟨b, 16, none⟩ v16).setCell ⟨b, 17, none⟩ v17).setCell ⟨b, 18, none⟩ v18).setCell ⟨b, 19, none⟩ v19).cell? p = some u := (cell_far (cell_far (cell_far (cell_far (cell_far (cell_far (cell_far (cell_far (cell_far (cell_far (cell_far (cell_far (cell_far (cell_far (cell_far (cell_far (cell_far (cell_far (cell_far (cell_far h hne) hne) hne) hne) hne) hne) hne) hne) hne) hne) hne) hne) hne) hne) hne) hne) hne) hne) hne) hne)

theorem HasB.at19 {w : World} {b : Nat} {t : TypeId} {v0 v1 v2 v3 v4 v5 v6 v7 v8 v9 v10 v11 v12 v13 v14 v15 v16 v17 v18 : Value} (h : HasB w b #[v0, v1, v2, v3, v4, v5, v6, v7, v8, v9, v10, v11, v12, v13, v14, v15, v16, v17, v18] t) : (w.cell? ⟨b, 0, none⟩ = some v0 ∧ w.cell? ⟨b, 1, none⟩ = some v1 ∧ w.cell? ⟨b, 2, none⟩ = some v2 ∧ w.cell? ⟨b, 3, none⟩ = some v3 ∧ w.cell? ⟨b, 4, none⟩ = some v4 ∧ w.cell? ⟨b, 5, none⟩ = some v5 ∧ w.cell? ⟨b, 6, none⟩ = some v6 ∧ w.cell? ⟨b, 7, none⟩ = some v7 ∧ w.cell? ⟨b, 8, none⟩ = some v8 ∧ w.cell? ⟨b, 9, none⟩ = some v9 ∧ w.cell? ⟨b, 10, none⟩ = some v10 ∧ w.cell? ⟨b, 11, none⟩ = some v11 ∧ w.cell? ⟨b, 12, none⟩ = some v12 ∧ w.cell? ⟨b, 13, none⟩ = some v13 ∧ w.cell? ⟨b, 14, none⟩ = some v14 ∧ w.cell? ⟨b, 15, none⟩ = some v15 ∧ w.cell? ⟨b, 16, none⟩ = some v16 ∧ w.cell? ⟨b, 17, none⟩ = some v17 ∧ w.cell? ⟨b, 18, none⟩ = some v18) ∧ ∀ o, w.frozen? ⟨b, o, none⟩ = false :=
  ⟨⟨h.cell 0, h.cell 1, h.cell 2, h.cell 3, h.cell 4, h.cell 5, h.cell 6, h.cell 7, h.cell 8, h.cell 9, h.cell 10, h.cell 11, h.cell 12, h.cell 13, h.cell 14, h.cell 15, h.cell 16, h.cell 17, h.cell 18⟩, h.free⟩

theorem HasB.at20 {w : World} {b : Nat} {t : TypeId} {v0 v1 v2 v3 v4 v5 v6 v7 v8 v9 v10 v11 v12 v13 v14 v15 v16 v17 v18 v19 : Value} (h : HasB w b #[v0, v1, v2, v3, v4, v5, v6, v7, v8, v9, v10, v11, v12, v13, v14, v15, v16, v17, v18, v19] t) : (w.cell? ⟨b, 0, none⟩ = some v0 ∧ w.cell? ⟨b, 1, none⟩ = some v1 ∧ w.cell? ⟨b, 2, none⟩ = some v2 ∧ w.cell? ⟨b, 3, none⟩ = some v3 ∧ w.cell? ⟨b, 4, none⟩ = some v4 ∧ w.cell? ⟨b, 5, none⟩ = some v5 ∧ w.cell? ⟨b, 6, none⟩ = some v6 ∧ w.cell? ⟨b, 7, none⟩ = some v7 ∧ w.cell? ⟨b, 8, none⟩ = some v8 ∧ w.cell? ⟨b, 9, none⟩ = some v9 ∧ w.cell? ⟨b, 10, none⟩ = some v10 ∧ w.cell? ⟨b, 11, none⟩ = some v11 ∧ w.cell? ⟨b, 12, none⟩ = some v12 ∧ w.cell? ⟨b, 13, none⟩ = some v13 ∧ w.cell? ⟨b, 14, none⟩ = some v14 ∧ w.cell? ⟨b, 15, none⟩ = some v15 ∧ w.cell? ⟨b, 16, none⟩ = some v16 ∧ w.cell? ⟨b, 17, none⟩ = some v17 ∧ w.cell? ⟨b, 18, none⟩ = some v18 ∧ w.cell? ⟨b, 19, none⟩ = some v19) ∧ ∀ o, w.frozen? ⟨b, o, none⟩ = false :=
  ⟨⟨h.cell 0, h.cell 1, h.cell 2, h.cell 3, h.cell 4, h.cell 5, h.cell 6, h.cell 7, h.cell 8, h.cell 9, h.cell 10, h.cell 11, h.cell 12, h.cell 13, h.cell 14, h.cell 15, h.cell 16, h.cell 17, h.cell 18, h.cell 19⟩, h.free⟩

theorem HasB.at14 {w : World} {b : Nat} {t : TypeId} {v0 v1 v2 v3 v4 v5 v6 v7 v8 v9 v10 v11 v12 v13 : Value} (h : HasB w b #[v0, v1, v2, v3, v4, v5, v6, v7, v8, v9, v10, v11, v12, v13] t) : (w.cell? ⟨b, 0, none⟩ = some v0 ∧ w.cell? ⟨b, 1, none⟩ = some v1 ∧ w.cell? ⟨b, 2, none⟩ = some v2 ∧ w.cell? ⟨b, 3, none⟩ = some v3 ∧ w.cell? ⟨b, 4, none⟩ = some v4 ∧ w.cell? ⟨b, 5, none⟩ = some v5 ∧ w.cell? ⟨b, 6, none⟩ = some v6 ∧ w.cell? ⟨b, 7, none⟩ = some v7 ∧ w.cell? ⟨b, 8, none⟩ = some v8 ∧ w.cell? ⟨b, 9, none⟩ = some v9 ∧ w.cell? ⟨b, 10, none⟩ = some v10 ∧ w.cell? ⟨b, 11, none⟩ = some v11 ∧ w.cell? ⟨b, 12, none⟩ = some v12 ∧ w.cell? ⟨b, 13, none⟩ = some v13) ∧ ∀ o, w.frozen? ⟨b, o, none⟩ = false :=
  ⟨⟨h.cell 0, h.cell 1, h.cell 2, h.cell 3, h.cell 4, h.cell 5, h.cell 6, h.cell 7, h.cell 8, h.cell 9, h.cell 10, h.cell 11, h.cell 12, h.cell 13⟩, h.free⟩
end Go.Proofs.YtelgobelbeabaaaGreatDoor
namespace Go.Proofs.YtelgobelbeabaaaGreatDoor
open Go.RowKit
namespace Us
open Nv

/-- Where the powers of ten lie. -/
structure P10 (w : World) : Prop where
  hi : ∀ i, i < 696 → w.cell? ⟨8, i * 2, none⟩ = some (.int .u64 ((rowAt ((i : Int) - 348)).1 : Nat))
  lo : ∀ i, i < 696 → w.cell? ⟨8, i * 2 + 1, none⟩ = some (.int .u64 ((rowAt ((i : Int) - 348)).2 : Nat))
theorem P10.keep {w w' : World} (h : P10 w) (hb : Below w.heap.size w w') : P10 w' := ⟨fun i hi => below_keep hb (h.hi i hi), fun i hi => below_keep hb (h.lo i hi)⟩
theorem or_u64 {a b : Nat} (ha : a < 18446744073709551616) (hb : b < 18446744073709551616) : bits .or .u64 (a : Int) (b : Int) = ((a ||| b : Nat) : Int) := by
  have h : a ||| b < 2 ^ 64 := Nat.or_lt_two_pow (by rw [show (2 : Nat) ^ 64 = 18446744073709551616 by decide]; exact ha) (by rw [show (2 : Nat) ^ 64 = 18446744073709551616 by decide]; exact hb)
  rw [show (2 : Nat) ^ 64 = 18446744073709551616 by decide] at h
  have e : (BitVec.ofInt 64 (a : Int) ||| BitVec.ofInt 64 (b : Int)).toNat = a ||| b := by
    rw [BitVec.toNat_or, BitVec.ofInt_natCast, BitVec.ofInt_natCast, BitVec.toNat_ofNat, BitVec.toNat_ofNat, Nat.mod_eq_of_lt (by omega), Nat.mod_eq_of_lt (by omega)]
  show IntKind.u64.wrap ((BitVec.ofInt 64 (a : Int) ||| BitVec.ofInt 64 (b : Int)).toNat : Int) = _
  rw [e, wrapU64_eq (by omega) (by omega)]
theorem sc_log10 (x : Int) (h : -2000 ≤ x ∧ x ≤ 2000) (w : World) : Calls Tryz.prog 198 #[.int .i64 x] w fun e w' => e = .returned (.int .i64 (x * 78913 / 262144)) ∧ w' = w := by
  go_enter Tryz.func198, Tryz.ntmps198
  go_wp2
  go_ret
  exact ⟨rfl, rfl⟩
theorem sc_log2 (x : Int) (h : -2000 ≤ x ∧ x ≤ 2000) (w : World) : Calls Tryz.prog 262 #[.int .i64 x] w fun e w' => e = .returned (.int .i64 (lpOf x)) ∧ w' = w := by
  go_enter Tryz.func262, Tryz.ntmps262
  go_wp2
  go_ret
  exact ⟨rfl, rfl⟩
theorem sc_skewed (x : Int) (h : -2000 ≤ x ∧ x ≤ 2000) (w : World) : Calls Tryz.prog 260 #[.int .i64 x] w fun e w' => e = .returned (.int .i64 ((x * 631305 - 261663) / 2097152)) ∧ w' = w := by
  go_enter Tryz.func260, Tryz.ntmps260
  go_wp2
  go_ret
  exact ⟨rfl, rfl⟩
theorem sc_floor (u : Nat) (h : u < 18446744073709551616) (w : World) : Calls Tryz.prog 266 #[.int .u64 u] w fun e w' => e = .returned (.int .u64 ((u / 4 : Nat) : Int)) ∧ w' = w := by
  go_enter Tryz.func266, Tryz.ntmps266
  go_wp2
  go_ret
  exact ⟨by simp, rfl⟩
theorem sc_ceil (u : Nat) (h : u < 18446744073709551612) (w : World) : Calls Tryz.prog 265 #[.int .u64 u] w fun e w' => e = .returned (.int .u64 (((u + 3) / 4 : Nat) : Int)) ∧ w' = w := by
  go_enter Tryz.func265, Tryz.ntmps265
  go_wp2
  go_ret
  exact ⟨by simp, rfl⟩
theorem sc_round (u : Nat) (h : u < 9223372036854775800) (w : World) : Calls Tryz.prog 267 #[.int .u64 u] w fun e w' => e = .returned (.int .u64 (((u + 1 + u / 4 % 2) / 4 : Nat) : Int)) ∧ w' = w := by
  have ha := and_one64 (x := u / 4) (by omega)
  rw [show ((u / 4 : Nat) : Int) = (u : Int) / 4 by omega] at ha
  go_enter Tryz.func267, Tryz.ntmps267
  go_wp2
  go_ret
  first | exact ⟨rfl, rfl⟩ | exact ⟨by congr 2, rfl⟩ | exact ⟨by congr 2; omega, rfl⟩
theorem sc_nudge (u o : Nat) (x : Int) (hx : x = o ∨ x = -(o : Int)) (h : u < 18446744073709551612) (ho : o ≤ 1) (ho2 : o ≤ u) (w : World) : Calls Tryz.prog 264 #[.int .u64 u, .int .i64 x] w fun e w' => e = .returned (.int .u64 ((u : Int) + x)) ∧ w' = w := by
  have hx1 : -1 ≤ x ∧ x ≤ 1 := by omega
  have hx2 : 0 ≤ (u : Int) + x := by omega
  clear hx ho ho2
  by_cases g : x < 0
  · obtain rfl : x = -1 := by omega
    go_enter Tryz.func264, Tryz.ntmps264
    go_wp2
    go_ret
    first | exact ⟨rfl, rfl⟩ | exact ⟨by congr 2; simp [IntKind.wrap, IntKind.bits, IntKind.signed] <;> omega, rfl⟩ | exact ⟨by congr 2, rfl⟩
  · go_enter Tryz.func264, Tryz.ntmps264
    go_wp2
    go_ret
    exact ⟨rfl, rfl⟩
/-- What prescale lays. -/
def Sc (w : World) (b hi lo s : Nat) : Prop := HasB w b #[.int .u64 (hi : Nat), .int .u64 (lo : Nat), .int .i64 (s : Nat)] 286
set_option maxRecDepth 100000 in
theorem sc_prescale {b : Nat} {v0 v1 v2 : Value} {w : World} {e p : Int} {i s : Nat} (hP : P10 w) (hH : HasB w b #[v0, v1, v2] 286) (hn : b ≠ 8) (hi : p = (i : Int) - 348) (hi2 : i < 696) (he : -2000 ≤ e ∧ e ≤ 2000) (hs : sOf e p = (s : Int)) :
    Calls Tryz.prog 261 #[.pointer (some ⟨b, 0, none⟩), .int .i64 e, .int .i64 p, .int .i64 (lpOf p)] w fun x w' => x = .returned (.tuple #[]) ∧ Sc w' b (rowAt p).1 (rowAt p).2 s ∧ Below b w w' := by
  have h0 := hP.hi i hi2
  have h1 := hP.lo i hi2
  rw [← hi] at h0 h1
  unfold Sc
  obtain ⟨H, hHe⟩ : ∃ H, (rowAt p).1 = H := ⟨_, rfl⟩
  obtain ⟨L, hLe⟩ : ∃ L, (rowAt p).2 = L := ⟨_, rfl⟩
  rw [hHe] at h0 ⊢
  rw [hLe] at h1 ⊢
  have hlp : lpOf p = p * 108853 / 32768 := rfl
  have hlb : -1300 ≤ lpOf p ∧ lpOf p ≤ 1300 := by rw [hlp]; omega
  unfold sOf at hs
  have hn1 : ¬ b = 8 := hn
  have hn2 : ¬ 8 = b := fun h => hn h.symm
  clear hHe hLe hlp hP hn
  generalize lpOf p = lp at *
  subst hi
  have q0 : w.cell? ⟨b, 0, none⟩ = some v0 := hH.cell 0
  have q1 : w.cell? ⟨b, 1, none⟩ = some v1 := hH.cell 1
  have q2 : w.cell? ⟨b, 2, none⟩ = some v2 := hH.cell 2
  have qf := hH.free
  have hfin := (HasB.set (HasB.set (HasB.set hH 0 (.int .u64 (H : Nat))) 1 (.int .u64 (L : Nat))) 2 (.int .i64 (s : Nat)))
  have hbel := below_set3 (B := b) (v0 := .int .u64 (H : Nat)) (v1 := .int .u64 (L : Nat)) (v2 := .int .i64 (s : Nat)) (Below.refl b w) (Nat.le_refl b)
  replace hfin := Far.mk hfin
  replace hbel := Far.mk hbel
  clear hH
  go_enter Tryz.func261, Tryz.ntmps261
  go_wp2
  go_returns
  exact ⟨rfl, hfin.out, hbel.out⟩
end Us
end Go.Proofs.YtelgobelbeabaaaGreatDoor
namespace Go.Proofs.YtelgobelbeabaaaGreatDoor
open Go.RowKit
namespace Us
open Nv

theorem sc_bool2 (b : Bool) (w : World) : Calls Tryz.prog 333 #[.bool b] w fun e w' => e = .returned (.int .u64 (if b then 1 else 0)) ∧ w' = w := by
  cases b
  all_goals
    go_enter Tryz.func333, Tryz.ntmps333
    go_wp2
    go_ret
    exact ⟨rfl, rfl⟩
set_option maxRecDepth 100000 in
set_option maxHeartbeats 800000 in
theorem sc_uscale {b x hi lo s : Nat} {w : World} (hS : Sc w b hi lo s) (hx : x < 18446744073709551616) (hh : hi < 18446744073709551616) (hlo : lo < 18446744073709551616) (hs : s < 64) (hA1 : 1 ≤ x * hi / 18446744073709551616) :
    Calls Tryz.prog 263 #[.int .u64 x, .pointer (some ⟨b, 0, none⟩)] w fun e w' => e = .returned (.int .u64 (uscaleN x hi lo s : Nat)) ∧ ∃ n, w' = w.drewN n := by
  have q0 : w.cell? ⟨b, 0, none⟩ = some (.int .u64 (hi : Nat)) := HasB.cell hS 0
  have q1 : w.cell? ⟨b, 1, none⟩ = some (.int .u64 (lo : Nat)) := HasB.cell hS 1
  have q2 : w.cell? ⟨b, 2, none⟩ = some (.int .i64 (s : Nat)) := HasB.cell hS 2
  have m1 := fun W => Far.mk (bits_Mul64 x hi hx hh W)
  have m2 := fun W => Far.mk (bits_Mul64 x lo hx hlo W)
  have hA : x * hi / 18446744073709551616 < 18446744073709551616 := by
    rw [Nat.div_lt_iff_lt_mul (by decide)]
    exact Nat.mul_lt_mul_of_lt_of_le hx (Nat.le_of_lt hh) (by omega)
  have hM := Nat.mod_lt (x * hi) (show 0 < 18446744073709551616 by decide)
  have hB : x * lo / 18446744073709551616 < 18446744073709551616 := by
    rw [Nat.div_lt_iff_lt_mul (by decide)]
    exact Nat.mul_lt_mul_of_le_of_lt (Nat.le_of_lt hx) hlo (by omega)
  have hmask : bits .and .i64 (s : Int) 63 = (s : Int) := by
    have h := bits_mask .i64 63 (by decide) (fun n h1 h2 => by rw [IntKind.wrap_i64]; omega) 6 (by decide) (s : Int) (by omega) (by omega)
    rw [show ((2 : Int) ^ 6 - 1) = 63 by decide, show ((2 : Int) ^ 6) = 64 by decide] at h
    rw [h]
    omega
  obtain ⟨U, hU⟩ : ∃ U, uscaleN x hi lo s = U := ⟨_, rfl⟩
  rw [hU]
  unfold uscaleN at hU
  obtain ⟨P, hP⟩ : ∃ P, 2 ^ s = P := ⟨_, rfl⟩
  have hP0 : 0 < P := by rw [← hP]; exact Nat.two_pow_pos s
  rw [hP] at hU
  generalize x * hi / 18446744073709551616 = A at *
  generalize x * hi % 18446744073709551616 = M at *
  generalize x * lo / 18446744073709551616 = B at *
  generalize x * lo % 18446744073709551616 = M2 at *
  clear hS
  have hAP : A / P ≤ A := Nat.div_le_self _ _
  have hAP2 : A / P * P ≤ A := Nat.div_mul_le_self _ _
  have hPz : ((2 : Int) ^ s) = (P : Int) := by rw [← hP, Int.natCast_pow]; rfl
  have hor : ∀ a b : Nat, a ≤ A → b ≤ 1 → bits .or .u64 ((a : Int) / 2 ^ s) (b : Int) = ((a / P ||| b : Nat) : Int) := fun a b ha hb => by
    have h1 : a / P ≤ a := Nat.div_le_self _ _
    rw [hPz, ← Int.natCast_ediv]
    exact or_u64 (by omega) (by omega)
  have htest : (IntKind.u64.wrap ((A : Int) / 2 ^ s * 2 ^ s) != (A : Int)) = !decide (A / P * P = A) := by
    rw [hPz, ← Int.natCast_ediv, ← Int.natCast_mul, wrapU64_eq (by omega) (by omega)]
    by_cases g : A / P * P = A
    · rw [g]
      simp
    · rw [decide_eq_false g]
      simp only [bne_iff_ne, Bool.not_false]
      omega
  have q0' := q0
  by_cases g : A / P * P = A
  · rw [if_pos g] at hU
    rw [decide_eq_true g, Bool.not_true] at htest
    have hA0 : (A : Int) - 1 = ((A - 1 : Nat) : Int) := by omega
    by_cases gM : M < B
    · have hD : (M + 18446744073709551616 - B) % 18446744073709551616 = M + 18446744073709551616 - B := Nat.mod_eq_of_lt (by omega)
      have hw : IntKind.u64.wrap ((M : Int) - B) = (M : Int) - B + 18446744073709551616 := by rw [wu64]; omega
      rw [if_pos gM, hD] at hU
      by_cases gD : 1 < M + 18446744073709551616 - B
      · have gE : (1 : Int) < (M : Int) - B + 18446744073709551616 := by omega
        rw [if_pos gD] at hU
        have ho := hor (A - 1) 1 (by omega) (by decide)
        rw [hU, ← hA0, Int.natCast_one] at ho
        clear hor hU hD hPz hP hA0 g hAP hAP2
        go_enter Tryz.func263, Tryz.ntmps263
        go_wp2_with fail
        with_reducible refine (m1 _).out.mono ?_
        rintro e w' ⟨rfl, hw'⟩
        replace hw' := hw'.symm
        subst hw'
        go_wp2_with fail
        with_reducible refine (m2 _).out.mono ?_
        rintro e w' ⟨rfl, hw'⟩
        replace hw' := hw'.symm
        subst hw'
        go_wp2_with (go_at_call 333; refine (sc_bool2 _ _).mono ?_; rintro e w' ⟨rfl, hw'⟩; replace hw' := hw'.symm; subst hw')
        go_quiet (exact Calls.quiet_of_same (sc_bool2 _ _))
        go_wp2_with fail
        all_goals
          go_ret
          exact ⟨rfl, _, rfl⟩
      · have gE : ¬ (1 : Int) < (M : Int) - B + 18446744073709551616 := by omega
        rw [if_neg gD] at hU
        have ho := hor (A - 1) 0 (by omega) (by decide)
        rw [hU, ← hA0, Int.natCast_zero] at ho
        clear hor hU hD hPz hP hA0 g hAP hAP2
        go_enter Tryz.func263, Tryz.ntmps263
        go_wp2_with fail
        with_reducible refine (m1 _).out.mono ?_
        rintro e w' ⟨rfl, hw'⟩
        replace hw' := hw'.symm
        subst hw'
        go_wp2_with fail
        with_reducible refine (m2 _).out.mono ?_
        rintro e w' ⟨rfl, hw'⟩
        replace hw' := hw'.symm
        subst hw'
        go_wp2_with (go_at_call 333; refine (sc_bool2 _ _).mono ?_; rintro e w' ⟨rfl, hw'⟩; replace hw' := hw'.symm; subst hw')
        go_quiet (exact Calls.quiet_of_same (sc_bool2 _ _))
        go_wp2_with fail
        all_goals
          go_ret
          exact ⟨rfl, _, rfl⟩
    · have hD : (M + 18446744073709551616 - B) % 18446744073709551616 = M - B := by omega
      rw [if_neg gM, hD, Nat.sub_zero] at hU
      by_cases gD : 1 < M - B
      · have gE : (1 : Int) < (M : Int) - B := by omega
        rw [if_pos gD] at hU
        have ho := hor A 1 (by omega) (by decide)
        rw [hU, Int.natCast_one] at ho
        clear hor hU hD hPz hP hA0 g hAP hAP2
        go_enter Tryz.func263, Tryz.ntmps263
        go_wp2_with fail
        with_reducible refine (m1 _).out.mono ?_
        rintro e w' ⟨rfl, hw'⟩
        replace hw' := hw'.symm
        subst hw'
        go_wp2_with fail
        with_reducible refine (m2 _).out.mono ?_
        rintro e w' ⟨rfl, hw'⟩
        replace hw' := hw'.symm
        subst hw'
        go_wp2_with (go_at_call 333; refine (sc_bool2 _ _).mono ?_; rintro e w' ⟨rfl, hw'⟩; replace hw' := hw'.symm; subst hw')
        go_quiet (exact Calls.quiet_of_same (sc_bool2 _ _))
        go_wp2_with fail
        all_goals
          go_ret
          exact ⟨rfl, _, rfl⟩
      · have gE : ¬ (1 : Int) < (M : Int) - B := by omega
        rw [if_neg gD] at hU
        have ho := hor A 0 (by omega) (by decide)
        rw [hU, Int.natCast_zero] at ho
        clear hor hU hD hPz hP hA0 g hAP hAP2
        go_enter Tryz.func263, Tryz.ntmps263
        go_wp2_with fail
        with_reducible refine (m1 _).out.mono ?_
        rintro e w' ⟨rfl, hw'⟩
        replace hw' := hw'.symm
        subst hw'
        go_wp2_with fail
        with_reducible refine (m2 _).out.mono ?_
        rintro e w' ⟨rfl, hw'⟩
        replace hw' := hw'.symm
        subst hw'
        go_wp2_with (go_at_call 333; refine (sc_bool2 _ _).mono ?_; rintro e w' ⟨rfl, hw'⟩; replace hw' := hw'.symm; subst hw')
        go_quiet (exact Calls.quiet_of_same (sc_bool2 _ _))
        go_wp2_with fail
        all_goals
          go_ret
          exact ⟨rfl, _, rfl⟩
  · rw [if_neg g] at hU
    rw [decide_eq_false g, Bool.not_false] at htest
    have ho := hor A 1 (Nat.le_refl _) (by decide)
    rw [hU, Int.natCast_one] at ho
    clear hor hU hPz hP g hAP hAP2
    go_enter Tryz.func263, Tryz.ntmps263
    go_wp2_with fail
    with_reducible refine (m1 _).out.mono ?_
    rintro e w' ⟨rfl, hw'⟩
    replace hw' := hw'.symm
    subst hw'
    go_wp2_with fail
    go_ret
    exact ⟨rfl, 0, rfl⟩
end Us
end Go.Proofs.YtelgobelbeabaaaGreatDoor
