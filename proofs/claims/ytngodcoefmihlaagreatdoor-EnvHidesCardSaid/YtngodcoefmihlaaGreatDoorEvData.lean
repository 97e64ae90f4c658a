/-
  Environments and their names, as they lie in memory. No condition.
-/
import Derived.Test.YtngodcoefmihlaaGreatDoorMachAsk
import Derived.Test.YtngodcoefmihlaaGreatDoorKit4
namespace Go.Proofs.YtngodcoefmihlaaGreatDoor
open Go.RowKit

/-- A name of an environment, its value's kind and its value's number (all other parts of it at nought); it can be turned, and has its value. -/
structure Bnd where
  nm : ByteArray
  k : Int
  n : Nat
instance : Inhabited Bnd := ⟨⟨⟨#[]⟩, 0, 0⟩⟩
abbrev bcells (b : Bnd) : List Value := [.string b.nm, .int .i64 b.k, .bool false, .float .f64 b.n, .string ⟨#[]⟩, .int .i64 0, .bool true, .bool true]
def bflat : List Bnd → List Value
  | [] => []
  | b :: r => bcells b ++ bflat r
theorem bflat_len : ∀ l, (bflat l).length = l.length * 8
  | [] => rfl
  | b :: r => by simp [bflat, bflat_len r]; omega
theorem bflat_get : ∀ (l : List Bnd) (j i : Nat), i < 8 → (bflat l)[j * 8 + i]? = (l[j]?).bind fun b => (bcells b)[i]?
  | [], j, i, _ => by simp [bflat]
  | b :: r, 0, i, h => by
    rw [bflat, Nat.zero_mul, Nat.zero_add, List.getElem?_append_left (by simpa using h)]
    rfl
  | b :: r, j + 1, i, h => by
    have e : (j + 1) * 8 + i = (bcells b).length + (j * 8 + i) := by simp; omega
    rw [bflat, e, List.getElem?_append_right (by omega), Nat.add_sub_cancel_left, bflat_get r j i h]
    rfl
theorem bflat_app (l m : List Bnd) : bflat (l ++ m) = bflat l ++ bflat m := by
  induction l with
  | nil => rfl
  | cons b r ih => simp [bflat, ih]
theorem bflat_one (l : List Bnd) : ∀ u ∈ bflat l, u.oneCell' = true := by
  induction l with
  | nil => simp [bflat]
  | cons b r ih =>
    intro u hu
    rcases List.mem_append.1 hu with h | h
    · simp only [bcells, List.mem_cons, List.not_mem_nil, or_false] at h
      rcases h with rfl | rfl | rfl | rfl | rfl | rfl | rfl | rfl <;> rfl
    · exact ih u h

/-- A list of names as it lies in memory. -/
def NamesAt (W : World) (v : Value) (l : List Bnd) : Prop := W.ownsRow 0 143 8 v l.length (bflat l)
theorem owns_below {W W' : World} {base e size n : Nat} {v : Value} {xs : List Value} (h : W.ownsRow base e size v n xs) (k : Below W.heap.size W W') : W'.ownsRow base e size v n xs := by
  rcases h.2 with hn | ⟨g, cap, cur, hv, hb, hg, r⟩
  · exact ⟨h.1, .inl hn⟩
  · exact ⟨h.1, .inr ⟨g, cap, cur, hv, hb, (k.block g (Array.getElem?_eq_some_iff.1 hg).1).trans hg, r⟩⟩
/-- A store into a block of another kind. -/
theorem owns_other {W : World} {base e size n : Nat} {v : Value} {xs : List Value} (h : W.ownsRow base e size v n xs) {b i : Nat} {cs : Array Value} {t : TypeId} (hx : HasB W b cs t) (ht : t ≠ e) (u : Value) : (W.setCell ⟨b, i, none⟩ u).ownsRow base e size v n xs := by
  rcases h.2 with hn | ⟨g, cap, cur, hv, hb, hg, r⟩
  · exact ⟨h.1, .inl hn⟩
  · have hne : g ≠ b := by
      rintro rfl
      have e1 := hx.symm.trans hg
      simp only [Option.some.injEq, Obj.cells.injEq] at e1
      exact ht e1.2.1
    exact ⟨h.1, .inr ⟨g, cap, cur, hv, hb, (Below.heap_setCell W _ u g hne).trans hg, r⟩⟩
theorem NamesAt.below {W W' : World} {v : Value} {l : List Bnd} (h : NamesAt W v l) (k : Below W.heap.size W W') : NamesAt W' v l := owns_below h k
theorem NamesAt.nil (W : World) : NamesAt W (.slice none 0 0) [] := World.ownsRow_nil _ _ _ _
theorem owns_le {W : World} {base base' e size n : Nat} {v : Value} {xs : List Value} (h : W.ownsRow base e size v n xs) (hb : base' ≤ base) : W.ownsRow base' e size v n xs := by
  rcases h.2 with hn | ⟨g, cap, cur, hv, hb2, r⟩
  · exact ⟨h.1, .inl hn⟩
  · exact ⟨h.1, .inr ⟨g, cap, cur, hv, Nat.le_trans hb hb2, r⟩⟩
/-- Names that are some: where they lie, and each cell. -/
theorem NamesAt.form {W : World} {v : Value} {l : List Bnd} (h : NamesAt W v l) : (v = .slice none 0 0 ∧ l = []) ∨ ∃ g c, v = .slice (some ⟨g, 0, none⟩) l.length c ∧ g < W.heap.size ∧ ∀ j i u, i < 8 → ((l[j]?).bind fun b => (bcells b)[i]?) = some u → W.cell? ⟨g, j * 8 + i, none⟩ = some u := by
  have h0 := h
  rcases h.2 with ⟨hv, hn⟩ | ⟨g, cap, cur, hv, hb, hg, r⟩
  · exact .inl ⟨hv, List.length_eq_zero_iff.1 hn⟩
  · refine .inr ⟨g, cap, hv, (Array.getElem?_eq_some_iff.1 hg).1, fun j i u hi hu => ?_⟩
    subst hv
    have hj : j < l.length := by
      rcases Nat.lt_or_ge j l.length with hh | hh
      · exact hh
      · rw [List.getElem?_eq_none hh] at hu
        cases hu
    rw [World.ownsRow.cellAt (g := g) (cap := cap) h0 (j * 8 + i) (by omega), bflat_get l j i hi]
    exact hu

/-- An environment: the one around it, its names' slice and what lies there. -/
structure EnvR where
  outer : Int
  nv : Value
  l : List Bnd
instance : Inhabited EnvR := ⟨⟨0, .slice none 0 0, []⟩⟩
abbrev ecells (e : EnvR) : List Value := [.int .i64 e.outer, .int .i64 (-1), e.nv]
def eflat : List EnvR → List Value
  | [] => []
  | e :: r => ecells e ++ eflat r
theorem eflat_len : ∀ l, (eflat l).length = l.length * 3
  | [] => rfl
  | b :: r => by simp [eflat, eflat_len r]; omega
theorem eflat_get : ∀ (l : List EnvR) (j i : Nat), i < 3 → (eflat l)[j * 3 + i]? = (l[j]?).bind fun b => (ecells b)[i]?
  | [], j, i, _ => by simp [eflat]
  | b :: r, 0, i, h => by
    rw [eflat, Nat.zero_mul, Nat.zero_add, List.getElem?_append_left (by simpa using h)]
    rfl
  | b :: r, j + 1, i, h => by
    have e : (j + 1) * 3 + i = (ecells b).length + (j * 3 + i) := by simp; omega
    rw [eflat, e, List.getElem?_append_right (by omega), Nat.add_sub_cancel_left, eflat_get r j i h]
    rfl
theorem eflat_app (l m : List EnvR) : eflat (l ++ m) = eflat l ++ eflat m := by
  induction l with
  | nil => rfl
  | cons b r ih => simp [eflat, ih]
/-- Environments as they lie in memory. -/
def EnvsAt (W : World) (B : Nat) (v : Value) (E : List EnvR) : Prop := W.ownsRow B 138 3 v E.length (eflat E) ∧ ∀ e ∈ E, NamesAt W e.nv e.l
theorem EnvsAt.below {W W' : World} {B : Nat} {v : Value} {E : List EnvR} (h : EnvsAt W B v E) (k : Below W.heap.size W W') : EnvsAt W' B v E := ⟨owns_below h.1 k, fun e he => (h.2 e he).below k⟩
theorem EnvsAt.other {W : World} {B : Nat} {v : Value} {E : List EnvR} (h : EnvsAt W B v E) {b i : Nat} {cs : Array Value} {t : TypeId} (hx : HasB W b cs t) (h1 : t ≠ 138) (h2 : t ≠ 143) (u : Value) : EnvsAt (W.setCell ⟨b, i, none⟩ u) B v E :=
  ⟨owns_other h.1 hx h1 u, fun e he => owns_other (h.2 e he) hx h2 u⟩
theorem EnvsAt.form {W : World} {B : Nat} {v : Value} {E : List EnvR} (h : EnvsAt W B v E) (j : Nat) (hj : j < E.length) : ∃ g c, v = .slice (some ⟨g, 0, none⟩) E.length c ∧ B ≤ g ∧ g < W.heap.size ∧
    W.cell? ⟨g, j * 3, none⟩ = some (.int .i64 E[j].outer) ∧ W.cell? ⟨g, j * 3 + 1, none⟩ = some (.int .i64 (-1)) ∧ W.cell? ⟨g, j * 3 + 2, none⟩ = some E[j].nv ∧ ∀ o, W.frozen? ⟨g, o, none⟩ = false := by
  obtain ⟨h, -⟩ := h
  have h0 := h
  rcases h.2 with ⟨hv, hn⟩ | ⟨g, cap, cur, hv, hb, hg, r⟩
  · omega
  · subst hv
    have hs : E[j]? = some E[j] := List.getElem?_eq_getElem hj
    have at3 : ∀ i, i < 3 → W.cell? ⟨g, j * 3 + i, none⟩ = (ecells E[j])[i]? := fun i hi => by
      rw [World.ownsRow.cellAt (g := g) (cap := cap) h0 (j * 3 + i) (by omega), eflat_get E j i hi, hs]
      rfl
    exact ⟨g, cap, rfl, hb, (Array.getElem?_eq_some_iff.1 hg).1, at3 0 (by omega), at3 1 (by omega), at3 2 (by omega), fun o => by simp [World.frozen?, hg]⟩
end Go.Proofs.YtngodcoefmihlaaGreatDoor
