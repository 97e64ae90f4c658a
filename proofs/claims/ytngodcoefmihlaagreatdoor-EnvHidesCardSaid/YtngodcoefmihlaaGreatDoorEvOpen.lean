/-
  Lists of texts, handed in: what their reading as data gives of the cells. No condition.
-/
import Derived.Test.YtngodcoefmihlaaGreatDoorEvLaw
import Derived.Deep.Strs
namespace Go.Proofs.YtngodcoefmihlaaGreatDoor
open Go.ChangeShapes Go.WideShapes Go.RowKit Go.Deep

theorem plain_addr {w : World} {a : Addr} {v : Value} (h : w.cell? a = some v) (hv : (∃ s, v = .string s) ∨ ∃ x n c, v = .slice x n c) : a = ⟨a.block, a.off, none⟩ := by
  obtain ⟨b, o, q⟩ := a
  cases q with
  | none => rfl
  | some q =>
    unfold World.cell? at h
    rcases hv with ⟨s, rfl⟩ | ⟨x, n, c, rfl⟩ <;> (simp at h; split at h <;> simp at h)
theorem open_names {H : Type} {enc : TypeId × Value → H} {w : World} {base : Nat} {spare : Nat → Bool} {held : Bool} {v : Value} {d : DataW H} {p : List MemPlace}
    (h : DataW.Trod enc Tryz.prog w base spare held 70 v d p) (hv : ∃ a len cap, v = .slice a len cap) :
    ∃ a b o n cap A L C S, v = .slice a n cap ∧ (0 < n → a = some ⟨b, o, none⟩) ∧ Handed b o n A L C S w ∧ n ≤ maxLen ∧ ∀ i, i < n → L i ≤ maxLen := by
  obtain ⟨a0, len0, cap0, rfl⟩ := hv
  obtain ⟨fuel, hf⟩ := h
  have hc0 : (Value.slice a0 len0 cap0).cells.toList = [.slice a0 len0 cap0] := rfl
  rw [hc0] at hf
  rcases open_slice1 Tryz.underlying70 (by kernel_rfl) hf with ⟨h1, -⟩ | ⟨a, len, cap, m, n, V, D, Pl, hcs, hb, hl, hm, hmm, -, hx⟩
  · simp only [List.cons.injEq, and_true, Value.slice.injEq] at h1
    obtain ⟨rfl, rfl, rfl⟩ := h1
    exact ⟨none, 0, 0, 0, 0, fun _ => none, fun _ => 0, fun _ => 0, fun _ _ => ⟨#[]⟩, rfl, fun hh => absurd hh (Nat.lt_irrefl _), ⟨fun i hi => absurd hi (Nat.not_lt_zero _), fun i hi => absurd hi (Nat.not_lt_zero _)⟩, Nat.zero_le _, fun i hi => absurd hi (Nat.not_lt_zero _)⟩
  · simp only [List.cons.injEq, and_true, Value.slice.injEq] at hcs
    obtain ⟨rfl, rfl, rfl⟩ := hcs
    have hlm : len0 ≤ m := by rw [hmm]; split <;> omega
    have each : ∀ i, i < len0 → ∃ y : Option Addr × Nat × Nat × (Nat → ByteArray), V i = .slice y.1 y.2.1 y.2.2.1 ∧ y.2.1 ≤ maxLen ∧ ∀ j, j < y.2.1 → ∃ g q, y.1 = some ⟨g, q, none⟩ ∧ w.cell? ⟨g, q + j, none⟩ = some (.string (y.2.2.2 j)) ∧ (y.2.2.2 j).size ≤ maxLen := fun i hi => by
      rcases open_strs Tryz.underlying65 Tryz.underlying9 (by kernel_rfl) (hx i (by omega)).2 with ⟨h1, -⟩ | ⟨a', len', cap', m', Sx, h1, -, hl', hm', hmm', -, hcell⟩
      · simp only [List.cons.injEq, and_true] at h1
        exact ⟨(none, 0, 0, fun _ => ⟨#[]⟩), h1, Nat.zero_le _, fun j hj => absurd hj (Nat.not_lt_zero _)⟩
      · simp only [List.cons.injEq, and_true] at h1
        have hlm' : len' ≤ m' := by rw [hmm']; split <;> omega
        refine ⟨(some a', len', cap', Sx), h1, Nat.le_trans hl' hm', fun j hj => ?_⟩
        obtain ⟨c1, c2⟩ := hcell j (by have : j < len' := hj; omega)
        obtain ⟨c0, -⟩ := hcell 0 (by have : j < len' := hj; omega)
        have hp := plain_addr c0 (.inl ⟨_, rfl⟩)
        obtain ⟨g, q, x⟩ := a'
        have hx0 : x = none := by simpa [Addr.add] using hp
        subst hx0
        rw [Addr.add_lit] at c1
        exact ⟨g, q, rfl, c1, c2⟩
    obtain ⟨y, hy⟩ := choose_lt each
    obtain ⟨b, o, x⟩ := a
    refine ⟨some ⟨b, o, x⟩, b, o, len0, cap0, fun i => (y i).1, fun i => (y i).2.1, fun i => (y i).2.2.1, fun i => (y i).2.2.2, rfl, fun h0 => ?_, ⟨fun i hi => ?_, fun i hi => (hy i hi).2.2⟩, Nat.le_trans hl hm, fun i hi => (hy i hi).2.1⟩
    · obtain ⟨c1, -⟩ := hx 0 (by omega)
      rw [(hy 0 h0).1] at c1
      have hp := plain_addr c1 (.inr ⟨_, _, _, rfl⟩)
      have hx0 : x = none := by simpa [Addr.add] using hp
      rw [hx0]
    · obtain ⟨c0, -⟩ := hx 0 (by omega)
      rw [(hy 0 (by omega)).1] at c0
      have hp := plain_addr c0 (.inr ⟨_, _, _, rfl⟩)
      have hx0 : x = none := by simpa [Addr.add] using hp
      subst hx0
      obtain ⟨c1, -⟩ := hx i (by omega)
      rw [(hy i hi).1, Addr.add_lit] at c1
      exact c1
end Go.Proofs.YtngodcoefmihlaaGreatDoor
