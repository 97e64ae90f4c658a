/-
  Plain laws for the law of hidden names: a name added and given a value; the last environment that has a name; a whole number as a float is no NaN. No program in sight. No condition.
-/
import Derived.Test.YtngodcoefmihlaaGreatDoorEvPlain
import Derived.Test.YtngodcoefmihlaaGreatDoorEvFind
namespace Go.Proofs.YtngodcoefmihlaaGreatDoor

/-- A name added, if it is not there. -/
def badd (nm : ByteArray) (l : List Bnd) : List Bnd := if bhas nm l = true then l else l ++ [⟨nm, 0, 0⟩]
theorem badd_has (nm : ByteArray) (l : List Bnd) : (bix nm (badd nm l)).isSome = true := by
  unfold badd
  split
  · rename_i h
    exact h
  · exact bix_append nm 0 0 l
theorem badd_len (nm : ByteArray) (l : List Bnd) : (badd nm l).length ≤ l.length + 1 := by
  unfold badd
  split <;> simp
theorem upd_same (nm ask : ByteArray) (f : Nat) (l : List Bnd) (h : (nm.toList == ask.toList) = true) : bfind ask (bset nm f (badd nm l)) = some f := bfind_set_same nm ask f h _ (badd_has nm l)
theorem upd_other (nm ask : ByteArray) (f : Nat) (l : List Bnd) (h : (nm.toList == ask.toList) = false) : bfind ask (bset nm f (badd nm l)) = bfind ask l := by
  rw [bfind_set_other nm ask f h]
  unfold badd
  split
  · rfl
  · exact bfind_append ask nm 0 0 h l
/-- All are numbers. -/
def K3 (l : List Bnd) : Prop := ∀ b ∈ l, b.k = 3
theorem K3.set (nm : ByteArray) (f : Nat) : ∀ l, K3 l → K3 (bset nm f l)
  | [], h => h
  | b :: r, h => by
    unfold bset
    split
    · intro c hc
      rcases List.mem_cons.1 hc with rfl | hc
      · rfl
      · exact h c (List.mem_cons_of_mem _ hc)
    · intro c hc
      rcases List.mem_cons.1 hc with rfl | hc
      · exact h _ (List.mem_cons_self ..)
      · exact K3.set nm f r (fun d hd => h d (List.mem_cons_of_mem _ hd)) c hc
theorem bset_new (nm : ByteArray) (f : Nat) : ∀ l, (bix nm l).isSome = false → bset nm f (l ++ [⟨nm, 0, 0⟩]) = l ++ [⟨nm, 3, f⟩]
  | [], _ => by simp [bset]
  | b :: r, h => by
    unfold bix at h
    split at h
    · simp at h
    · rename_i hb
      rw [List.cons_append, List.cons_append, bset, if_neg hb, bset_new nm f r (by simpa using h)]
theorem K3.upd (nm : ByteArray) (f : Nat) (l : List Bnd) (h : K3 l) : K3 (bset nm f (badd nm l)) := by
  unfold badd
  split
  · exact K3.set nm f l h
  · rename_i hb
    rw [bset_new nm f l (by simpa [bhas] using hb)]
    intro c hc
    rcases List.mem_append.1 hc with hc | hc
    · exact h c hc
    · simp at hc
      subst hc
      rfl
theorem upd_len (nm : ByteArray) (f : Nat) (l : List Bnd) : (bset nm f (badd nm l)).length ≤ l.length + 1 := by
  rw [bset_length]
  exact badd_len nm l
/-- What a place tells. -/
theorem bfind_at (nm : ByteArray) : ∀ (l : List Bnd) (j : Nat), bix nm l = some j → ∃ b, l[j]? = some b ∧ bfind nm l = some b.n
  | [], j, h => by simp [bix] at h
  | b :: r, j, h => by
    unfold bix at h
    unfold bfind
    split at h
    · rename_i hb
      have : j = 0 := by simpa using h.symm
      subst this
      rw [if_pos hb]
      exact ⟨b, rfl, rfl⟩
    · rename_i hb
      rw [if_neg hb]
      cases h2 : bix nm r with
      | none => rw [h2] at h; simp at h
      | some i =>
        rw [h2] at h
        have e : i + 1 = j := by simpa using h
        subst e
        exact bfind_at nm r i h2
theorem last_look (nm : ByteArray) (E : List EnvR) : ∀ c, c ≤ E.length →
    (lastHas nm E c = -1 ∧ look nm ((E.take c).map (·.l)) = none) ∨
      ∃ (n : Nat) (r : EnvR) (j : Nat) (b : Bnd), lastHas nm E c = (n : Int) ∧ E[n]? = some r ∧ bix nm r.l = some j ∧ r.l[j]? = some b ∧ look nm ((E.take c).map (·.l)) = some b.n
  | 0, _ => .inl ⟨rfl, by simp [look]⟩
  | c + 1, h => by
    have hc : c < E.length := by omega
    have hs : E[c]? = some E[c] := List.getElem?_eq_getElem hc
    have hb : E[c]! = E[c] := getElem!_pos E c hc
    have et : (E.take (c + 1)).map (·.l) = (E.take c).map (·.l) ++ [E[c].l] := by
      rw [List.take_succ_eq_append_getElem hc, List.map_append]
      rfl
    rw [et, look_app]
    unfold lastHas
    rw [hb]
    cases hx : bix nm E[c].l with
    | some j =>
      obtain ⟨b, h1, h2⟩ := bfind_at nm _ j hx
      rw [if_pos (by simp [bhas, hx]), h2]
      exact .inr ⟨c, E[c], j, b, rfl, hs, hx, h1, rfl⟩
    | none =>
      have h2 : bfind nm E[c].l = none := by
        have := bfind_bix nm E[c].l
        rw [hx] at this
        simpa using this
      rw [if_neg (by simp [bhas, hx]), h2]
      exact last_look nm E c (by omega)
/-- A whole number as a float. -/
theorem nearest_order (n : Int) : FloatKind.f64.format.order (FloatKind.f64.nearest n) (FloatKind.f64.nearest n) = some .eq := by
  have key : ∀ neg r, r ≤ Ieee.double.infRung → Ieee.double.order (Ieee.double.word neg r) (Ieee.double.word neg r) = some .eq := by
    intro neg r hr
    have hI : Ieee.double.infRung = 9218868437227405312 := by decide
    have hS : Ieee.double.signWeight = 9223372036854775808 := by decide
    have hw : Ieee.double.word neg r % Ieee.double.signWeight = r := by
      unfold Ieee.Format.word
      rw [hS]
      rw [hI] at hr
      split <;> omega
    unfold Ieee.Format.order Ieee.Format.read
    simp only [hw]
    split
    · simp [Ieee.Datum.order]
    · split
      · simp [Ieee.Datum.order]
      · rw [if_pos (by omega)]
        simp [Ieee.Datum.order]
  show Ieee.double.order (Ieee.double.nearest _ _ _) (Ieee.double.nearest _ _ _) = _
  unfold Ieee.Format.nearest
  split
  · exact key _ _ (Nat.zero_le _)
  · exact key _ _ (Nat.min_le_right _ _)
end Go.Proofs.YtngodcoefmihlaaGreatDoor
