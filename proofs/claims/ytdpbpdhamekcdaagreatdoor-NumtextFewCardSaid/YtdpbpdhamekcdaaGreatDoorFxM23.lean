/-
  Plain laws: the forms in which so many digits are written are decimals that round as the digits do. No program's function; 17 digits at most.
-/
import Derived.Test.YtdpbpdhamekcdaaGreatDoorBaM22
namespace Go.Proofs.YtdpbpdhamekcdaaGreatDoor
open Go.RowKit
namespace Us
open Nv

/-- A decimal that is read as V times ten to the j. -/
structure ToldN (t : List UInt8) (V : Nat) (j : Int) : Prop where
  ex : ∃ W P pt ex, t = ownS W P pt ++ exS ex ∧ IsDec W P pt ex ∧ W ≠ [] ∧ t.length ≤ 999 ∧ NoHex t ∧
    ((W ++ P).dropWhile (· == 48) ≠ [] → -400 ≤ atOf W P ex ∧ atOf W P ex ≤ 400 ∧ Sharp ((W ++ P).dropWhile (· == 48)) (atOf W P ex)) ∧
    ∀ R, Rnd R (valL (W ++ P) * hiP (exN ex - (P.length : Int)) * tiny) (loQ (exN ex - (P.length : Int))) → Rnd R (V * hiP j * tiny) (loQ j)
/-- So many digits. -/
structure Dg (L : List UInt8) : Prop where
  d : ∀ b ∈ L, isD b = true
  hd : L.head? ≠ some 48
  one : 1 ≤ L.length
  top : L.length ≤ 17
theorem Dg.lt {L : List UInt8} (h : Dg L) : valL L < 100000000000000000 := by
  have := valL_lt L h.d
  have h2 : 10 ^ L.length ≤ 10 ^ 17 := Nat.pow_le_pow_right (by decide) h.top
  omega
theorem Dg.ge {L : List UInt8} (h : Dg L) : 10 ^ (L.length - 1) ≤ valL L := by
  obtain ⟨hd, hh, h1, -⟩ := h
  cases L with
  | nil => simp at h1
  | cons c r =>
    rw [valL_cons, List.length_cons, Nat.add_sub_cancel]
    have h2 := isD_iff.1 (hd c (by simp))
    have h3 : c ≠ 48 := fun hc => hh (by rw [hc]; rfl)
    have h4 : c.toNat ≠ 48 := fun hc => h3 (UInt8.toNat_inj.1 hc)
    have h5 := Nat.mul_le_mul_right (10 ^ r.length) (show 1 ≤ c.toNat - 48 by omega)
    omega
theorem Dg.sharp {L : List UInt8} (h : Dg L) (e : Int) : Sharp L e := by
  have hl := h.top
  have ht : L.take 19 = L := List.take_of_length_le (by omega)
  have hc := h.lt
  refine ⟨by rw [List.drop_eq_nil_of_le (by omega)]; simp, ?_⟩
  rw [ht]
  intro b h1 h2 h3 h4 h5 h6
  refine uok57 h5 h6 h1 ?_ h3 h4
  rcases Nat.lt_or_ge 57 b with g | g
  · exfalso
    have := Nat.pow_le_pow_right (show 0 < 2 by decide) (show 57 ≤ b - 1 by omega)
    omega
  · exact g
theorem Dg.ne {L : List UInt8} (h : Dg L) : L ≠ [] := by
  intro hh
  have := h.one
  rw [hh] at this
  simp at this
theorem form_plain {L : List UInt8} (h : Dg L) : ToldN L (valL L) 0 := by
  have hW0 : L[0]? ≠ some 48 := by rw [← List.head?_eq_getElem?]; exact h.hd
  have hdw : (L ++ []).dropWhile (· == 48) = L := by rw [List.append_nil]; exact drop_head h.hd
  have hat : atOf L [] none = (L.length : Int) := by
    unfold atOf
    rw [hdw]
    simp [exN]
  have hk2 := h.top
  refine ⟨⟨L, [], false, none, by simp [ownS, exS], ⟨h.d, by simp, fun _ => rfl, by rw [List.append_nil]; exact h.ne, by simp, ?_⟩, h.ne, by omega, .inr (.inl hW0), fun _ => ?_, fun R hR => ?_⟩⟩
  · simp [ownS, exS]
    omega
  · rw [hdw, hat]
    exact ⟨by omega, by omega, h.sharp _⟩
  · rw [List.append_nil] at hR
    exact hR
theorem form_pt {L : List UInt8} (h : Dg L) {m : Nat} (h1 : 1 ≤ m) (h2 : m < L.length) : ToldN (L.take m ++ [46] ++ L.drop m) (valL L) ((m : Int) - (L.length : Int)) := by
  have hk2 := h.top
  have htd : L.take m ++ L.drop m = L := List.take_append_drop m L
  have hW0 : (L.take m ++ [46] ++ L.drop m)[0]? ≠ some 48 := by
    rw [List.append_assoc, head_byte (by rw [List.length_take]; omega), List.head?_take, if_neg (by omega)]
    exact h.hd
  have hdw : (L.take m ++ L.drop m).dropWhile (· == 48) = L := by rw [htd]; exact drop_head h.hd
  have hat : atOf (L.take m) (L.drop m) none = (m : Int) := by
    unfold atOf
    rw [hdw, List.length_drop]
    simp [exN]
    omega
  refine ⟨⟨L.take m, L.drop m, true, none, by simp [ownS, exS], ⟨fun b hb => h.d b (List.mem_of_mem_take hb), fun b hb => h.d b (List.mem_of_mem_drop hb), fun hh => (by cases hh), by rw [htd]; exact h.ne, by simp, ?_⟩, ?_, ?_, .inr (.inl hW0), fun _ => ?_, fun R hR => ?_⟩⟩
  · simp [ownS, exS]
    omega
  · intro hh
    have := congrArg List.length hh
    rw [List.length_take, List.length_nil] at this
    omega
  · simp
    omega
  · rw [hdw, hat]
    exact ⟨by omega, by omega, h.sharp _⟩
  · rw [htd, List.length_drop, show exN none - ((L.length - m : Nat) : Int) = (m : Int) - (L.length : Int) by show (0 : Int) - _ = _; omega] at hR
    exact hR
theorem form_zero {L : List UInt8} (h : Dg L) {m : Nat} (hm : m ≤ 300) : ToldN ([48, 46] ++ List.replicate m 48 ++ L) (valL L) (-((m : Int) + (L.length : Int))) := by
  have hk2 := h.top
  have hdw : ([48] ++ (List.replicate m 48 ++ L)).dropWhile (· == 48) = L := by
    show (48 :: (List.replicate m 48 ++ L)).dropWhile (· == 48) = L
    rw [List.dropWhile_cons_of_pos (by rfl), drop_noughts]
    exact drop_head h.hd
  have hat : atOf [48] (List.replicate m 48 ++ L) none = -(m : Int) := by
    unfold atOf
    rw [hdw]
    simp [exN]
    omega
  have htt : [48, 46] ++ List.replicate m 48 ++ L = ownS [48] (List.replicate m 48 ++ L) true ++ exS none := by simp [ownS, exS]
  refine ⟨⟨[48], List.replicate m 48 ++ L, true, none, htt, ⟨by simp [isD], ?_, fun hh => (by cases hh), by simp, by simp, ?_⟩, by simp, ?_, .inr (.inr ⟨by simp, by simp⟩), fun _ => ?_, fun R hR => ?_⟩⟩
  · intro b hb
    rcases List.mem_append.1 hb with hb | hb
    · exact noughts_D b hb
    · exact h.d b hb
  · simp [ownS, exS]
    omega
  · simp
    omega
  · rw [hdw, hat]
    exact ⟨by omega, by omega, h.sharp _⟩
  · rw [← valL_trim, hdw, List.length_append, List.length_replicate, show exN none - ((m + L.length : Nat) : Int) = -((m : Int) + (L.length : Int)) by show (0 : Int) - _ = _; omega] at hR
    exact hR
theorem exN_digs {g : Option Bool} {a : Nat} (ha : a < 10000) : exN (some (101, g, digs 10 a)) = (if g = some true then -1 else 1) * (a : Int) := by
  show (if g = some true then -1 else 1) * (pwN (digs 10 a) : Int) = _
  rw [pwN_digs ha]
theorem ex_len {g : Option Bool} {a : Nat} (ha : a < 10000) : (exS (some (101, g, digs 10 a))).length ≤ 6 := by
  have h4 := digs_four ha
  show (sgB g ++ digs 10 a).length + 1 ≤ 6
  rw [List.length_append]
  have : (sgB g).length ≤ 1 := by rcases g with _ | _ | _ <;> decide
  omega
theorem ex_parts {g : Option Bool} {a : Nat} : ∀ (c : UInt8) (g' : Option Bool) (X : List UInt8), some (101, g, digs 10 a) = some (c, g', X) → (c = 101 ∨ c = 69) ∧ X ≠ [] ∧ ∀ b ∈ X, isD b = true := by
  intro c g' X hh
  obtain ⟨rfl, rfl, rfl⟩ : 101 = c ∧ g = g' ∧ digs 10 a = X := by
    have := Option.some.inj hh
    simp only [Prod.mk.injEq] at this
    exact this
  refine ⟨.inl rfl, ?_, digs_D⟩
  intro h0
  have := digs_pos a
  rw [h0] at this
  simp at this
/-- Digits, then an exponent. -/
theorem form_e {L : List UInt8} (h : Dg L) (g : Option Bool) {a : Nat} (ha : a ≤ 380) : ToldN (L ++ 101 :: (sgB g ++ digs 10 a)) (valL L) ((if g = some true then -1 else 1) * (a : Int)) := by
  have hk2 := h.top
  have hW0 : (L ++ 101 :: (sgB g ++ digs 10 a))[0]? ≠ some 48 := by rw [head_byte h.one]; exact h.hd
  have hdw : (L ++ []).dropWhile (· == 48) = L := by rw [List.append_nil]; exact drop_head h.hd
  have hex := exN_digs (g := g) (show a < 10000 by omega)
  have hel := ex_len (g := g) (show a < 10000 by omega)
  have hat : atOf L [] (some (101, g, digs 10 a)) = (L.length : Int) + (if g = some true then -1 else 1) * (a : Int) := by
    unfold atOf
    rw [hdw, hex]
    simp
  have hb : -380 ≤ (if g = some true then -1 else 1) * (a : Int) ∧ (if g = some true then -1 else 1) * (a : Int) ≤ 380 := by
    by_cases hg : g = some true
    · rw [if_pos hg]
      omega
    · rw [if_neg hg]
      omega
  have htt : L ++ 101 :: (sgB g ++ digs 10 a) = ownS L [] false ++ exS (some (101, g, digs 10 a)) := by
    rw [show ownS L [] false = L by simp [ownS]]
    rfl
  have hlt : (L ++ 101 :: (sgB g ++ digs 10 a)).length ≤ 30 := by
    rw [htt, List.length_append, show ownS L [] false = L by simp [ownS]]
    omega
  refine ⟨⟨L, [], false, some (101, g, digs 10 a), htt, ⟨h.d, by simp, fun _ => rfl, by rw [List.append_nil]; exact h.ne, ex_parts, by rw [← htt]; omega⟩, h.ne, by omega, .inr (.inl hW0), fun _ => ?_, fun R hR => ?_⟩⟩
  · rw [hdw, hat]
    exact ⟨by omega, by omega, h.sharp _⟩
  · rw [List.append_nil, hex, show (([] : List UInt8).length : Int) = 0 from rfl, Int.sub_zero] at hR
    exact hR
/-- Digits with a point behind the first one, and an exponent. -/
theorem form_exp {L : List UInt8} (h : Dg L) {e : Int} (he1 : -380 ≤ e) (he2 : e ≤ 380) : ToldN (expS L e) (valL L) (e - (L.length : Int) + 1) := by
  have hk1 := h.one
  have hk2 := h.top
  have heb : e.natAbs < 10000 := by omega
  have htd : L.take 1 ++ L.drop 1 = L := List.take_append_drop 1 L
  have htt : expS L e = ownS (L.take 1) (L.drop 1) (decide (1 < L.length)) ++ exS (some (101, some (decide (e < 0)), digs 10 e.natAbs)) := by
    unfold expS ownS exS
    have a1 : (if 1 < L.length then L.take 1 ++ [46] ++ L.drop 1 else L.take 1) = L.take 1 ++ (if decide (1 < L.length) = true then 46 :: L.drop 1 else []) := by
      by_cases hh : 1 < L.length
      · rw [if_pos hh, decide_eq_true hh, if_pos rfl]
        simp
      · rw [if_neg hh, decide_eq_false hh, if_neg (by decide), List.append_nil]
    have a2 : (if e < 0 then [101, 45] ++ digs 10 (-e).toNat else [101, 43] ++ digs 10 e.toNat) = 101 :: (sgB (some (decide (e < 0))) ++ digs 10 e.natAbs) := by
      by_cases hh : e < 0
      · rw [if_pos hh, decide_eq_true hh, show (-e).toNat = e.natAbs by omega]
        rfl
      · rw [if_neg hh, decide_eq_false hh, show e.toNat = e.natAbs by omega]
        rfl
    rw [a1, a2]
  have hW0 : (expS L e)[0]? ≠ some 48 := by
    rw [htt]
    unfold ownS
    rw [List.append_assoc, head_byte (by rw [List.length_take]; omega), List.head?_take, if_neg (by decide)]
    exact h.hd
  have hdw : (L.take 1 ++ L.drop 1).dropWhile (· == 48) = L := by rw [htd]; exact drop_head h.hd
  have hex : exN (some (101, some (decide (e < 0)), digs 10 e.natAbs)) = e := by
    rw [exN_digs heb]
    by_cases hh : e < 0
    · rw [decide_eq_true hh, if_pos rfl]
      omega
    · rw [decide_eq_false hh, if_neg (by decide)]
      omega
  have hat : atOf (L.take 1) (L.drop 1) (some (101, some (decide (e < 0)), digs 10 e.natAbs)) = e + 1 := by
    unfold atOf
    rw [hdw, hex, List.length_drop]
    omega
  have hel := ex_len (g := some (decide (e < 0))) heb
  have htl : (expS L e).length ≤ 60 := by
    rw [htt]
    have := own_len (W := L.take 1) (P := L.drop 1) (pt := decide (1 < L.length)) (ex := some (101, some (decide (e < 0)), digs 10 e.natAbs))
    rw [List.length_take, List.length_drop] at this
    split at this <;> omega
  refine ⟨⟨L.take 1, L.drop 1, decide (1 < L.length), some (101, some (decide (e < 0)), digs 10 e.natAbs), htt, ⟨fun b hb => h.d b (List.mem_of_mem_take hb), fun b hb => h.d b (List.mem_of_mem_drop hb), fun hh => ?_, by rw [htd]; exact h.ne, ex_parts, by rw [← htt]; omega⟩, ?_, by omega, .inr (.inl hW0), fun _ => ?_, fun R hR => ?_⟩⟩
  · exact List.drop_eq_nil_of_le (by have := of_decide_eq_false hh; omega)
  · intro hh
    have := congrArg List.length hh
    rw [List.length_take, List.length_nil] at this
    omega
  · rw [hdw, hat]
    exact ⟨by omega, by omega, h.sharp _⟩
  · rw [htd, hex, List.length_drop, show e - ((L.length - 1 : Nat) : Int) = e - (L.length : Int) + 1 by omega] at hR
    exact hR
end Us
end Go.Proofs.YtdpbpdhamekcdaaGreatDoor
