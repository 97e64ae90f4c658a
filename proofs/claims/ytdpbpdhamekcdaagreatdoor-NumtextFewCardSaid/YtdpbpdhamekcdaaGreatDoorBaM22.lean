/-
  Plain laws: the text of a float is a decimal that rounds to the float. No program's function; the float is finite and above nought. quilllaw03.NumtextBack answers true. Conditions: the laid variables of strconv have their values.
-/
import Derived.Test.YtdpbpdhamekcdaaGreatDoorBaM21
import Derived.Test.YtdpbpdhamekcdaaGreatDoorBaM4
import Derived.Test.YtdpbpdhamekcdaaGreatDoorBaM14
namespace Go.Proofs.YtdpbpdhamekcdaaGreatDoor
open Go.RowKit
namespace Us
open Nv

/-- A decimal that is read as a float. -/
structure Told (t : List UInt8) (r : Nat) : Prop where
  ex : ∃ W P pt ex, t = ownS W P pt ++ exS ex ∧ IsDec W P pt ex ∧ W ≠ [] ∧ t.length ≤ 999 ∧ NoHex t ∧
    ((W ++ P).dropWhile (· == 48) ≠ [] → -400 ≤ atOf W P ex ∧ atOf W P ex ≤ 400 ∧ Sharp ((W ++ P).dropWhile (· == 48)) (atOf W P ex)) ∧
    ∀ R, Rnd R (valL (W ++ P) * hiP (exN ex - (P.length : Int)) * tiny) (loQ (exN ex - (P.length : Int))) → R = r
theorem pwN_digs {n : Nat} (h : n < 10000) : pwN (digs 10 n) = n := by
  have key : ∀ l : List UInt8, valL l.reverse < 1000000 → (∀ b ∈ l, isD b = true) → pwN l.reverse = valL l.reverse := by
    intro l
    induction l with
    | nil => intro _ _; rfl
    | cons c l ih =>
      intro hv hD
      rw [List.reverse_cons] at hv ⊢
      rw [valL_snoc] at hv ⊢
      rw [pwN_snoc, ih (by omega) (fun b hb => hD b (by simp [hb]))]
      omega
  have := key (digs 10 n).reverse
  rw [List.reverse_reverse, valL_digs] at this
  exact this (by omega) (fun b hb => digs_D b (List.mem_reverse.1 hb))
theorem digs_first {c : Nat} (h : 0 < c) : (digs 10 c).head? ≠ some 48 := by
  unfold digs
  rw [if_neg (by omega)]
  suffices hh : ∀ n, 0 < n → (rdigs 10 n).reverse.head? ≠ some 48 from hh c h
  intro n
  induction n using Nat.strongRecOn with
  | _ n ih =>
    intro hn
    rw [rdigs_pos (by decide) hn, List.reverse_cons]
    rcases Nat.eq_zero_or_pos (n / 10) with g | g
    · rw [g, rdigs_zero]
      show some (dg (n % 10)) ≠ some 48
      intro hh
      have := dg_dec (show n % 10 < 10 by omega)
      rw [Option.some.inj hh] at this
      have e : (48 : UInt8).toNat = 48 := rfl
      omega
    · have h2 := ih (n / 10) (by omega) g
      have hne : (rdigs 10 (n / 10)).reverse ≠ [] := by
        rw [rdigs_pos (by decide) g]
        simp
      revert h2 hne
      generalize (rdigs 10 (n / 10)).reverse = l
      intro h2 hne
      cases l with
      | nil => exact absurd rfl hne
      | cons a l => exact h2
theorem drop_head {l : List UInt8} (h : l.head? ≠ some 48) : l.dropWhile (· == 48) = l := by
  cases l with
  | nil => rfl
  | cons c r =>
    rw [List.dropWhile_cons_of_neg]
    simp at h
    simpa using h
theorem drop_noughts (n : Nat) (l : List UInt8) : (List.replicate n 48 ++ l).dropWhile (· == 48) = l.dropWhile (· == 48) := by
  induction n with
  | zero => rfl
  | succ n ih =>
    rw [List.replicate_succ, List.cons_append, List.dropWhile_cons_of_pos (by rfl), ih]
theorem noughts_D {n : Nat} : ∀ b ∈ List.replicate n (48 : UInt8), isD b = true := by
  intro b hb
  rw [List.eq_of_mem_replicate hb]
  rfl
theorem digs17 {c : Nat} (h : c < 100000000000000000) : (digs 10 c).length ≤ 17 := by
  unfold digs
  split
  · decide
  · rw [List.length_reverse]
    have key : ∀ k n, n < 10 ^ k → (rdigs 10 n).length ≤ k := by
      intro k
      induction k with
      | zero => intro n hn; rw [show n = 0 by simpa using hn, rdigs_zero]; exact Nat.le_refl _
      | succ k ih =>
        intro n hn
        rcases Nat.eq_zero_or_pos n with g | g
        · rw [g, rdigs_zero]; exact Nat.zero_le _
        · rw [rdigs_pos (by decide) g, List.length_cons]
          have := ih (n / 10) (by rw [Nat.pow_succ] at hn; omega)
          omega
    exact key 17 c h
/-- Is the product sharp at 17 digits? -/
theorem sharp17 {c : Nat} (hc : c < 100000000000000000) (e : Int) : Sharp (digs 10 c) e := by
  have hl := digs17 hc
  have ht : (digs 10 c).take 19 = digs 10 c := List.take_of_length_le (by omega)
  refine ⟨by rw [List.drop_eq_nil_of_le (by omega)]; simp, ?_⟩
  rw [ht, valL_digs]
  intro b h1 h2 h3 h4 h5 h6
  refine uok57 h5 h6 h1 ?_ h3 h4
  rcases Nat.lt_or_ge 57 b with g | g
  · exfalso
    have := Nat.pow_le_pow_right (show 0 < 2 by decide) (show 57 ≤ b - 1 by omega)
    omega
  · exact g
/-- Is it sharp at digits with noughts behind? -/
theorem sharp_noughts {c n : Nat} (hc : c < 100000000000000000) (hn : (digs 10 c).length + n ≤ 21) : Sharp (digs 10 c ++ List.replicate n 48) ((digs 10 c).length + n : Nat) := by
  have hl := digs17 hc
  constructor
  · intro b hb
    rw [List.drop_append, List.drop_eq_nil_of_le (by omega), List.nil_append] at hb
    exact List.eq_of_mem_replicate (List.mem_of_mem_drop hb)
  · intro b h1 h2 h3 h4 h5 h6
    rw [List.length_append, List.length_replicate] at h5 h6 ⊢
    exact uok64 (by omega) (by omega) h1 h2 h3 h4
theorem in_one {r c : Nat} {j : Int} (h2 : r < infR) (h : In r c j) : ∀ R, Rnd R (c * hiP j * tiny) (loQ j) → R = r := fun _ hR => Rnd.one (loQ_pos j) hR ((in_rnd h2).1 h)
theorem own_len {W P : List UInt8} {pt : Bool} {ex} : (ownS W P pt ++ exS ex).length ≤ W.length + P.length + 1 + (exS ex).length + if pt = false then P.length else 0 := by
  unfold ownS
  cases pt <;> simp <;> omega
theorem head_byte {l r : List UInt8} (h1 : 1 ≤ l.length) : (l ++ r)[0]? = l.head? := by
  cases l with
  | nil => simp at h1
  | cons a l => rfl
set_option maxRecDepth 100000 in
/-- The text of a float is a decimal that rounds to it. -/
theorem txt_told {r c : Nat} {j : Int} (h1 : 1 ≤ r) (h2 : r < infR) (h : Short r c j) : Told (txt c j) r ∧ Plain (txt c j) := by
  have hc := h.pos
  have h17 := short17 h1 h
  obtain ⟨j1, j2⟩ := short_exp h1 h2 h
  have hk1 := digs_pos c
  have hk2 := digs17 h17
  have hhd := digs_first hc
  have hD : ∀ b ∈ digs 10 c, isD b = true := digs_D
  have hv := valL_digs c
  have hone := in_one h2 h.inn
  have hsh := sharp17 h17
  have hshn := fun n => sharp_noughts (n := n) h17
  obtain ⟨L, hL⟩ : ∃ L, digs 10 c = L := ⟨_, rfl⟩
  have htx : txt c j = if (L.length : Int) ≤ j + (L.length : Int) ∧ j + (L.length : Int) ≤ 21 then L ++ List.replicate (j + (L.length : Int) - (L.length : Int)).toNat 48
      else if 0 < j + (L.length : Int) ∧ j + (L.length : Int) ≤ 21 then L.take (j + (L.length : Int)).toNat ++ [46] ++ L.drop (j + (L.length : Int)).toNat
      else if -6 < j + (L.length : Int) ∧ j + (L.length : Int) ≤ 0 then [48, 46] ++ List.replicate (-(j + (L.length : Int))).toNat 48 ++ L
      else expS L (j + (L.length : Int) - 1) := by rw [← hL]; rfl
  rw [hL] at hk1 hk2 hhd hD hv hsh hshn
  rw [htx]
  clear htx hL
  by_cases g1 : (L.length : Int) ≤ j + (L.length : Int) ∧ j + (L.length : Int) ≤ 21
  · rw [if_pos g1]
    obtain ⟨m, hm⟩ : ∃ m : Nat, (j + (L.length : Int) - (L.length : Int)).toNat = m := ⟨_, rfl⟩
    have hjm : j = (m : Int) := by omega
    rw [hm]
    have hW0 : (L ++ List.replicate m 48)[0]? ≠ some 48 := by rw [head_byte hk1]; exact hhd
    have hdw : (L ++ List.replicate m 48 ++ []).dropWhile (· == 48) = L ++ List.replicate m 48 := by
      rw [List.append_nil]
      refine drop_head ?_
      rw [List.head?_eq_getElem?]
      exact hW0
    have hat : atOf (L ++ List.replicate m 48) [] none = ((L.length + m : Nat) : Int) := by
      unfold atOf
      rw [hdw]
      simp [exN]
    refine ⟨⟨⟨L ++ List.replicate m 48, [], false, none, by simp [ownS, exS], ⟨?_, by simp, fun _ => rfl, ?_, by simp, ?_⟩, ?_, ?_, .inr (.inl hW0), fun _ => ?_, fun R hR => ?_⟩⟩, .inl hW0⟩
    · intro b hb
      rcases List.mem_append.1 hb with hb | hb
      · exact hD b hb
      · exact noughts_D b hb
    · intro hh
      have := congrArg List.length hh
      rw [List.length_append, List.length_append, List.length_replicate, List.length_nil] at this
      omega
    · simp [ownS, exS]
      omega
    · intro hh
      have := congrArg List.length hh
      rw [List.length_append, List.length_replicate, List.length_nil] at this
      omega
    · simp
      omega
    · rw [hdw, hat]
      exact ⟨by omega, by omega, hshn m (by omega)⟩
    · refine hone R ?_
      rw [List.append_nil, valL_append, valL_noughts, hv, List.length_replicate, Nat.add_zero] at hR
      rw [hjm, (hiP_nat m).1, (hiP_nat m).2]
      have e : exN none - (([] : List UInt8).length : Int) = ((0 : Nat) : Int) := rfl
      rw [e, (hiP_nat 0).1, (hiP_nat 0).2, Nat.pow_zero, Nat.mul_one] at hR
      exact hR
  · rw [if_neg g1]
    by_cases g2 : 0 < j + (L.length : Int) ∧ j + (L.length : Int) ≤ 21
    · rw [if_pos g2]
      obtain ⟨m, hm⟩ : ∃ m : Nat, (j + (L.length : Int)).toNat = m := ⟨_, rfl⟩
      rw [hm]
      have hmk : m < L.length := by omega
      have htd : L.take m ++ L.drop m = L := List.take_append_drop m L
      have hW0 : (L.take m ++ [46] ++ L.drop m)[0]? ≠ some 48 := by
        rw [List.append_assoc, head_byte (by rw [List.length_take]; omega), List.head?_take, if_neg (by omega)]
        exact hhd
      have hdw : (L.take m ++ L.drop m).dropWhile (· == 48) = L := by rw [htd]; exact drop_head hhd
      have hat : atOf (L.take m) (L.drop m) none = (m : Int) := by
        unfold atOf
        rw [hdw, List.length_drop]
        simp [exN]
        omega
      refine ⟨⟨⟨L.take m, L.drop m, true, none, by simp [ownS, exS], ⟨fun b hb => hD b (List.mem_of_mem_take hb), fun b hb => hD b (List.mem_of_mem_drop hb), fun hh => (by cases hh), ?_, by simp, ?_⟩, ?_, ?_, .inr (.inl hW0), fun _ => ?_, fun R hR => ?_⟩⟩, .inl hW0⟩
      · rw [htd]
        intro hh
        rw [hh] at hk1
        simp at hk1
      · simp [ownS, exS]
        omega
      · intro hh
        have := congrArg List.length hh
        rw [List.length_take, List.length_nil] at this
        omega
      · simp
        omega
      · rw [hdw, hat]
        exact ⟨by omega, by omega, hsh _⟩
      · refine hone R ?_
        rw [htd, hv, List.length_drop, show exN none - ((L.length - m : Nat) : Int) = j by show (0 : Int) - _ = _; omega] at hR
        exact hR
    · rw [if_neg g2]
      by_cases g3 : -6 < j + (L.length : Int) ∧ j + (L.length : Int) ≤ 0
      · rw [if_pos g3]
        obtain ⟨m, hm⟩ : ∃ m : Nat, (-(j + (L.length : Int))).toNat = m := ⟨_, rfl⟩
        rw [hm]
        have hdw : ([48] ++ (List.replicate m 48 ++ L)).dropWhile (· == 48) = L := by
          show (48 :: (List.replicate m 48 ++ L)).dropWhile (· == 48) = L
          rw [List.dropWhile_cons_of_pos (by rfl), drop_noughts]
          exact drop_head hhd
        have hat : atOf [48] (List.replicate m 48 ++ L) none = -(m : Int) := by
          unfold atOf
          rw [hdw]
          simp [exN]
          omega
        have htt : [48, 46] ++ List.replicate m 48 ++ L = ownS [48] (List.replicate m 48 ++ L) true ++ exS none := by simp [ownS, exS]
        refine ⟨⟨⟨[48], List.replicate m 48 ++ L, true, none, htt, ⟨by simp [isD], ?_, fun hh => (by cases hh), by simp, by simp, ?_⟩, by simp, ?_, .inr (.inr ⟨by simp, by simp⟩), fun _ => ?_, fun R hR => ?_⟩⟩, .inr ?_⟩
        · intro b hb
          rcases List.mem_append.1 hb with hb | hb
          · exact noughts_D b hb
          · exact hD b hb
        · simp [ownS, exS]
          omega
        · simp
          omega
        · rw [hdw, hat]
          exact ⟨by omega, by omega, hsh _⟩
        · refine hone R ?_
          rw [← valL_trim, hdw, hv, List.length_append, List.length_replicate, show exN none - ((m + L.length : Nat) : Int) = j by show (0 : Int) - _ = _; omega] at hR
          exact hR
        · have := lead_app (W := [48]) (r := 46 :: (List.replicate m 48 ++ L)) (by simp [isD]) (by intro b hb; obtain rfl := Option.some.inj hb; rfl)
          have e : [48, 46] ++ List.replicate m 48 ++ L = [48] ++ 46 :: (List.replicate m 48 ++ L) := by simp
          rw [e, this]
          exact Nat.le_refl _
      · rw [if_neg g3]
        obtain ⟨e, he⟩ : ∃ e, j + (L.length : Int) - 1 = e := ⟨_, rfl⟩
        rw [he]
        have heb : e.natAbs < 10000 := by omega
        have htd : L.take 1 ++ L.drop 1 = L := List.take_append_drop 1 L
        have htt : expS L e = ownS (L.take 1) (L.drop 1) (decide (1 < L.length)) ++ exS (some (101, some (decide (e < 0)), digs 10 e.natAbs)) := by
          unfold expS ownS exS
          have a1 : (if 1 < L.length then L.take 1 ++ [46] ++ L.drop 1 else L.take 1) = L.take 1 ++ (if decide (1 < L.length) = true then 46 :: L.drop 1 else []) := by
            by_cases hh : 1 < L.length
            · rw [if_pos hh, decide_eq_true hh, if_pos rfl]
              simp
            · rw [if_neg hh, decide_eq_false hh, if_neg (by decide), List.append_nil]
          have a2 : (if e < 0 then [101, 45] ++ digs 10 (-e).toNat else [101, 43] ++ digs 10 e.toNat) = 101 :: (sgB (some (decide (e < 0))) ++ digs 10 e.natAbs) := by
            by_cases hh : e < 0
            · rw [if_pos hh, decide_eq_true hh, show (-e).toNat = e.natAbs by omega]
              rfl
            · rw [if_neg hh, decide_eq_false hh, show e.toNat = e.natAbs by omega]
              rfl
          rw [a1, a2]
        have hW0 : (expS L e)[0]? ≠ some 48 := by
          rw [htt]
          unfold ownS
          rw [List.append_assoc, head_byte (by rw [List.length_take]; omega), List.head?_take, if_neg (by decide)]
          exact hhd
        have hdw : (L.take 1 ++ L.drop 1).dropWhile (· == 48) = L := by rw [htd]; exact drop_head hhd
        have hex : exN (some (101, some (decide (e < 0)), digs 10 e.natAbs)) = e := by
          show (if some (decide (e < 0)) = some true then -1 else 1) * (pwN (digs 10 e.natAbs) : Int) = e
          rw [pwN_digs heb]
          by_cases hh : e < 0
          · rw [decide_eq_true hh, if_pos rfl]
            omega
          · rw [decide_eq_false hh, if_neg (by decide)]
            omega
        have hat : atOf (L.take 1) (L.drop 1) (some (101, some (decide (e < 0)), digs 10 e.natAbs)) = j + (L.length : Int) := by
          unfold atOf
          rw [hdw, hex, List.length_drop]
          omega
        have hel : (exS (some (101, some (decide (e < 0)), digs 10 e.natAbs))).length ≤ 6 := by
          have h4 := digs_four heb
          show (sgB (some (decide (e < 0))) ++ digs 10 e.natAbs).length + 1 ≤ 6
          rw [List.length_append]
          have : (sgB (some (decide (e < 0)))).length = 1 := by
            by_cases hh : e < 0
            · rw [decide_eq_true hh]; rfl
            · rw [decide_eq_false hh]; rfl
          omega
        have htl : (expS L e).length ≤ 60 := by
          rw [htt]
          have := own_len (W := L.take 1) (P := L.drop 1) (pt := decide (1 < L.length)) (ex := some (101, some (decide (e < 0)), digs 10 e.natAbs))
          rw [List.length_take, List.length_drop] at this
          split at this <;> omega
        refine ⟨⟨⟨L.take 1, L.drop 1, decide (1 < L.length), some (101, some (decide (e < 0)), digs 10 e.natAbs), htt, ⟨fun b hb => hD b (List.mem_of_mem_take hb), fun b hb => hD b (List.mem_of_mem_drop hb), fun hh => ?_, ?_, ?_, ?_⟩, ?_, by omega, .inr (.inl hW0), fun _ => ?_, fun R hR => ?_⟩⟩, .inl hW0⟩
        · exact List.drop_eq_nil_of_le (by have := of_decide_eq_false hh; omega)
        · rw [htd]
          intro hh
          rw [hh] at hk1
          simp at hk1
        · intro c g X hh
          obtain ⟨rfl, rfl, rfl⟩ : 101 = c ∧ some (decide (e < 0)) = g ∧ digs 10 e.natAbs = X := by
            have := Option.some.inj hh
            simp only [Prod.mk.injEq] at this
            exact this
          refine ⟨.inl rfl, ?_, digs_D⟩
          intro h0
          have := digs_pos e.natAbs
          rw [h0] at this
          simp at this
        · rw [← htt]
          omega
        · intro hh
          have := congrArg List.length hh
          rw [List.length_take, List.length_nil] at this
          omega
        · rw [hdw, hat]
          exact ⟨by omega, by omega, hsh _⟩
        · refine hone R ?_
          rw [htd, hv, hex, List.length_drop, show e - ((L.length - 1 : Nat) : Int) = j by omega] at hR
          exact hR
end Us
end Go.Proofs.YtdpbpdhamekcdaaGreatDoor
namespace Go.Proofs.YtdpbpdhamekcdaaGreatDoor
open Go.RowKit
namespace Us
open Nv

theorem Rdt.rds {w : World} (h : Rdt w) : Rds w := ⟨h.opt, h.mant, by
  obtain ⟨g, o, v, n, c, a1, a2, a3, a4, a5⟩ := h.ten
  exact ⟨⟨g, o, v⟩, n, c, a1, by omega, a3, a4, by
    have := a5 1 (by decide)
    rwa [show tenF 1 = 4621819117588971520 by decide +kernel] at this⟩⟩
/-- What the readers tell of a text. -/
structure BackC (s : List UInt8) (y z : Nat) (ok : Bool) (w : World) : Prop where
  num : ∀ W, Below w.heap.size w W → Calls Tryz.prog 13 #[.string (S (wide s))] W fun x w' => x = .returned (.float .f64 y) ∧ Below W.heap.size W w'
  lit : ∀ W, Below w.heap.size w W → Calls Tryz.prog 22 #[.string (S (wide s))] W fun x w' => x = .returned (.tuple #[.float .f64 z, .bool ok]) ∧ Below W.heap.size W w'
  flo : ∀ W, Below w.heap.size w W → Calls Tryz.prog 25 #[.string (S (wide s))] W fun x w' => x = .returned (.float .f64 y) ∧ Below W.heap.size W w'
theorem back_pos {t : List UInt8} {r : Nat} (h : Told t r) (hp : Plain t) {w : World} (hR : Rdt w) (hT : Tabs w) : BackC t r r true w := by
  obtain ⟨W, P, pt, ex, rfl, h1, h2, h3, h4, h5, h6⟩ := h.ex
  refine ⟨fun W0 hb => ?_, fun W0 hb => ?_, fun W0 hb => ?_⟩
  · refine (nt_Number_dec h1 h2 h3 h4 (hR.keep hb) (hT.keep hb) h5).mono ?_
    rintro x w' ⟨R, rfl, hr, hb'⟩
    exact ⟨by rw [h6 R hr], hb'⟩
  · refine (nt_Literal_dec h1 h2 h3 h4 hp (hR.keep hb) (hT.keep hb) h5).mono ?_
    rintro x w' ⟨R, rfl, hr, hb'⟩
    exact ⟨by rw [h6 R hr], hb'⟩
  · refine (nt_Float_dec h1 h2 h3 (hR.keep hb) (hT.keep hb) h5).mono ?_
    rintro x w' ⟨R, rfl, hr, hb'⟩
    exact ⟨by rw [h6 R hr], hb'⟩
theorem minus_first {t : List UInt8} : ∀ b, (45 :: t).head? = some b → isD b = false ∧ b ≠ 46 := by
  intro b hb
  obtain rfl := Option.some.inj hb
  decide
theorem back_neg {t : List UInt8} {r : Nat} (h : Told t r) (hr : r < infR) {w : World} (hR : Rdt w) (hT : Tabs w) : BackC (45 :: t) (9223372036854775808 + r) 0 false w := by
  obtain ⟨W, P, pt, ex, rfl, h1, h2, h3, h4, h5, h6⟩ := h.ex
  have hfin : ∀ R, Rnd R (valL (W ++ P) * hiP (exN ex - (P.length : Int)) * tiny) (loQ (exN ex - (P.length : Int))) → R < infR := fun R hr2 => by rw [h6 R hr2]; exact hr
  refine ⟨fun W0 hb => ?_, fun W0 hb => ?_, fun W0 hb => ?_⟩
  · refine (nt_Number_neg h1 h2 h3 (hR.keep hb) (hT.keep hb) h5 hfin).mono ?_
    rintro x w' ⟨R, rfl, hr, hb'⟩
    exact ⟨by rw [h6 R hr], hb'⟩
  · refine nt_Literal_no (by simp) (by rw [List.length_cons]; omega) ?_ minus_first W0
    intro b hb
    rcases List.mem_cons.1 hb with hb | hb
    · subst hb
      decide
    · exact (dec_range h1 b hb).2
  · refine (nt_Float_neg h1 h2 h3 (hR.keep hb) (hT.keep hb) h5 hfin).mono ?_
    rintro x w' ⟨R, rfl, hr, hb'⟩
    exact ⟨by rw [h6 R hr], hb'⟩
theorem back_inf (w : World) : BackC [73, 110, 102, 105, 110, 105, 116, 121] infR 0 false w :=
  ⟨fun W0 _ => nt_Number_inf W0, fun W0 _ => nt_Literal_no (by decide) (by decide) (by decide) (by intro b hb; obtain rfl := Option.some.inj hb; decide) W0, fun W0 _ => nt_Float_inf W0⟩
theorem back_minf (w : World) : BackC (45 :: [73, 110, 102, 105, 110, 105, 116, 121]) (9223372036854775808 + infR) 0 false w :=
  ⟨fun W0 _ => nt_Number_minf W0, fun W0 _ => nt_Literal_no (by decide) (by decide) (by decide) minus_first W0, fun W0 _ => nt_Float_minf W0⟩
theorem told_zero : Told [48] 0 ∧ Plain [48] := by
  refine ⟨⟨⟨[48], [], false, none, rfl, ⟨by simp [isD], by simp, fun _ => rfl, by simp, by simp, by simp [ownS, exS]⟩, by simp, by simp, .inl (by simp), fun h => absurd rfl h, fun R hR => ?_⟩⟩, .inr (by decide)⟩
  have hp : exN none - (([] : List UInt8).length : Int) = ((0 : Nat) : Int) := rfl
  rw [hp] at hR
  exact Rnd.one (loQ_pos _) hR (rnd_zero_val (by simp [valL]))
theorem isNaN_of {f : Nat} {b : Bool} (h : nanB f = b) (w : World) : Calls Tryz.prog 20 #[.float .f64 f] w fun e w' => e = .returned (.bool b) ∧ w' = w := by
  have := math_IsNaN f w
  rw [h] at this
  exact this.mono fun e w' ⟨h1, h2⟩ => ⟨h1, h2.symm⟩
theorem short_some {r : Nat} (h1 : 1 ≤ r) (h2 : r < infR) : ∃ c j, Short r c j := by
  obtain ⟨c, t, j, -, -, hsh, -⟩ := go_parts h1 h2
  exact ⟨c, j, hsh⟩
attribute [local go_sem] run_Float64bits
theorem law_same (y : Nat) (w : World) : Calls Tryz.prog 24 #[.float .f64 y, .float .f64 y] w fun e w' => e = .returned (.bool true) ∧ w' = w := by
  go_enter Tryz.func24, Tryz.ntmps24
  go_wp2_with fail
  go_ret
  exact ⟨by simp, rfl⟩
theorem math_Signbit0 (w : World) : Calls Tryz.prog 21 #[.float .f64 0] w fun e w' => e = .returned (.bool false) ∧ w' = w := by
  go_enter Tryz.func21, Tryz.ntmps21
  go_wp2_with fail
  go_ret
  exact ⟨rfl, rfl⟩
set_option maxRecDepth 100000 in
theorem back_zero {f z : Nat} {ok : Bool} {s : List UInt8} {w : World} (hR : Rdt w) (hT : Tabs w) (hn : nanB f = false)
    (ht : Calls Tryz.prog 18 #[.float .f64 f] w fun x w' => x = .returned (.string (S (wide s))) ∧ Below w.heap.size w w')
    (hC : BackC s 0 z ok w) (oy : FloatKind.f64.format.order f 0 = some .eq) (oz : FloatKind.f64.format.order z f = some .eq) (hok : ok = true) (hinf : ∀ W, Calls Tryz.prog 23 #[.float .f64 f, .int .i64 0] W fun e w' => e = .returned (.bool false) ∧ w' = W) :
    Calls Tryz.prog 5 #[.float .f64 f] w fun e w' => e = .returned (.bool true) ∧ Below w.heap.size w w' := by
  obtain ⟨c1, c2, c3⟩ := hC
  have h1 := Far.mk ht
  replace c1 := Far.mk c1
  replace c2 := Far.mk c2
  replace c3 := Far.mk c3
  have hN : Far (∀ W, Calls Tryz.prog 20 #[.float .f64 f] W fun e w' => e = .returned (.bool false) ∧ w' = W) := ⟨fun W => isNaN_of hn W⟩
  have hI := Far.mk hinf
  have hS := Far.mk (law_same 0)
  have hSg := Far.mk math_Signbit0
  have hA := Far.mk (fun W (hb : Below w.heap.size w W) => nt_awake (hR.keep hb).rds (hT.keep hb))
  subst hok
  clear hR hT ht hn hinf
  generalize S (wide s) = s0 at *
  go_enter Tryz.func5, Tryz.ntmps5
  go_wp2_with fail
  with_reducible refine h1.out.mono ?_
  rintro e w1 ⟨rfl, hb1⟩
  go_wp2_with fail
  with_reducible refine (c1.out _ hb1).mono ?_
  rintro e w2 ⟨rfl, hb'⟩
  have hb2 := hb1.trans (hb'.mono hb1.size)
  clear hb' hb1
  go_wp2_with fail
  with_reducible refine (hN.out _).mono ?_
  rintro e w' ⟨rfl, hw⟩
  replace hw := hw.symm
  subst hw
  go_wp2_with fail
  with_reducible refine (hSg.out _).mono ?_
  rintro e w' ⟨rfl, hw⟩
  replace hw := hw.symm
  subst hw
  go_wp2_with fail
  with_reducible refine (c2.out _ hb2).mono ?_
  rintro e w3 ⟨rfl, hb'⟩
  have hb3 := hb2.trans (hb'.mono hb2.size)
  clear hb' hb2
  go_wp2_with fail
  with_reducible refine (hI.out _).mono ?_
  rintro e w' ⟨rfl, hw⟩
  replace hw := hw.symm
  subst hw
  go_wp2_with fail
  with_reducible refine (c3.out _ hb3).mono ?_
  rintro e w4 ⟨rfl, hb'⟩
  have hb4 := hb3.trans (hb'.mono hb3.size)
  clear hb' hb3
  go_wp2_with fail
  with_reducible refine (hS.out _).mono ?_
  rintro e w' ⟨rfl, hw⟩
  replace hw := hw.symm
  subst hw
  go_wp2_with fail
  with_reducible refine (hA.out _ hb4).mono ?_
  rintro e w5 ⟨rfl, hb'⟩
  have hb5 := hb4.trans (hb'.mono hb4.size)
  clear hb' hb4
  go_wp2_with fail
  go_ret
  exact ⟨rfl, hb5⟩
set_option maxRecDepth 100000 in
theorem back_gt {f y z : Nat} {ok : Bool} {s : List UInt8} {w : World} (hR : Rdt w) (hT : Tabs w) (hn : nanB f = false)
    (ht : Calls Tryz.prog 18 #[.float .f64 f] w fun x w' => x = .returned (.string (S (wide s))) ∧ Below w.heap.size w w')
    (hC : BackC s y z ok w) (oy : FloatKind.f64.format.order f y = some .eq) (o0 : FloatKind.f64.format.order f 0 = some .gt) (oz : FloatKind.f64.format.order z f = some .eq) (hok : ok = true) (hinf : ∀ W, Calls Tryz.prog 23 #[.float .f64 f, .int .i64 0] W fun e w' => e = .returned (.bool false) ∧ w' = W) :
    Calls Tryz.prog 5 #[.float .f64 f] w fun e w' => e = .returned (.bool true) ∧ Below w.heap.size w w' := by
  obtain ⟨c1, c2, c3⟩ := hC
  have h1 := Far.mk ht
  replace c1 := Far.mk c1
  replace c2 := Far.mk c2
  replace c3 := Far.mk c3
  have hN : Far (∀ W, Calls Tryz.prog 20 #[.float .f64 f] W fun e w' => e = .returned (.bool false) ∧ w' = W) := ⟨fun W => isNaN_of hn W⟩
  have hI := Far.mk hinf
  have hS := Far.mk (law_same y)
  have hSg := Far.mk math_Signbit0
  have hA := Far.mk (fun W (hb : Below w.heap.size w W) => nt_awake (hR.keep hb).rds (hT.keep hb))
  subst hok
  clear hR hT ht hn hinf
  generalize S (wide s) = s0 at *
  go_enter Tryz.func5, Tryz.ntmps5
  go_wp2_with fail
  with_reducible refine h1.out.mono ?_
  rintro e w1 ⟨rfl, hb1⟩
  go_wp2_with fail
  with_reducible refine (c1.out _ hb1).mono ?_
  rintro e w2 ⟨rfl, hb'⟩
  have hb2 := hb1.trans (hb'.mono hb1.size)
  clear hb' hb1
  go_wp2_with fail
  with_reducible refine (hN.out _).mono ?_
  rintro e w' ⟨rfl, hw⟩
  replace hw := hw.symm
  subst hw
  go_wp2_with fail
  with_reducible refine (c2.out _ hb2).mono ?_
  rintro e w3 ⟨rfl, hb'⟩
  have hb3 := hb2.trans (hb'.mono hb2.size)
  clear hb' hb2
  go_wp2_with fail
  with_reducible refine (hI.out _).mono ?_
  rintro e w' ⟨rfl, hw⟩
  replace hw := hw.symm
  subst hw
  go_wp2_with fail
  with_reducible refine (c3.out _ hb3).mono ?_
  rintro e w4 ⟨rfl, hb'⟩
  have hb4 := hb3.trans (hb'.mono hb3.size)
  clear hb' hb3
  go_wp2_with fail
  with_reducible refine (hS.out _).mono ?_
  rintro e w' ⟨rfl, hw⟩
  replace hw := hw.symm
  subst hw
  go_wp2_with fail
  with_reducible refine (hA.out _ hb4).mono ?_
  rintro e w5 ⟨rfl, hb'⟩
  have hb5 := hb4.trans (hb'.mono hb4.size)
  clear hb' hb4
  go_wp2_with fail
  go_ret
  exact ⟨rfl, hb5⟩
set_option maxRecDepth 100000 in
theorem back_inf' {f y z : Nat} {ok : Bool} {s : List UInt8} {w : World} (hR : Rdt w) (hT : Tabs w) (hn : nanB f = false)
    (ht : Calls Tryz.prog 18 #[.float .f64 f] w fun x w' => x = .returned (.string (S (wide s))) ∧ Below w.heap.size w w')
    (hC : BackC s y z ok w) (oy : FloatKind.f64.format.order f y = some .eq) (o0 : FloatKind.f64.format.order f 0 = some .gt) (hinf : ∀ W, Calls Tryz.prog 23 #[.float .f64 f, .int .i64 0] W fun e w' => e = .returned (.bool true) ∧ w' = W) :
    Calls Tryz.prog 5 #[.float .f64 f] w fun e w' => e = .returned (.bool true) ∧ Below w.heap.size w w' := by
  obtain ⟨c1, c2, c3⟩ := hC
  have h1 := Far.mk ht
  replace c1 := Far.mk c1
  replace c2 := Far.mk c2
  replace c3 := Far.mk c3
  have hN : Far (∀ W, Calls Tryz.prog 20 #[.float .f64 f] W fun e w' => e = .returned (.bool false) ∧ w' = W) := ⟨fun W => isNaN_of hn W⟩
  have hI := Far.mk hinf
  have hS := Far.mk (law_same y)
  have hSg := Far.mk math_Signbit0
  have hA := Far.mk (fun W (hb : Below w.heap.size w W) => nt_awake (hR.keep hb).rds (hT.keep hb))
  clear hR hT ht hn hinf
  generalize S (wide s) = s0 at *
  go_enter Tryz.func5, Tryz.ntmps5
  go_wp2_with fail
  with_reducible refine h1.out.mono ?_
  rintro e w1 ⟨rfl, hb1⟩
  go_wp2_with fail
  with_reducible refine (c1.out _ hb1).mono ?_
  rintro e w2 ⟨rfl, hb'⟩
  have hb2 := hb1.trans (hb'.mono hb1.size)
  clear hb' hb1
  go_wp2_with fail
  with_reducible refine (hN.out _).mono ?_
  rintro e w' ⟨rfl, hw⟩
  replace hw := hw.symm
  subst hw
  go_wp2_with fail
  with_reducible refine (c2.out _ hb2).mono ?_
  rintro e w3 ⟨rfl, hb'⟩
  have hb3 := hb2.trans (hb'.mono hb2.size)
  clear hb' hb2
  go_wp2_with fail
  with_reducible refine (hI.out _).mono ?_
  rintro e w' ⟨rfl, hw⟩
  replace hw := hw.symm
  subst hw
  go_wp2_with fail
  with_reducible refine (c3.out _ hb3).mono ?_
  rintro e w4 ⟨rfl, hb'⟩
  have hb4 := hb3.trans (hb'.mono hb3.size)
  clear hb' hb3
  go_wp2_with fail
  with_reducible refine (hS.out _).mono ?_
  rintro e w' ⟨rfl, hw⟩
  replace hw := hw.symm
  subst hw
  go_wp2_with fail
  with_reducible refine (hA.out _ hb4).mono ?_
  rintro e w5 ⟨rfl, hb'⟩
  have hb5 := hb4.trans (hb'.mono hb4.size)
  clear hb' hb4
  go_wp2_with fail
  go_ret
  exact ⟨rfl, hb5⟩
set_option maxRecDepth 100000 in
theorem back_lt0 {f y z : Nat} {ok : Bool} {s : List UInt8} {w : World} (hR : Rdt w) (hT : Tabs w) (hn : nanB f = false)
    (ht : Calls Tryz.prog 18 #[.float .f64 f] w fun x w' => x = .returned (.string (S (wide s))) ∧ Below w.heap.size w w')
    (hC : BackC s y z ok w) (oy : FloatKind.f64.format.order f y = some .eq) (o0 : FloatKind.f64.format.order f 0 = some .lt) (hinf : ∀ W, Calls Tryz.prog 23 #[.float .f64 f, .int .i64 0] W fun e w' => e = .returned (.bool false) ∧ w' = W) :
    Calls Tryz.prog 5 #[.float .f64 f] w fun e w' => e = .returned (.bool true) ∧ Below w.heap.size w w' := by
  obtain ⟨c1, c2, c3⟩ := hC
  have h1 := Far.mk ht
  replace c1 := Far.mk c1
  replace c2 := Far.mk c2
  replace c3 := Far.mk c3
  have hN : Far (∀ W, Calls Tryz.prog 20 #[.float .f64 f] W fun e w' => e = .returned (.bool false) ∧ w' = W) := ⟨fun W => isNaN_of hn W⟩
  have hI := Far.mk hinf
  have hS := Far.mk (law_same y)
  have hSg := Far.mk math_Signbit0
  have hA := Far.mk (fun W (hb : Below w.heap.size w W) => nt_awake (hR.keep hb).rds (hT.keep hb))
  clear hR hT ht hn hinf
  generalize S (wide s) = s0 at *
  go_enter Tryz.func5, Tryz.ntmps5
  go_wp2_with fail
  with_reducible refine h1.out.mono ?_
  rintro e w1 ⟨rfl, hb1⟩
  go_wp2_with fail
  with_reducible refine (c1.out _ hb1).mono ?_
  rintro e w2 ⟨rfl, hb'⟩
  have hb2 := hb1.trans (hb'.mono hb1.size)
  clear hb' hb1
  go_wp2_with fail
  with_reducible refine (hN.out _).mono ?_
  rintro e w' ⟨rfl, hw⟩
  replace hw := hw.symm
  subst hw
  go_wp2_with fail
  with_reducible refine (c2.out _ hb2).mono ?_
  rintro e w3 ⟨rfl, hb'⟩
  have hb3 := hb2.trans (hb'.mono hb2.size)
  clear hb' hb2
  go_wp2_with fail
  with_reducible refine (hI.out _).mono ?_
  rintro e w' ⟨rfl, hw⟩
  replace hw := hw.symm
  subst hw
  go_wp2_with fail
  with_reducible refine (c3.out _ hb3).mono ?_
  rintro e w4 ⟨rfl, hb'⟩
  have hb4 := hb3.trans (hb'.mono hb3.size)
  clear hb' hb3
  go_wp2_with fail
  with_reducible refine (hS.out _).mono ?_
  rintro e w' ⟨rfl, hw⟩
  replace hw := hw.symm
  subst hw
  go_wp2_with fail
  with_reducible refine (hA.out _ hb4).mono ?_
  rintro e w5 ⟨rfl, hb'⟩
  have hb5 := hb4.trans (hb'.mono hb4.size)
  clear hb' hb4
  go_wp2_with fail
  go_ret
  exact ⟨rfl, hb5⟩
set_option maxRecDepth 100000 in
theorem back_lt1 {f y z : Nat} {ok : Bool} {s : List UInt8} {w : World} (hR : Rdt w) (hT : Tabs w) (hn : nanB f = false)
    (ht : Calls Tryz.prog 18 #[.float .f64 f] w fun x w' => x = .returned (.string (S (wide s))) ∧ Below w.heap.size w w')
    (hC : BackC s y z ok w) (oy : FloatKind.f64.format.order f y = some .eq) (o0 : FloatKind.f64.format.order f 0 = some .lt) (hinf : ∀ W, Calls Tryz.prog 23 #[.float .f64 f, .int .i64 0] W fun e w' => e = .returned (.bool true) ∧ w' = W) :
    Calls Tryz.prog 5 #[.float .f64 f] w fun e w' => e = .returned (.bool true) ∧ Below w.heap.size w w' := by
  obtain ⟨c1, c2, c3⟩ := hC
  have h1 := Far.mk ht
  replace c1 := Far.mk c1
  replace c2 := Far.mk c2
  replace c3 := Far.mk c3
  have hN : Far (∀ W, Calls Tryz.prog 20 #[.float .f64 f] W fun e w' => e = .returned (.bool false) ∧ w' = W) := ⟨fun W => isNaN_of hn W⟩
  have hI := Far.mk hinf
  have hS := Far.mk (law_same y)
  have hSg := Far.mk math_Signbit0
  have hA := Far.mk (fun W (hb : Below w.heap.size w W) => nt_awake (hR.keep hb).rds (hT.keep hb))
  clear hR hT ht hn hinf
  generalize S (wide s) = s0 at *
  go_enter Tryz.func5, Tryz.ntmps5
  go_wp2_with fail
  with_reducible refine h1.out.mono ?_
  rintro e w1 ⟨rfl, hb1⟩
  go_wp2_with fail
  with_reducible refine (c1.out _ hb1).mono ?_
  rintro e w2 ⟨rfl, hb'⟩
  have hb2 := hb1.trans (hb'.mono hb1.size)
  clear hb' hb1
  go_wp2_with fail
  with_reducible refine (hN.out _).mono ?_
  rintro e w' ⟨rfl, hw⟩
  replace hw := hw.symm
  subst hw
  go_wp2_with fail
  with_reducible refine (c2.out _ hb2).mono ?_
  rintro e w3 ⟨rfl, hb'⟩
  have hb3 := hb2.trans (hb'.mono hb2.size)
  clear hb' hb2
  go_wp2_with fail
  with_reducible refine (hI.out _).mono ?_
  rintro e w' ⟨rfl, hw⟩
  replace hw := hw.symm
  subst hw
  go_wp2_with fail
  with_reducible refine (c3.out _ hb3).mono ?_
  rintro e w4 ⟨rfl, hb'⟩
  have hb4 := hb3.trans (hb'.mono hb3.size)
  clear hb' hb3
  go_wp2_with fail
  with_reducible refine (hS.out _).mono ?_
  rintro e w' ⟨rfl, hw⟩
  replace hw := hw.symm
  subst hw
  go_wp2_with fail
  with_reducible refine (hA.out _ hb4).mono ?_
  rintro e w5 ⟨rfl, hb'⟩
  have hb5 := hb4.trans (hb'.mono hb4.size)
  clear hb' hb4
  go_wp2_with fail
  go_ret
  exact ⟨rfl, hb5⟩
set_option maxRecDepth 100000 in
theorem back_nan {f : Nat} {w : World} (hR : Rdt w) (hT : Tabs w) (hn : nanB f = true)
    (ht : Calls Tryz.prog 18 #[.float .f64 f] w fun x w' => x = .returned (.string (S (wide [78, 97, 78]))) ∧ Below w.heap.size w w') :
    Calls Tryz.prog 5 #[.float .f64 f] w fun e w' => e = .returned (.bool true) ∧ Below w.heap.size w w' := by
  have h1 := Far.mk ht
  have c1 : Far (∀ W, Below w.heap.size w W → Calls Tryz.prog 13 #[.string (S (wide [78, 97, 78]))] W fun x w' => x = .returned (.float .f64 qnan) ∧ Below W.heap.size W w') := ⟨fun W _ => nt_Number_nan W⟩
  have hN : Far (∀ W, Calls Tryz.prog 20 #[.float .f64 f] W fun e w' => e = .returned (.bool true) ∧ w' = W) := ⟨fun W => isNaN_of hn W⟩
  have hN2 : Far (∀ W, Calls Tryz.prog 20 #[.float .f64 qnan] W fun e w' => e = .returned (.bool true) ∧ w' = W) := ⟨fun W => isNaN_of (by decide +kernel) W⟩
  have hA := Far.mk (fun W (hb : Below w.heap.size w W) => nt_awake (hR.keep hb).rds (hT.keep hb))
  clear hR hT ht hn
  generalize S (wide [78, 97, 78]) = s0 at *
  go_enter Tryz.func5, Tryz.ntmps5
  go_wp2_with fail
  with_reducible refine h1.out.mono ?_
  rintro e w1 ⟨rfl, hb1⟩
  go_wp2_with fail
  with_reducible refine (c1.out _ hb1).mono ?_
  rintro e w2 ⟨rfl, hb'⟩
  have hb2 := hb1.trans (hb'.mono hb1.size)
  clear hb' hb1
  go_wp2_with fail
  with_reducible refine (hN.out _).mono ?_
  rintro e w' ⟨rfl, hw⟩
  replace hw := hw.symm
  subst hw
  go_wp2_with fail
  with_reducible refine (hN2.out _).mono ?_
  rintro e w' ⟨rfl, hw⟩
  replace hw := hw.symm
  subst hw
  go_wp2_with fail
  with_reducible refine (hA.out _ hb2).mono ?_
  rintro e w3 ⟨rfl, hb'⟩
  have hb3 := hb2.trans (hb'.mono hb2.size)
  clear hb' hb2
  go_wp2_with fail
  go_ret
  exact ⟨rfl, hb3⟩
theorem law_Back {f : Nat} (hf : f < 18446744073709551616) {w : World} (hR : Rdt w) (hT : Tabs w) : Calls Tryz.prog 5 #[.float .f64 f] w fun e w' => e = .returned (.bool true) ∧ Below w.heap.size w w' := by
  have hTx : ∀ s, TxtW f s → Calls Tryz.prog 18 #[.float .f64 f] w fun x w' => x = .returned (.string (S (wide s))) ∧ Below w.heap.size w w' := fun s hs => (nt_Text_float hf hT).mono fun e w' ⟨s', hs', _, he, hb⟩ => ⟨by rw [he, hs'.one hs], hb⟩
  obtain ⟨z1, z2⟩ := told_zero
  have hII : ∀ r, r ≤ infR → f % 9223372036854775808 = r → ∀ W, Calls Tryz.prog 23 #[.float .f64 f, .int .i64 0] W fun e w' => e = .returned (.bool (decide (r = infR))) ∧ w' = W := fun r hr hm W => math_IsInf0 hf (by rw [hm]; exact max_order hr) W
  rcases order_all hf with hn | ⟨hn, g1, g2, ho⟩ | ⟨hn, r, rfl, g2, ho⟩
  · exact back_nan hR hT hn (hTx _ (.inl ⟨hn, rfl⟩))
  · have oy : FloatKind.f64.format.order f f = some .eq := by
      unfold nanB at hn
      simpa using hn
    have hI := hII f g2 (Nat.mod_eq_of_lt g1)
    rcases Nat.eq_zero_or_pos f with h0 | h0
    · subst h0
      exact back_zero hR hT hn (hTx _ (.inr (.inl ⟨hn, by decide, .inl ⟨rfl, rfl⟩⟩))) (back_pos z1 z2 hR hT) oy oy rfl hI
    · rw [if_neg (by omega)] at ho
      rcases Nat.lt_or_eq_of_le g2 with h2 | h2
      · rw [decide_eq_false (by omega)] at hI
        obtain ⟨c, j, hsh⟩ := short_some h0 h2
        obtain ⟨t1, t2⟩ := txt_told h0 h2 hsh
        exact back_gt hR hT hn (hTx _ (.inr (.inl ⟨hn, g1, .inr (.inr ⟨h0, h2, c, j, hsh, rfl⟩)⟩))) (back_pos t1 t2 hR hT) oy ho oy rfl hI
      · rw [decide_eq_true h2] at hI
        subst h2
        exact back_inf' hR hT hn (hTx _ (.inr (.inl ⟨hn, g1, .inr (.inl ⟨rfl, rfl⟩)⟩))) (back_inf w) oy ho hI
  · have oy : FloatKind.f64.format.order (9223372036854775808 + r) (9223372036854775808 + r) = some .eq := by
      unfold nanB at hn
      simpa using hn
    have hI := hII r g2 (by unfold infR at g2; omega)
    have hsub : 9223372036854775808 + r - 9223372036854775808 = r := by omega
    have hTx2 : ∀ t, TxtR r t → TxtW (9223372036854775808 + r) (if 9223372036854775808 + r = 9223372036854775808 then t else 45 :: t) := fun t ht => .inr (.inr ⟨hn, by omega, t, by rw [hsub]; exact ht, rfl⟩)
    rcases Nat.eq_zero_or_pos r with h0 | h0
    · subst h0
      have oz : FloatKind.f64.format.order 0 (9223372036854775808 + 0) = some .eq := by decide +kernel
      exact back_zero hR hT hn (hTx _ (by have := hTx2 [48] (.inl ⟨rfl, rfl⟩); rwa [if_pos rfl] at this)) (back_pos z1 z2 hR hT) ho oz rfl hI
    · rw [if_neg (by omega)] at ho
      rcases Nat.lt_or_eq_of_le g2 with h2 | h2
      · rw [decide_eq_false (by omega)] at hI
        obtain ⟨c, j, hsh⟩ := short_some h0 h2
        obtain ⟨t1, t2⟩ := txt_told h0 h2 hsh
        exact back_lt0 hR hT hn (hTx _ (by have := hTx2 _ (.inr (.inr ⟨h0, h2, c, j, hsh, rfl⟩)); rwa [if_neg (by omega)] at this)) (back_neg t1 h2 hR hT) oy ho hI
      · rw [decide_eq_true h2] at hI
        subst h2
        exact back_lt1 hR hT hn (hTx _ (by have := hTx2 _ (.inr (.inl ⟨rfl, rfl⟩)); rwa [if_neg (by decide)] at this)) (back_minf w) oy ho hI
end Us
end Go.Proofs.YtdpbpdhamekcdaaGreatDoor
