/-
  A contract of quillref03.Digits: the shortest decimal of a positive float. Condition: the float is a number above nought. What the text of a float is, by its bits; contracts of quillref03.text, Text and Shortest. Condition: the float is a float of 64 bits.
-/
import Derived.Test.YtelgobelbeabaaaGreatDoorShM8
import Derived.Test.YtelgobelbeabaaaGreatDoorShM6
namespace Go.Proofs.YtelgobelbeabaaaGreatDoor
open Go.RowKit
namespace Us
open Nv

theorem dig_stop {r q : Nat} {n : Int} {k : Nat} (h1 : 1 ≤ r) (hn1 : Le r 1 (n - 1)) (hk : 18 ≤ k) (hq : Le r q (n - k)) (hq' : ¬ Le r (q + 1) (n - k)) : In r (q + 1) (n - k) := by
  have a : Le r (1 * 10 ^ 17) (n - k) := ((le_pow r 1 (n - k) (k - 1)).2 (by rw [show n - (k : Int) + ((k - 1 : Nat) : Int) = n - 1 by omega]; exact hn1)).mono (Nat.mul_le_mul_left 1 (Nat.pow_le_pow_right (by decide) (by omega)))
  rw [Nat.one_mul, show (10 : Nat) ^ 17 = 100000000000000000 by decide] at a
  have hv : val r < 9007199254740992 * ulp r := by
    have hm := mant_lt r
    have e : val r = mantOf r * ulp r := by rw [val_eq]; rfl
    rw [e]
    exact Nat.mul_lt_mul_of_pos_right hm (ulp_pos r)
  have hvQ := Nat.mul_lt_mul_of_pos_right hv (loQ_pos (n - k))
  have hh : high2 r * loQ (n - k) = 2 * val r * loQ (n - k) + ulp r * loQ (n - k) := by rw [high2, val_succ, ← Nat.add_mul]; congr 1; omega
  have hlow := Nat.mul_lt_mul_of_pos_right (low_lt r h1) (loQ_pos (n - k))
  unfold Le at a hq hq'
  have d1 := dv_mul 100000000000000000 (n - k)
  have d2 := dv_succ q (n - k)
  rw [Nat.mul_assoc] at hvQ
  have e2 : 2 * val r * loQ (n - k) = 2 * (val r * loQ (n - k)) := Nat.mul_assoc _ _ _
  have hi : low2 r * loQ (n - k) < dv (q + 1) (n - k) ∧ dv (q + 1) (n - k) < high2 r * loQ (n - k) := by
    rw [hh]
    omega
  unfold In
  split
  · exact ⟨Nat.le_of_lt hi.1, Nat.le_of_lt hi.2⟩
  · exact hi
theorem order_inf {r : Nat} (h : r < infR) : (FloatKind.f64.format.order infR r == some .eq) = false := by
  have : FloatKind.f64.format.order infR r = some .gt := by
    show Ieee.double.order infR r = some .gt
    unfold Ieee.Format.order
    rw [read_inf, read_rung h]
    rfl
  rw [this]
  rfl
/-- Is a decimal's float this one? -/
theorem same_float {r f q : Nat} {j : Int} (hr : r < infR) (hf : Rnd f (q * hiP j * tiny) (loQ j)) : ∃ b : Bool, (FloatKind.f64.format.order f r == some .eq) = b ∧ (b = true ↔ In r q j) := by
  refine ⟨_, rfl, ?_⟩
  rw [in_rnd hr]
  have hQ := loQ_pos j
  rcases Nat.lt_or_ge f infR with g | g
  · have ho : FloatKind.f64.format.order f r = some (compare f r) := order_rung g hr
    rw [ho]
    constructor
    · intro h
      have hc : compare f r = .eq := by simpa using h
      rw [← Nat.compare_eq_eq.1 hc]
      exact hf
    · intro h
      rw [Rnd.one hQ hf h, Nat.compare_eq_eq.2 rfl]
      rfl
  · have : f = infR := Nat.le_antisymm hf.1 g
    subst this
    rw [order_inf hr]
    constructor
    · intro h
      cases h
    · intro h
      have := Rnd.one hQ hf h
      omega
theorem cmpN_eq {a b : Nat} (h : a = b) : cmpN a b = 0 := by unfold cmpN; rw [if_neg (by omega), if_neg (by omega)]
theorem cmpN_gt {a b : Nat} (h : b < a) : cmpN a b = 1 := by unfold cmpN; rw [if_neg (by omega), if_pos h]
theorem digs_10 : digs 10 10 = [49, 48] := by
  rw [digs_snoc (by decide), show 10 / 10 = 1 from rfl, digs_one (by decide)]
  decide
theorem digs_1 : digs 10 1 = [49] := by
  rw [digs_one (by decide)]
  decide
/-- What Digits tells. -/
def DigQ (r : Nat) (w : World) (x : Ending) (w' : World) : Prop := ∃ (c : Nat) (j : Int), x = .returned (.tuple #[.string (S (digs 10 c)), .int .i64 (j + ((digs 10 c).length : Int))]) ∧ Short r c j ∧ -500 ≤ j ∧ j ≤ 500 ∧ (digs 10 c).length ≤ 40 ∧ Below w.heap.size w w'
set_option maxRecDepth 100000 in
set_option maxHeartbeats 4000000 in
theorem ref_Digits {r : Nat} (h1 : 1 ≤ r) (h2 : r < infR) (w : World) : Calls Tryz.prog 70 #[.float .f64 r] w (DigQ r w) := by
  have hP := Far.mk (ref_point h1 h2 w)
  have hS := Far.mk (fun (W : World) (p : Int) (hp : -1000 ≤ p ∧ p ≤ 1000) => ref_scaled h1 h2 hp W)
  have hn309 := fun n hn => not_le_309 h2 (n := n) hn
  go_enter Tryz.func70, Tryz.ntmps70
  go_wp2_with fail
  with_reducible refine hP.out.mono ?_
  rintro x w3 ⟨n, rfl, hpt, hb3⟩
  have hn1 := hpt.1
  have hn2 := hpt.2.1
  have hn3 := hpt.2.2.1
  have hn4 : n ≤ 310 := by
    rcases Int.lt_or_le 310 n with g | g
    · exact (hn309 (n - 1) (by omega) hn1).elim
    · exact g
  replace hn1 := Far.mk hn1
  replace hn2 := Far.mk hn2
  clear hP hpt hn309
  go_wp2_with fail
  go_loopw [5] (fun kk wr => ∃ (k : Nat), kk = .int .i64 k ∧ 1 ≤ k ∧ k ≤ 18 ∧ Far (∀ k' : Nat, 1 ≤ k' → k' < k → ∀ c, ¬ In r c (n - k')) ∧ Far (Below w.heap.size w wr)) (fun kk _ => (18 - intOf kk).toNat)
  case atStart => exact ⟨1, rfl, Nat.le_refl _, by omega, ⟨fun k' a b => by omega⟩, ⟨hb3⟩⟩
  case round =>
    clear hb3
    obtain ⟨k, rfl, hk1, hk2, hno, hb⟩ := hrel
    have hsz := hb.out.size
    go_wp2_with fail
    with_reducible refine (hS.out _ _ (by omega)).mono ?_
    rintro x w4 ⟨P, D, v1, v2, rfl, hF, hu1, hu2, hb4⟩
    obtain ⟨A1, c1, rfl, hR1⟩ := hu1.rd
    obtain ⟨A2, c2, rfl, hR2⟩ := hu2.rd
    obtain ⟨l1, l2⟩ := hF.lens (by omega)
    have hD := hF.frac.pos
    have hfr : Frac r P D (n - k) := by have := hF.frac; rw [show -((k : Int) - n) = n - k by omega] at this; exact this
    have hs4 := hb4.size
    have hbw4 := hb.out.trans (hb4.mono hsz)
    clear hF hu1 hu2 hb hb4
    obtain ⟨q, hq⟩ : ∃ q, P / D = q := ⟨_, rfl⟩
    obtain ⟨R, hR⟩ : ∃ R, P % D = R := ⟨_, rfl⟩
    have hPe : P = q * D + R := by rw [← hq, ← hR, Nat.div_add_mod']
    have hRD : R < D := by rw [← hR]; exact Nat.mod_lt _ hD
    have hqP : q ≤ P := by rw [← hq]; exact Nat.div_le_self _ _
    have hle : Le r q (n - k) := (hfr.le q).2 (by omega)
    have hle' : ¬ Le r (q + 1) (n - k) := fun h => by
      have := (hfr.le (q + 1)).1 h
      rw [Nat.add_mul, Nat.one_mul] at this
      omega
    have hhalf := hfr.half hPe
    have hqd := quo_digits hn1.out hn2.out hk1 hle hle'
    have hq1 : 1 ≤ q := Nat.le_trans (Nat.pow_pos (by decide)) hqd.1
    have hlq := len_mono hqP
    have hlR : (Nv.words R).length ≤ (Nv.words D).length := len_mono (Nat.le_of_lt hRD)
    have hlR2 : (Nv.words (R * 2)).length ≤ 201 := Nat.le_trans (len_mul _ _) (by rw [words_one (n := 2) (by decide) (by decide)]; simp; omega)
    have hlq1 : (Nv.words (q + 1)).length ≤ 401 := by
      refine Nat.le_trans (len_mono (show q + 1 ≤ q * 2 by omega)) (Nat.le_trans (len_mul _ _) (by rw [words_one (n := 2) (by decide) (by decide)]; simp; omega))
    have dq : (digs 10 q).length = k := digs_eq hqd.1 hqd.2 hk1
    have dq1 : (digs 10 (q + 1)).length ≤ k + 1 ∧ k ≤ (digs 10 (q + 1)).length := by
      refine ⟨digs_le (by omega) (by rw [Nat.pow_succ]; omega), ?_⟩
      have := digs_ge (q := q + 1) (k := k - 1) (by omega)
      omega
    clear hfr hqP hPe hRD
    go_wp2_with fail
    with_reducible refine (cHalved hR1 (by omega) hR2 (by omega) hD).mono ?_
    rintro x w5 ⟨v5, v6, rfl, hu5, hu6, hb5⟩
    rw [hq] at hu5
    rw [hR] at hu6
    obtain ⟨A5, c5, rfl, hR5⟩ := hu5.rd
    obtain ⟨A6, c6, rfl, hR6⟩ := hu6.rd
    replace hR2 := hR2.below hb5
    have hs5 := hb5.size
    have hbw5 := hbw4.trans (hb5.mono (by omega))
    clear hbw4 hb5 hu5 hu6 hR1 hq hR
    go_wp2_with fail
    with_reducible refine (cUp (k := 1) (K := 1) rfl hR6 (by omega) (by decide)).mono ?_
    rintro x w7 ⟨v7, rfl, hu7, hb7⟩
    rw [Nat.pow_one] at hu7
    obtain ⟨A7, c7, rfl, hR7⟩ := hu7.rd
    replace hR2 := hR2.below hb7
    replace hR5 := hR5.below hb7
    have hs7 := hb7.size
    have hbw7 := hbw5.trans (hb7.mono (by omega))
    clear hbw5 hb7 hu7 hR6
    go_wp2_with fail
    with_reducible refine (cCmp hR7 (by omega) hR2 (by omega)).mono ?_
    rintro x w8 ⟨rfl, q8, rfl⟩
    have hbw8 := below_drawn (n := q8) hbw7
    have hs8 : (w7.drewN q8).heap.size = w7.heap.size := rfl
    replace hR5 := hR5.below (w' := w7.drewN q8) (below_drawn (Below.refl _ _))
    clear hbw7 hR7 hR2
    generalize w7.drewN q8 = w8 at *
    replace hs8 := Nat.le_of_eq hs8.symm
    go_wp2_with fail
    with_reducible refine (cPlus1 (hR5.below ((Below.refl _ _).alloc (Nat.le_refl _) _)) (by omega) (Rd.one _ _)).mono ?_
    rintro x w9 ⟨v9, rfl, hu9, hb9⟩
    obtain ⟨A9, c9, rfl, hR9⟩ := hu9.rd
    have hbw9 := (hbw8.alloc (by omega) (.cells #[.int .u32 1] 99)).trans (hb9.mono (by simp; omega))
    replace hR5 := (hR5.below ((Below.refl _ _).alloc (Nat.le_refl _) (.cells #[.int .u32 1] 99))).below hb9
    have hs9 : w8.heap.size ≤ w9.heap.size := by have := hb9.size; simp at this; omega
    clear hbw8 hb9 hu9
    go_wp2_with fail
    with_reducible refine (cNumber hR5 (by omega)).mono ?_
    rintro x w10 ⟨rfl, hb10⟩
    replace hR5 := hR5.below hb10
    replace hR9 := hR9.below hb10
    have hs10 := hb10.size
    have hbw10 := hbw9.trans (hb10.mono (by omega))
    clear hbw9 hb10
    go_wp2_with fail
    with_reducible refine (ref_decimal hq1 (by omega) (by omega) _).mono ?_
    rintro x w11 ⟨f1, rfl, hf1, hb11⟩
    replace hR5 := hR5.below hb11
    replace hR9 := hR9.below hb11
    have hs11 := hb11.size
    have hbw11 := hbw10.trans (hb11.mono (by omega))
    clear hbw10 hb11
    obtain ⟨b1, hb1, hi1⟩ := same_float h2 hf1
    clear hf1
    go_wp2_with fail
    with_reducible refine (cNumber hR9 (by omega)).mono ?_
    rintro x w12 ⟨rfl, hb12⟩
    replace hR5 := hR5.below hb12
    replace hR9 := hR9.below hb12
    have hs12 := hb12.size
    have hbw12 := hbw11.trans (hb12.mono (by omega))
    clear hbw11 hb12
    go_wp2_with fail
    with_reducible refine (ref_decimal (by omega) (by omega) (by omega) _).mono ?_
    rintro x w13 ⟨f2, rfl, hf2, hb13⟩
    replace hR5 := hR5.below hb13
    replace hR9 := hR9.below hb13
    have hs13 := hb13.size
    have hbw13 := hbw12.trans (hb13.mono (by omega))
    clear hbw12 hb13
    obtain ⟨b2, hb2, hi2⟩ := same_float h2 hf2
    clear hf2
    have lqp := words_len_zero (n := q)
    obtain ⟨ad5, hA5, x5, hx5, hc5⟩ := hR5.get (j := 0) (by omega)
    subst hA5
    rw [words_get, Nat.pow_zero, Nat.div_one] at hx5
    rw [add_nought] at hc5
    have hand5 : bits .and .u32 x5 1 = ((q % 2 : Nat) : Int) := by rw [hx5, and_one32 (by omega) (by omega)]; omega
    have hN5 := Far.mk (fun (W : World) (h : Below w13.heap.size w13 W) => cNumber (hR5.below h) (by omega))
    have hN9 := Far.mk (fun (W : World) (h : Below w13.heap.size w13 W) => cNumber (hR9.below h) (by omega))
    have hbelow := Below.refl w13.heap.size w13
    obtain ⟨L5, hL5⟩ : ∃ L, (Nv.words q).length = L := ⟨_, rfl⟩
    obtain ⟨L9, hL9⟩ : ∃ L, (Nv.words (q + 1)).length = L := ⟨_, rfl⟩
    rw [hL5] at hN5 lqp ⊢
    rw [hL9] at hN9 ⊢
    have hL5p : 0 < L5 := by omega
    have hL5b : L5 ≤ 1000 := by omega
    have hm2 : R * 2 = 2 * R := Nat.mul_comm _ _
    replace hle := Far.mk hle
    replace hle' := Far.mk hle'
    replace hhalf := Far.mk hhalf
    replace hi1 := Far.mk hi1
    replace hi2 := Far.mk hi2
    replace hqd := Far.mk hqd
    clear hx5 hR5 hR9 lqp hlq hlq1 hlR hlR2 l1 l2 hS h2
    cases b1 <;> cases b2
    · obtain ⟨cc, hcc⟩ : ∃ cc, cmpN (R * 2) D = cc := ⟨_, rfl⟩
      rw [hcc]
      clear hcc
      have hk18 : k < 18 := by
        rcases Nat.lt_or_ge k 18 with g | g
        · exact g
        · have := hi2.out.2 (dig_stop h1 hn1.out g hle.out hle'.out)
          cases this
      have hno' := none_in h1 hle.out hle'.out (fun h => by have := hi1.out.2 h; cases this) (fun h => by have := hi2.out.2 h; cases this)
      replace hno' := Far.mk hno'
      clear hle hle' hhalf hi1 hi2 hqd hN5 hN9
      go_wp2_with fail
      go_roundw
      case rel => exact ⟨k + 1, by go_num, by omega, by omega, ⟨fun k' a b c => by
        rcases Nat.lt_or_ge k' k with g | g
        · exact hno.out k' a g c
        · rw [show k' = k by omega]
          exact hno'.out c⟩, ⟨hbw13⟩⟩
      case measure => simp [intOf] <;> omega
    · obtain ⟨cc, hcc⟩ : ∃ cc, cmpN (R * 2) D = cc := ⟨_, rfl⟩
      rw [hcc]
      clear hcc
      go_wp2_with fail
      with_reducible refine (hN9.out _ hbelow).mono ?_
      rintro x w14 ⟨rfl, hb14⟩
      by_cases hlt : q + 1 < 10 ^ k
      · have hss : (S (digs 10 (q + 1))).size = k := by rw [S_size]; exact digs_eq (Nat.le_trans hqd.out.1 (by omega)) hlt hk1
        have hsl : (digs 10 (q + 1)).length = k := by rw [← S_size]; exact hss
        go_wp2_with fail
        go_ret2
        exact ⟨q + 1, n - k, by rw [hsl, show n - (k : Int) + (k : Int) = n by omega]; rfl, dig_high h1 hn1.out hn2.out hno.out hk1 hle.out hle'.out (hi2.out.1 (by first | rfl | trivial)) (.inl fun h => by have := hi1.out.2 h; cases this) hlt, by omega, by omega, by omega, hbw13.trans (hb14.mono (by omega))⟩
      · obtain ⟨rfl, rfl, hsh⟩ := dig_top h1 hn1.out hn2.out hno.out hk1 hle.out hle'.out (hi2.out.1 (by first | rfl | trivial)) (by omega)
        have hss : (S (digs 10 (9 + 1))).size = 2 := by rw [S_size, show 9 + 1 = 10 from rfl, digs_10]; rfl
        have hse : (S (digs 10 (9 + 1))).extract 0 1 = S (digs 10 1) := by rw [S_extract, show 9 + 1 = 10 from rfl, digs_10, digs_1]; rfl
        go_wp2_with fail
        go_ret2
        exact ⟨1, n, by rw [show (digs 10 1).length = 1 by rw [digs_1]; rfl]; rfl, hsh, by omega, by omega, by rw [digs_1]; decide, hbw13.trans (hb14.mono (by omega))⟩
    · obtain ⟨cc, hcc⟩ : ∃ cc, cmpN (R * 2) D = cc := ⟨_, rfl⟩
      rw [hcc]
      clear hcc
      go_wp2_with fail
      with_reducible refine (hN5.out _ hbelow).mono ?_
      rintro x w14 ⟨rfl, hb14⟩
      go_wp2_with fail
      go_ret2
      exact ⟨q, n - k, by rw [dq, show n - (k : Int) + (k : Int) = n by omega]; rfl, dig_low h1 hn1.out hn2.out hno.out hk1 hle.out hle'.out (hi1.out.1 (by first | rfl | trivial)) (.inl fun h => by have := hi2.out.2 h; cases this), by omega, by omega, by omega, hbw13.trans (hb14.mono (by omega))⟩
    · rcases Nat.lt_trichotomy (R * 2) D with g | g | g
      · rw [cmpN_lt g]
        go_wp2_with fail
        with_reducible refine (hN5.out _ hbelow).mono ?_
        rintro x w14 ⟨rfl, hb14⟩
        go_wp2_with fail
        go_ret2
        exact ⟨q, n - k, by rw [dq, show n - (k : Int) + (k : Int) = n by omega]; rfl, dig_low h1 hn1.out hn2.out hno.out hk1 hle.out hle'.out (hi1.out.1 (by first | rfl | trivial)) (.inr (.inl (hhalf.out.1.1 (by omega)))), by omega, by omega, by omega, hbw13.trans (hb14.mono (by omega))⟩
      · rw [cmpN_eq g]
        rcases Nat.mod_two_eq_zero_or_one q with m5 | m5
        · rw [m5] at hand5
          go_wp2_with fail
          with_reducible refine (hN5.out _ hbelow).mono ?_
          rintro x w14 ⟨rfl, hb14⟩
          go_wp2_with fail
          go_ret2
          exact ⟨q, n - k, by rw [dq, show n - (k : Int) + (k : Int) = n by omega]; rfl, dig_low h1 hn1.out hn2.out hno.out hk1 hle.out hle'.out (hi1.out.1 (by first | rfl | trivial)) (.inr (.inr ⟨hhalf.out.2.1 (by omega), m5⟩)), by omega, by omega, by omega, hbw13.trans (hb14.mono (by omega))⟩
        · rw [m5] at hand5
          go_wp2_with fail
          with_reducible refine (hN9.out _ hbelow).mono ?_
          rintro x w14 ⟨rfl, hb14⟩
          by_cases hlt : q + 1 < 10 ^ k
          · have hss : (S (digs 10 (q + 1))).size = k := by rw [S_size]; exact digs_eq (Nat.le_trans hqd.out.1 (by omega)) hlt hk1
            have hsl : (digs 10 (q + 1)).length = k := by rw [← S_size]; exact hss
            go_wp2_with fail
            go_ret2
            exact ⟨q + 1, n - k, by rw [hsl, show n - (k : Int) + (k : Int) = n by omega]; rfl, dig_high h1 hn1.out hn2.out hno.out hk1 hle.out hle'.out (hi2.out.1 (by first | rfl | trivial)) (.inr (.inr ⟨hhalf.out.2.1 (by omega), m5⟩)) hlt, by omega, by omega, by omega, hbw13.trans (hb14.mono (by omega))⟩
          · obtain ⟨rfl, rfl, hsh⟩ := dig_top h1 hn1.out hn2.out hno.out hk1 hle.out hle'.out (hi2.out.1 (by first | rfl | trivial)) (by omega)
            have hss : (S (digs 10 (9 + 1))).size = 2 := by rw [S_size, show 9 + 1 = 10 from rfl, digs_10]; rfl
            have hse : (S (digs 10 (9 + 1))).extract 0 1 = S (digs 10 1) := by rw [S_extract, show 9 + 1 = 10 from rfl, digs_10, digs_1]; rfl
            go_wp2_with fail
            go_ret2
            exact ⟨1, n, by rw [show (digs 10 1).length = 1 by rw [digs_1]; rfl]; rfl, hsh, by omega, by omega, by rw [digs_1]; decide, hbw13.trans (hb14.mono (by omega))⟩
      · rw [cmpN_gt g]
        have hgt : dv q (n - k) + dv (q + 1) (n - k) < 2 * (2 * val r * loQ (n - k)) := by
          rcases Nat.lt_trichotomy (dv q (n - k) + dv (q + 1) (n - k)) (2 * (2 * val r * loQ (n - k))) with h | h | h
          · exact h
          · have := hhalf.out.2.2 h.symm
            omega
          · have := hhalf.out.1.2 h
            omega
        go_wp2_with fail
        with_reducible refine (hN9.out _ hbelow).mono ?_
        rintro x w14 ⟨rfl, hb14⟩
        by_cases hlt : q + 1 < 10 ^ k
        · have hss : (S (digs 10 (q + 1))).size = k := by rw [S_size]; exact digs_eq (Nat.le_trans hqd.out.1 (by omega)) hlt hk1
          have hsl : (digs 10 (q + 1)).length = k := by rw [← S_size]; exact hss
          go_wp2_with fail
          go_ret2
          exact ⟨q + 1, n - k, by rw [hsl, show n - (k : Int) + (k : Int) = n by omega]; rfl, dig_high h1 hn1.out hn2.out hno.out hk1 hle.out hle'.out (hi2.out.1 (by first | rfl | trivial)) (.inr (.inl hgt)) hlt, by omega, by omega, by omega, hbw13.trans (hb14.mono (by omega))⟩
        · obtain ⟨rfl, rfl, hsh⟩ := dig_top h1 hn1.out hn2.out hno.out hk1 hle.out hle'.out (hi2.out.1 (by first | rfl | trivial)) (by omega)
          have hss : (S (digs 10 (9 + 1))).size = 2 := by rw [S_size, show 9 + 1 = 10 from rfl, digs_10]; rfl
          have hse : (S (digs 10 (9 + 1))).extract 0 1 = S (digs 10 1) := by rw [S_extract, show 9 + 1 = 10 from rfl, digs_10, digs_1]; rfl
          go_wp2_with fail
          go_ret2
          exact ⟨1, n, by rw [show (digs 10 1).length = 1 by rw [digs_1]; rfl]; rfl, hsh, by omega, by omega, by rw [digs_1]; decide, hbw13.trans (hb14.mono (by omega))⟩
end Us
end Go.Proofs.YtelgobelbeabaaaGreatDoor
namespace Go.Proofs.YtelgobelbeabaaaGreatDoor
open Go.RowKit
namespace Us
open Nv

/-- A shortest decimal as it is written. -/
def txt (c : Nat) (j : Int) : List UInt8 :=
  let n := j + ((digs 10 c).length : Int)
  if ((digs 10 c).length : Int) ≤ n ∧ n ≤ 21 then digs 10 c ++ List.replicate (n - ((digs 10 c).length : Int)).toNat 48
  else if 0 < n ∧ n ≤ 21 then (digs 10 c).take n.toNat ++ [46] ++ (digs 10 c).drop n.toNat
  else if -6 < n ∧ n ≤ 0 then [48, 46] ++ List.replicate (-n).toNat 48 ++ digs 10 c
  else expS (digs 10 c) (n - 1)
/-- The text of a float that is not below nought, by its rung. -/
def TxtR (r : Nat) (s : List UInt8) : Prop := (r = 0 ∧ s = [48]) ∨ (r = infR ∧ s = [73, 110, 102, 105, 110, 105, 116, 121]) ∨ (1 ≤ r ∧ r < infR ∧ ∃ c j, Short r c j ∧ s = txt c j)
/-- The text of a float by its bits. -/
def TxtW (f : Nat) (s : List UInt8) : Prop := (nanB f = true ∧ s = [78, 97, 78]) ∨ (nanB f = false ∧ f < 9223372036854775808 ∧ TxtR f s) ∨ (nanB f = false ∧ 9223372036854775808 ≤ f ∧ ∃ t, TxtR (f - 9223372036854775808) t ∧ s = if f = 9223372036854775808 then t else 45 :: t)
theorem TxtR.one {r : Nat} {s t : List UInt8} (hs : TxtR r s) (ht : TxtR r t) : s = t := by
  have hi : (0 : Nat) < infR := by decide
  rcases hs with ⟨rfl, rfl⟩ | ⟨rfl, rfl⟩ | ⟨h1, h2, c, j, h, rfl⟩
  · rcases ht with ⟨-, rfl⟩ | ⟨h, -⟩ | ⟨h, -⟩
    · rfl
    · omega
    · omega
  · rcases ht with ⟨h, -⟩ | ⟨-, rfl⟩ | ⟨-, h, -⟩
    · omega
    · rfl
    · omega
  · rcases ht with ⟨h, -⟩ | ⟨h, -⟩ | ⟨-, -, c', j', h', rfl⟩
    · omega
    · omega
    · obtain ⟨rfl, rfl⟩ := h.one h'
      rfl
theorem TxtW.one {f : Nat} {s t : List UInt8} (hs : TxtW f s) (ht : TxtW f t) : s = t := by
  rcases hs with ⟨hn, rfl⟩ | ⟨hn, h1, h2⟩ | ⟨hn, h1, u, h2, rfl⟩
  · rcases ht with ⟨-, rfl⟩ | ⟨h, -⟩ | ⟨h, -⟩
    · rfl
    · rw [hn] at h; cases h
    · rw [hn] at h; cases h
  · rcases ht with ⟨h, -⟩ | ⟨-, -, h⟩ | ⟨-, h, -⟩
    · rw [hn] at h; cases h
    · exact h2.one h
    · omega
  · rcases ht with ⟨h, -⟩ | ⟨-, h, -⟩ | ⟨-, -, v, h, rfl⟩
    · rw [hn] at h; cases h
    · omega
    · rw [h2.one h]
theorem neg_bits {r : Nat} (h : r < 9223372036854775808) : (9223372036854775808 + r) ^^^ 9223372036854775808 = r := by
  have e : (9223372036854775808 : Nat) = 2 ^ 63 := by decide
  rw [e] at h ⊢
  apply Nat.eq_of_testBit_eq
  intro i
  rw [Nat.testBit_xor, Nat.testBit_two_pow]
  rcases Nat.lt_trichotomy i 63 with g | g | g
  · rw [Nat.testBit_two_pow_add_gt g, show decide (63 = i) = false from decide_eq_false (by omega), Bool.xor_false]
  · subst g
    rw [Nat.testBit_two_pow_add_eq]
    simp
  · have a : (2 ^ 63 + r).testBit i = false := Nat.testBit_lt_two_pow (Nat.lt_of_lt_of_le (show 2 ^ 63 + r < 2 ^ 64 by omega) (Nat.pow_le_pow_right (by decide) g))
    have b : r.testBit i = false := Nat.testBit_lt_two_pow (Nat.lt_of_lt_of_le h (Nat.pow_le_pow_right (by decide) (by omega)))
    rw [a, b, show decide (63 = i) = false from decide_eq_false (by omega)]
    rfl
theorem read_neg {r : Nat} (h : r < infR) : Ieee.double.read (9223372036854775808 + r) = .number true (mantOf r) ((kOf r : Int) - 1074) := by
  have h0 := read_rung h
  unfold Ieee.Format.read at h0 ⊢
  have e4 : Ieee.double.signWeight = 9223372036854775808 := by decide
  have hs : r < 9223372036854775808 := by unfold infR at h; omega
  simp only [e4, show (9223372036854775808 + r) % 9223372036854775808 = r by omega, show (9223372036854775808 + r) / 9223372036854775808 % 2 = 1 by omega, Nat.mod_eq_of_lt hs, Nat.div_eq_of_lt hs] at h0 ⊢
  have e3 : Ieee.double.infRung = infR := by decide
  rw [e3] at h0 ⊢
  split at h0
  · rename_i g
    rw [if_pos g]
    simp only [Ieee.Datum.number.injEq] at h0 ⊢
    exact ⟨rfl, h0.2⟩
  · rename_i g
    rw [if_neg g]
    rw [if_pos h]
    simp only [Ieee.Datum.number.injEq] at h0 ⊢
    exact ⟨rfl, h0.2⟩
theorem read_neg_inf : Ieee.double.read (9223372036854775808 + infR) = .infinity true := by decide +kernel
theorem read_big {f : Nat} (h1 : infR < f % 9223372036854775808) : ∃ s t, Ieee.double.read f = .nan s t := by
  unfold Ieee.Format.read
  have e3 : Ieee.double.infRung = infR := by decide
  have e2 : Ieee.double.binade = 4503599627370496 := by decide
  have e4 : Ieee.double.signWeight = 9223372036854775808 := by decide
  simp only [e2, e3, e4]
  rw [if_neg (by unfold infR at h1; omega), if_neg (by omega), if_neg (by omega)]
  exact ⟨_, _, rfl⟩
theorem nan_big {f : Nat} (h1 : infR < f % 9223372036854775808) : nanB f = true := by
  obtain ⟨s, t, h⟩ := read_big h1
  unfold nanB
  have : FloatKind.f64.format.order f f = none := by
    show Ieee.double.order f f = none
    unfold Ieee.Format.order
    rw [h]
    rfl
  rw [this]
  rfl
/-- How a float below nought stands to nought. -/
theorem order_neg {r : Nat} (h : r ≤ infR) : FloatKind.f64.format.order (9223372036854775808 + r) 0 = some (if r = 0 then .eq else .lt) ∧ nanB (9223372036854775808 + r) = false := by
  rcases Nat.lt_or_ge r infR with g | g
  · have hz := read_rung (r := 0) (by decide)
    have hn := read_neg g
    have m0 : mantOf 0 = 0 := mant_zero
    constructor
    · show Ieee.double.order _ _ = _
      unfold Ieee.Format.order
      rw [hn, hz, m0]
      unfold Ieee.Datum.order Ieee.signed
      simp only [Nat.shiftLeft_eq, Nat.zero_mul]
      rcases Nat.eq_zero_or_pos r with h0 | h0
      · subst h0
        rw [m0]
        simp
      · have hm := mant_pos h0
        rw [if_pos trivial, if_neg (by decide), if_neg (show ¬ r = 0 by omega)]
        congr 1
        rw [Int.compare_eq_lt]
        have := Nat.mul_pos hm (Nat.two_pow_pos ((kOf r : Int) - 1074 - min ((kOf r : Int) - 1074) (((kOf 0 : Nat) : Int) - 1074)).toNat)
        omega
    · unfold nanB
      have : FloatKind.f64.format.order (9223372036854775808 + r) (9223372036854775808 + r) = some .eq := by
        show Ieee.double.order _ _ = _
        unfold Ieee.Format.order
        rw [hn]
        unfold Ieee.Datum.order
        simp only [Std.ReflCmp.compare_self]
      rw [this]
      rfl
  · have : r = infR := Nat.le_antisymm h g
    subst this
    decide +kernel
end Us
end Go.Proofs.YtelgobelbeabaaaGreatDoor
