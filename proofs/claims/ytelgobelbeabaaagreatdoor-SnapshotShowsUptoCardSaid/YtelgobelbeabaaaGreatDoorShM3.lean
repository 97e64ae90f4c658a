/-
  Plain laws: rounding step by step as the reference does it: whole numbers as floats, the last place cut off, and a quotient with a last bit for what is left over. No program in sight; no condition. Plain laws: fractions that stand for a rung's number times a ten's power; the first guess at where the point is. No program in sight; no condition. Plain laws: the ranges of what Go's shortFloat reckons with. No program in sight; no condition.
-/
import Derived.Test.YtelgobelbeabaaaGreatDoorShM2
namespace Go.Proofs.YtelgobelbeabaaaGreatDoor
namespace Us

/-- Equal numbers round to the same. -/
theorem nearest_same {a b : Nat} {p q : Int} (hb : 0 < b) (ha : 0 < a) (base : Int) (hp : base ≤ p) (hq : base ≤ q) (h : a * 2 ^ (p - base).toNat = b * 2 ^ (q - base).toNat) : Ieee.double.nearest false a p = Ieee.double.nearest false b q := by
  have e1 := nearest_shift a (p - base).toNat p ha
  have e2 := nearest_shift b (q - base).toNat q hb
  rw [← e1, ← e2, h]
  congr 1
  omega
theorem nearest_zero (p : Int) : Ieee.double.nearest false 0 p = 0 := by unfold Ieee.Format.nearest; rw [if_pos rfl]; rfl
theorem val_zero : val 0 = 0 := by unfold val; rw [if_pos (by decide)]
/-- A whole number's float tells it. -/
theorem val_fl {m : Nat} (h2 : m ≤ 9007199254740992) : val (Ieee.double.nearest false m 0) = m * tiny := by
  rcases Nat.eq_zero_or_pos m with rfl | h1
  · rw [nearest_zero, val_zero, Nat.zero_mul]
  · have hL := log_le h1 h2
    have hw := wOf_bounds h1 h2
    obtain ⟨t, ht⟩ : ∃ t : Nat, t = 1074 := ⟨_, rfl⟩
    rw [nearest_bits h1 h2 0 (by omega) (by omega), val_at (by omega) (.inr hw.1), tiny_pow ht]
    unfold wOf
    by_cases h : m = 9007199254740992
    · rw [if_pos h]
      subst h
      rw [log_top, show (0 + ((53 : Nat) : Int) + 1022).toNat = 1 + t by omega, Nat.pow_add, ← Nat.mul_assoc]
    · rw [if_neg h, Nat.mul_assoc, ← Nat.pow_add]
      congr 2
      have := log_lt h1 (by omega)
      omega
theorem fl_lt {m : Nat} (h2 : m ≤ 9007199254740992) : Ieee.double.nearest false m 0 < infR := by
  rcases Nat.eq_zero_or_pos m with rfl | h1
  · rw [nearest_zero]
    decide
  · have hL := log_le h1 h2
    have hw := wOf_bounds h1 h2
    rw [nearest_bits h1 h2 0 (by omega) (by omega)]
    unfold infR
    omega
theorem mant_pos {r : Nat} (h : 1 ≤ r) : 0 < mantOf r := by unfold mantOf; split <;> omega
theorem mant_fl {m t : Nat} (ht : t = 1074) (h2 : m ≤ 9007199254740992) : mantOf (Ieee.double.nearest false m 0) * 2 ^ kOf (Ieee.double.nearest false m 0) = m * 2 ^ t := by
  rw [← val_eq, val_fl h2, tiny_pow ht]
theorem mant_fl_pos {m : Nat} (h1 : 0 < m) (h2 : m ≤ 9007199254740992) : 0 < mantOf (Ieee.double.nearest false m 0) := by
  obtain ⟨t, ht⟩ : ∃ t : Nat, t = 1074 := ⟨_, rfl⟩
  have := mant_fl ht h2
  rcases Nat.eq_zero_or_pos (mantOf (Ieee.double.nearest false m 0)) with h | h
  · rw [h, Nat.zero_mul] at this
    have hp := Nat.mul_pos h1 (Nat.two_pow_pos t)
    omega
  · exact h
theorem mant_zero : mantOf 0 = 0 := by unfold mantOf; rw [if_pos (by decide)]
theorem mul_fl {a b : Nat} (ha : a ≤ 9007199254740992) (hb : b ≤ 9007199254740992) : Ieee.double.mul (Ieee.double.nearest false a 0) (Ieee.double.nearest false b 0) = some (Ieee.double.nearest false (a * b) 0) := by
  rw [mul_rung (fl_lt ha) (fl_lt hb)]
  congr 1
  rcases Nat.eq_zero_or_pos a with rfl | h1
  · rw [nearest_zero, mant_zero, Nat.zero_mul, Nat.zero_mul, nearest_zero, nearest_zero]
  · rcases Nat.eq_zero_or_pos b with rfl | h3
    · rw [nearest_zero, mant_zero, Nat.mul_zero, Nat.mul_zero, nearest_zero, nearest_zero]
    · obtain ⟨t, ht⟩ : ∃ t : Nat, t = 1074 := ⟨_, rfl⟩
      have ea := mant_fl ht ha
      have eb := mant_fl ht hb
      have pa := mant_fl_pos h1 ha
      have pb := mant_fl_pos h3 hb
      generalize Ieee.double.nearest false a 0 = x at *
      generalize Ieee.double.nearest false b 0 = y at *
      refine nearest_same (Nat.mul_pos h1 h3) (Nat.mul_pos pa pb) (-2148) (by omega) (by omega) ?_
      rw [show ((kOf x : Int) - 1074 + ((kOf y : Int) - 1074) - -2148).toNat = kOf x + kOf y by omega, show (0 - (-2148) : Int).toNat = t + t by omega, Nat.pow_add, Nat.pow_add 2 t t]
      have e : mantOf x * mantOf y * (2 ^ kOf x * 2 ^ kOf y) = mantOf x * 2 ^ kOf x * (mantOf y * 2 ^ kOf y) := Nat.mul_mul_mul_comm _ _ _ _
      rw [e, ea, eb, Nat.mul_mul_mul_comm]
theorem add_fl {a b : Nat} (ha : a ≤ 9007199254740992) (hb : b ≤ 9007199254740992) : Ieee.double.add (Ieee.double.nearest false a 0) (Ieee.double.nearest false b 0) = some (Ieee.double.nearest false (a + b) 0) := by
  obtain ⟨t, ht⟩ : ∃ t : Nat, t = 1074 := ⟨_, rfl⟩
  have ea := mant_fl ht ha
  have eb := mant_fl ht hb
  unfold Ieee.Format.add
  rw [read_rung (fl_lt ha), read_rung (fl_lt hb)]
  generalize Ieee.double.nearest false a 0 = x at *
  generalize Ieee.double.nearest false b 0 = y at *
  unfold Ieee.Datum.sum
  simp only [signed_eq]
  obtain ⟨base, hbase⟩ : ∃ base, min ((kOf x : Int) - 1074) ((kOf y : Int) - 1074) = base := ⟨_, rfl⟩
  rw [hbase]
  obtain ⟨u, hu⟩ : ∃ u, mantOf x * 2 ^ ((kOf x : Int) - 1074 - base).toNat = u := ⟨_, rfl⟩
  obtain ⟨v, hv⟩ : ∃ v, mantOf y * 2 ^ ((kOf y : Int) - 1074 - base).toNat = v := ⟨_, rfl⟩
  rw [hu, hv]
  have hs : (u + v) * 2 ^ (base + 1074).toNat = (a + b) * 2 ^ t := by
    rw [Nat.add_mul, Nat.add_mul, ← ea, ← eb, ← hu, ← hv, Nat.mul_assoc, Nat.mul_assoc, ← Nat.pow_add, ← Nat.pow_add]
    congr 3
    · omega
    · omega
  have e0 : ((u : Int) + (v : Int)).natAbs = u + v := by omega
  simp only [Option.map_some, e0, Ieee.Format.write]
  congr 1
  by_cases h0 : (u : Int) + (v : Int) = 0
  · have hz : u + v = 0 := by omega
    rw [hz, Nat.zero_mul] at hs
    have hab : a + b = 0 := by
      rcases Nat.eq_zero_or_pos (a + b) with h | h
      · exact h
      · have := Nat.mul_pos h (Nat.two_pow_pos t)
        omega
    rw [if_pos h0, hz, hab, nearest_zero]
    exact nearest_zero _
  · have hz : 0 < u + v := by omega
    have hab : 0 < a + b := by
      rcases Nat.eq_zero_or_pos (a + b) with h | h
      · rw [h, Nat.zero_mul] at hs
        have := Nat.mul_pos hz (Nat.two_pow_pos (base + 1074).toNat)
        omega
      · exact h
    rw [if_neg h0, show (decide ((u : Int) + (v : Int) < 0)) = false from decide_eq_false (by omega)]
    refine nearest_same hab hz (-1074) (by omega) (by omega) ?_
    rw [show (base - -1074).toNat = (base + 1074).toNat by omega, hs, show (0 - -1074 : Int).toNat = t by omega]
/-- The one whole number that rounding to even may give. -/
theorem cut_unique {n drop q : Nat} (c1 : 2 * n ≤ 2 * (q * 2 ^ drop) + 2 ^ drop) (c2 : 2 * (q * 2 ^ drop) ≤ 2 * n + 2 ^ drop) (c3 : 2 * n = 2 * (q * 2 ^ drop) + 2 ^ drop ∨ 2 * (q * 2 ^ drop) = 2 * n + 2 ^ drop → q % 2 = 0) : Ieee.Toward.even.cut false n drop = q := by
  obtain ⟨q', hq', d1, d2, d3⟩ := cut_even n drop
  rw [hq']
  have hG := Nat.two_pow_pos drop
  generalize 2 ^ drop = G at *
  rcases Nat.lt_trichotomy q q' with g | g | g
  · exfalso
    rcases Nat.lt_or_ge (q + 1) q' with g2 | g2
    · have := Nat.mul_le_mul_right G (show q + 2 ≤ q' by omega)
      rw [Nat.add_mul] at this
      omega
    · have e : q' = q + 1 := by omega
      subst e
      rw [Nat.add_mul, Nat.one_mul] at *
      omega
  · exact g.symm
  · exfalso
    rcases Nat.lt_or_ge (q' + 1) q with g2 | g2
    · have := Nat.mul_le_mul_right G (show q' + 2 ≤ q by omega)
      rw [Nat.add_mul] at this
      omega
    · have e : q = q' + 1 := by omega
      subst e
      rw [Nat.add_mul, Nat.one_mul] at *
      omega
/-- The cut by halves: the bit below, and whether there is more below that. -/
theorem cut_shr {N c : Nat} (hc : 1 ≤ c) : Ieee.Toward.even.cut false N c = N / 2 ^ c + (if N / 2 ^ (c - 1) % 2 = 1 ∧ (N % 2 ^ (c - 1) ≠ 0 ∨ N / 2 ^ c % 2 = 1) then 1 else 0) := by
  have hH := Nat.two_pow_pos (c - 1)
  have e2 : 2 ^ c = 2 ^ (c - 1) * 2 := by rw [← Nat.pow_succ, show (c - 1).succ = c by omega]
  have ed : N / 2 ^ c = N / 2 ^ (c - 1) / 2 := by rw [e2, Nat.div_div_eq_div_mul]
  have dm := Nat.div_add_mod N (2 ^ (c - 1))
  have ml := Nat.mod_lt N hH
  apply cut_unique
  all_goals
    rw [ed, e2]
    generalize 2 ^ (c - 1) = H at *
    generalize N / H = h at *
    generalize N % H = m at *
    rcases Nat.mod_two_eq_zero_or_one h with g | g
    · obtain ⟨t, ht⟩ : ∃ t, h = 2 * t := ⟨h / 2, by omega⟩
      have ht2 : h / 2 = t := by omega
      rw [ht2, if_neg (by omega), Nat.add_zero]
      subst ht
      have hx : t * (H * 2) = H * (2 * t) := by rw [Nat.mul_comm t, Nat.mul_assoc]
      rw [hx]
      omega
    · obtain ⟨t, ht⟩ : ∃ t, h = 2 * t + 1 := ⟨h / 2, by omega⟩
      have ht2 : h / 2 = t := by omega
      rw [ht2]
      subst ht
      have hx : t * (H * 2) = H * (2 * t) := by rw [Nat.mul_comm t, Nat.mul_assoc]
      rw [Nat.mul_add, Nat.mul_one] at dm
      by_cases hm : m ≠ 0 ∨ t % 2 = 1
      · rw [if_pos ⟨by omega, hm⟩, Nat.add_mul, Nat.one_mul, hx]
        omega
      · rw [if_neg (fun h => hm h.2), Nat.add_zero, hx]
        omega
section
variable {N : Nat} {e last : Int} (hN : 0 < N) (hl : last = max (e + N.log2 - 52) (-1074)) (hc : e ≤ last)
include hN hl hc
theorem even_facts {q : Nat} (hq : Ieee.Toward.even.cut false N (last - e).toNat = q) : q ≤ 9007199254740992 ∧ ((last + 1074).toNat = 0 ∨ 4503599627370496 ≤ q) ∧ Ieee.double.nearest false N e = min ((last + 1074).toNat * 4503599627370496 + q) infR := by
  have hlog1 : 2 ^ N.log2 ≤ N := Nat.log2_self_le (by omega)
  have hlog2 : N < 2 ^ (N.log2 + 1) := Nat.lt_log2_self
  have hne := nearest_eq N e hN last hl
  rw [show (e - last).toNat = 0 by omega, Nat.pow_zero, Nat.mul_one, hq] at hne
  obtain ⟨dr, hdr⟩ : ∃ dr, (last - e).toNat = dr := ⟨_, rfl⟩
  obtain ⟨q', hq', c1, c2, c3⟩ := cut_even N (last - e).toNat
  rw [hq] at hq'
  subst hq'
  rw [hdr] at c1 c2 c3
  have hM : N < 9007199254740992 * 2 ^ dr := by
    refine Nat.lt_of_lt_of_le hlog2 ?_
    rw [show (9007199254740992 : Nat) = 2 ^ 53 by decide, ← Nat.pow_add]
    exact Nat.pow_le_pow_right (by decide) (by omega)
  refine ⟨?_, ?_, hne⟩
  · rcases Nat.lt_or_ge 9007199254740992 q with h | h
    · have := Nat.mul_le_mul_right (2 ^ dr) (show 9007199254740992 + 1 ≤ q from h)
      rw [Nat.add_mul, Nat.one_mul] at this
      omega
    · exact h
  · rcases Nat.eq_zero_or_pos (last + 1074).toNat with h | h
    · exact .inl h
    · right
      have hb : 4503599627370496 * 2 ^ dr ≤ N := by
        refine Nat.le_trans ?_ hlog1
        rw [show (4503599627370496 : Nat) = 2 ^ 52 by decide, ← Nat.pow_add]
        exact Nat.pow_le_pow_right (by decide) (by omega)
      rcases Nat.lt_or_ge q 4503599627370496 with h2 | h2
      · have := Nat.mul_le_mul_right (2 ^ dr) (show q + 1 ≤ 4503599627370496 from h2)
        rw [Nat.add_mul, Nat.one_mul] at this
        omega
      · exact h2
/-- What the cut leaves is a float times a two's power: the same one. -/
theorem near_even {q : Nat} (hq : Ieee.Toward.even.cut false N (last - e).toNat = q) : Ieee.double.nearest false q last = Ieee.double.nearest false N e := by
  obtain ⟨hq53, hk, hne⟩ := even_facts hN hl hc hq
  rw [hne]
  have hl2 : -1074 ≤ last := by omega
  obtain ⟨k, hk1⟩ : ∃ k : Nat, (last + 1074).toNat = k := ⟨_, rfl⟩
  rw [hk1] at hk ⊢
  have hv := val_at hq53 hk
  rcases Nat.eq_zero_or_pos q with h0 | h0
  · subst h0
    have : k = 0 := by omega
    subst this
    rw [nearest_zero]
    simp
  · rcases Nat.lt_or_ge infR (k * 4503599627370496 + q) with g | g
    · rw [Nat.min_eq_right (Nat.le_of_lt g)]
      refine nearest_inf h0 last ?_
      unfold infR at g
      rcases Nat.lt_or_ge q 9007199254740992 with g2 | g2
      · have hq52 : 4503599627370496 ≤ q := by omega
        have := log2_eq (n := q) (k := 52) (by rw [show (2 : Nat) ^ 52 = 4503599627370496 by decide]; exact hq52) (by rw [show (2 : Nat) ^ (52 + 1) = 9007199254740992 by decide]; exact g2)
        omega
      · have : q = 9007199254740992 := by omega
        subst this
        rw [log_top]
        omega
    · rw [Nat.min_eq_left g]
      refine nearest_self h0 g (by omega) ?_
      rw [hv, show (-(last + 1074)).toNat = 0 by omega, hk1, Nat.pow_zero, Nat.mul_one]
end
/-- Far below the least unit there is nothing. -/
theorem near_nought {N : Nat} {e : Int} (hN : 0 < N) (h : (N.log2 : Int) + 1 + 1 < -1074 - e) : Ieee.double.nearest false N e = 0 := by
  have hlog2 : N < 2 ^ (N.log2 + 1) := Nat.lt_log2_self
  have hle : 2 ^ (N.log2 + 2) ≤ 2 ^ (-1074 - e).toNat := Nat.pow_le_pow_right (by decide) (by omega)
  rw [Nat.pow_succ] at hle
  have hq : Ieee.Toward.even.cut false N (-1074 - e).toNat = 0 := by
    apply cut_unique
    · rw [Nat.zero_mul]; omega
    · rw [Nat.zero_mul]; omega
    · rw [Nat.zero_mul]; omega
  have := (even_facts (last := -1074) hN (by omega) (by omega) hq).2.2
  rw [this]
  decide
/-- A number rounds to no lower rung than what is no greater than it. -/
theorem Rnd.ge {f g N Q : Nat} (hg : g ≤ infR) (hQ : 0 < Q) (h : Rnd f N Q) (hv : val g * Q ≤ N) : g ≤ f := by
  rcases Nat.lt_or_ge f g with hlt | hge
  · exfalso
    have hf : f < infR := Nat.lt_of_lt_of_le hlt hg
    have h1 := lt_high f
    have h3 : high2 f < 2 * val g := by
      have a := val_lt_succ f
      have b := val_mono (show f + 1 ≤ g from hlt)
      unfold high2
      omega
    have h4 := Nat.mul_lt_mul_of_pos_right h3 hQ
    rw [Nat.mul_assoc] at h4
    have h5 := h.2
    split at h5
    · have := h5.2 hf
      omega
    · omega
  · exact hge
theorem val_dvd {r k : Nat} (h : k ≤ kOf r) : 2 ^ k ∣ val r := by
  rw [val_eq]
  exact Nat.dvd_mul_left_of_dvd (Nat.pow_dvd_pow 2 h) _
/-- The edges of a rung lie on multiples of a unit far below it. -/
theorem edges_dvd {f k : Nat} (h : (k + 2) * 4503599627370496 ≤ f) : 2 ^ k ∣ low2 f ∧ 2 ^ k ∣ high2 f := by
  unfold low2 high2
  have a := val_dvd (r := f) (k := k) (by unfold kOf; omega)
  have b := val_dvd (r := f - 1) (k := k) (by unfold kOf; omega)
  have c := val_dvd (r := f + 1) (k := k) (by unfold kOf; omega)
  exact ⟨Nat.dvd_add b a, Nat.dvd_add a c⟩
/-- A quotient of many digits with a last bit for what is left over rounds as the fraction does. -/
theorem sticky_rnd {f a den up Qt R q' s t : Nat} (hden : 0 < den) (hdiv : a * 2 ^ up = Qt * den + R) (hR : R < den) (hq' : q' = 2 * Qt + (if R = 0 then 0 else 1)) (h69 : 590295810358705651712 ≤ Qt) (hup : up ≤ 2000) (hst : s + up = 1073 + t)
    (h : Rnd f (q' * 2 ^ s) (2 ^ t)) : Rnd f (a * tiny) den := by
  -- in one form
  obtain ⟨z, hz⟩ : ∃ z : Nat, z = 1073 := ⟨_, rfl⟩
  have hB : Rnd f (q' * 2 ^ z) (2 ^ up) := Rnd.congr (Nat.two_pow_pos _) (Nat.two_pow_pos _) (by
    rw [Nat.mul_assoc, Nat.mul_assoc, ← Nat.pow_add, ← Nat.pow_add, show s + up = z + t by omega]) h
  have hT : 2 ^ z * 2 = tiny := by rw [tiny_pow (t := z + 1) (by omega), ← Nat.pow_succ]
  -- the edges are whole there
  have hdv : ∃ bl bh, low2 f * 2 ^ up = bl * (2 * tiny) ∧ high2 f * 2 ^ up = bh * (2 * tiny) := by
    have key : 2 * tiny ∣ low2 f * 2 ^ up ∧ 2 * tiny ∣ high2 f * 2 ^ up := by
      have e2 : 2 * tiny = 2 ^ (z + 2) := by rw [tiny_pow (t := z + 1) (by omega), ← Nat.pow_succ']
      rw [e2]
      rcases Nat.lt_or_ge up (z + 2) with g | g
      · have hge : (1091 - up) * 4503599627370496 + 4503599627370496 ≤ f := by
          refine Rnd.ge ?_ (Nat.two_pow_pos up) hB ?_
          · unfold infR
            have : 1091 - up ≤ 1091 := by omega
            omega
          · rw [val_at (by omega) (.inr (by omega))]
            have hq2 : 590295810358705651712 * 2 ≤ q' := by omega
            refine Nat.le_trans (Nat.le_of_eq ?_) (Nat.mul_le_mul_right _ hq2)
            rw [show (590295810358705651712 * 2 : Nat) = 2 ^ 70 by decide, show (4503599627370496 : Nat) = 2 ^ 52 by decide, ← Nat.pow_add, ← Nat.pow_add, ← Nat.pow_add]
            congr 1
            omega
        have hd := edges_dvd (f := f) (k := z + 2 - up) (by omega)
        have hp : 2 ^ (z + 2) = 2 ^ (z + 2 - up) * 2 ^ up := by rw [← Nat.pow_add]; congr 1; omega
        rw [hp]
        exact ⟨Nat.mul_dvd_mul_right hd.1 _, Nat.mul_dvd_mul_right hd.2 _⟩
      · have : 2 ^ (z + 2) ∣ 2 ^ up := Nat.pow_dvd_pow 2 g
        exact ⟨Nat.dvd_mul_left_of_dvd this _, Nat.dvd_mul_left_of_dvd this _⟩
    obtain ⟨⟨bl, h1⟩, ⟨bh, h2⟩⟩ := key
    exact ⟨bl, bh, by rw [h1, Nat.mul_comm], by rw [h2, Nat.mul_comm]⟩
  obtain ⟨bl, bh, hbl, hbh⟩ := hdv
  have hTp := tiny_pos
  have e1 : 2 * (q' * 2 ^ z) = q' * tiny := by rw [← hT, Nat.mul_left_comm, Nat.mul_comm 2]
  -- the fraction
  have goal2 : Rnd f (a * 2 ^ up * tiny) (den * 2 ^ up) := by
    rw [hdiv]
    refine ⟨hB.1, ?_⟩
    have hb2 := hB.2
    rw [e1, hbl, hbh] at hb2
    have eL : low2 f * (den * 2 ^ up) = bl * den * (2 * tiny) := by rw [Nat.mul_comm den, ← Nat.mul_assoc, hbl, Nat.mul_right_comm]
    have eH : high2 f * (den * 2 ^ up) = bh * den * (2 * tiny) := by rw [Nat.mul_comm den, ← Nat.mul_assoc, hbh, Nat.mul_right_comm]
    have e3 : 2 * ((Qt * den + R) * tiny) = (Qt * den + R) * (2 * tiny) := Nat.mul_left_comm _ _ _
    have e4 : ∀ b, b * (2 * tiny) = (2 * b) * tiny := fun b => by rw [Nat.mul_comm 2 b, Nat.mul_assoc]
    rw [eL, eH, e3]
    rw [e4, e4] at hb2
    have h2t : 0 < 2 * tiny := by omega
    have mono : ∀ x y, x ≤ y → x * den ≤ y * den := fun x y h => Nat.mul_le_mul_right den h
    split at hb2 <;> rename_i hp
    · rw [if_pos hp]
      refine ⟨?_, fun hi => ?_⟩
      · have g := Nat.le_of_mul_le_mul_right hb2.1 hTp
        refine Nat.mul_le_mul_right _ ?_
        have := mono bl Qt (by split at hq' <;> omega)
        omega
      · have g := Nat.le_of_mul_le_mul_right (hb2.2 hi) hTp
        refine Nat.mul_le_mul_right _ ?_
        split at hq'
        · have := mono Qt bh (by omega)
          omega
        · have := mono (Qt + 1) bh (by omega)
          rw [Nat.add_mul, Nat.one_mul] at this
          omega
    · rw [if_neg hp]
      refine ⟨?_, ?_⟩
      · have g := Nat.lt_of_mul_lt_mul_right hb2.1
        refine Nat.mul_lt_mul_of_pos_right ?_ h2t
        split at hq'
        · have := mono (bl + 1) Qt (by omega)
          rw [Nat.add_mul, Nat.one_mul] at this
          omega
        · have := mono bl Qt (by omega)
          omega
      · have g := Nat.lt_of_mul_lt_mul_right hb2.2
        refine Nat.mul_lt_mul_of_pos_right ?_ h2t
        have := mono (Qt + 1) bh (by split at hq' <;> omega)
        rw [Nat.add_mul, Nat.one_mul] at this
        omega
  exact Rnd.congr (Nat.mul_pos hden (Nat.two_pow_pos _)) hden (by
    rw [Nat.mul_right_comm a, Nat.mul_right_comm (a * tiny), Nat.mul_assoc (a * tiny)]) goal2
end Us
end Go.Proofs.YtelgobelbeabaaaGreatDoor
namespace Go.Proofs.YtelgobelbeabaaaGreatDoor
namespace Us

/-- P / D is a rung's number times 10 to the -j. -/
structure Frac (r P D : Nat) (j : Int) : Prop where
  pos : 0 < D
  eq : P * (tiny * hiP j) = D * (val r * loQ j)
theorem Frac.le {r P D : Nat} {j : Int} (h : Frac r P D j) (q : Nat) : Le r q j ↔ q * D ≤ P := by
  have hT : 0 < tiny * hiP j := Nat.mul_pos tiny_pos (hiP_pos j)
  have e1 : dv q j * D = 2 * (q * D * (tiny * hiP j)) := by
    unfold dv
    rw [Nat.mul_assoc, Nat.mul_assoc q, Nat.mul_right_comm q, Nat.mul_comm (hiP j)]
  have e2 : 2 * val r * loQ j * D = 2 * (P * (tiny * hiP j)) := by rw [h.eq, Nat.mul_comm D, ← Nat.mul_assoc, ← Nat.mul_assoc]
  unfold Le
  constructor
  · intro g
    have := Nat.mul_le_mul_right D g
    rw [e1, e2] at this
    exact Nat.le_of_mul_le_mul_right (Nat.le_of_mul_le_mul_left this (by decide)) hT
  · intro g
    refine Nat.le_of_mul_le_mul_right ?_ h.pos
    rw [e1, e2]
    exact Nat.mul_le_mul_left 2 (Nat.mul_le_mul_right _ g)
/-- The quotient and the rest: what they say of the halves. -/
theorem Frac.half {r P D q R : Nat} {j : Int} (h : Frac r P D j) (hP : P = q * D + R) :
    (2 * R < D ↔ 2 * (2 * val r * loQ j) < dv q j + dv (q + 1) j) ∧ (2 * R = D ↔ 2 * (2 * val r * loQ j) = dv q j + dv (q + 1) j) := by
  obtain ⟨T, hTe⟩ : ∃ T, tiny * hiP j = T := ⟨_, rfl⟩
  have hT : 0 < T := by rw [← hTe]; exact Nat.mul_pos tiny_pos (hiP_pos j)
  have e2 : 2 * (2 * val r * loQ j) * D = 4 * (P * T) := by rw [← hTe, h.eq, Nat.mul_assoc 2 (val r), ← Nat.mul_assoc 2 2, Nat.mul_assoc, Nat.mul_comm (val r * loQ j)]
  have e1 : (dv q j + dv (q + 1) j) * D = 4 * (q * D * T) + 2 * (D * T) := by
    rw [dv_succ]
    have a : dv q j = 2 * (q * T) := by unfold dv; rw [← hTe, Nat.mul_assoc q, Nat.mul_comm (hiP j)]
    have b : dv 1 j = 2 * T := by unfold dv; rw [← hTe, Nat.one_mul, Nat.mul_comm (hiP j)]
    have c : q * D * T = q * T * D := Nat.mul_right_comm _ _ _
    have d : 2 * (q * T) * D = 2 * (q * T * D) := Nat.mul_assoc _ _ _
    have d2 : 2 * T * D = 2 * (T * D) := Nat.mul_assoc _ _ _
    rw [a, b, Nat.add_mul, Nat.add_mul, c, Nat.mul_comm D T, d, d2]
    generalize q * T * D = x
    generalize T * D = y
    omega
  rw [hP, Nat.add_mul] at e2
  have l1 : 2 * R < D ↔ 2 * (R * T) < D * T := by
    rw [← Nat.mul_assoc]
    exact (Nat.mul_lt_mul_right hT).symm
  have l2 : 2 * R = D ↔ 2 * (R * T) = D * T := by
    rw [← Nat.mul_assoc]
    exact ⟨fun g => by rw [g], fun g => Nat.eq_of_mul_eq_mul_right hT g⟩
  have m1 : 2 * (2 * val r * loQ j) < dv q j + dv (q + 1) j ↔ 2 * (2 * val r * loQ j) * D < (dv q j + dv (q + 1) j) * D := (Nat.mul_lt_mul_right h.pos).symm
  have m2 : 2 * (2 * val r * loQ j) = dv q j + dv (q + 1) j ↔ 2 * (2 * val r * loQ j) * D = (dv q j + dv (q + 1) j) * D := ⟨fun g => by rw [g], fun g => Nat.eq_of_mul_eq_mul_right h.pos g⟩
  rw [l1, l2, m1, m2, e1, e2]
  generalize q * D * T = x
  generalize R * T = y
  generalize D * T = z
  constructor <;> omega
/-- At no ten's power: the point's tests. -/
theorem Frac.point {r P D : Nat} (h : Frac r P D 0) (n : Int) : Le r 1 n ↔ hiP n * D ≤ P * loQ n := by
  have e := h.eq
  have h0 : hiP 0 = 1 := rfl
  have h1 : loQ 0 = 1 := rfl
  rw [h0, h1, Nat.mul_one, Nat.mul_one] at e
  have e1 : dv 1 n * D = 2 * (hiP n * D * tiny) := by
    unfold dv
    rw [Nat.one_mul, Nat.mul_assoc, Nat.mul_right_comm]
  have e2 : 2 * val r * loQ n * D = 2 * (P * loQ n * tiny) := by
    rw [Nat.mul_right_comm P, e, Nat.mul_comm D, Nat.mul_right_comm (val r), ← Nat.mul_assoc, ← Nat.mul_assoc]
  unfold Le
  constructor
  · intro g
    have := Nat.mul_le_mul_right D g
    rw [e1, e2] at this
    exact Nat.le_of_mul_le_mul_right (Nat.le_of_mul_le_mul_left this (by decide)) tiny_pos
  · intro g
    refine Nat.le_of_mul_le_mul_right ?_ h.pos
    rw [e1, e2]
    exact Nat.mul_le_mul_left 2 (Nat.mul_le_mul_right _ g)
/-- The first guess, by the numbers of bits. -/
def guess (d : Int) : Int := (d * 30103).tdiv 100000 - 3
def guessOK (d : Int) : Bool := decide (hiP (guess d - 1) * 2 ^ (1 - d).toNat ≤ 2 ^ (d - 1).toNat * loQ (guess d - 1)) && decide (-400 ≤ guess d) && decide (guess d ≤ 400)
theorem guess_all : (List.range 2500).all (fun i => guessOK ((i : Int) - 1250)) = true := by decide +kernel
theorem guess_ok {d : Int} (h1 : -1250 ≤ d) (h2 : d < 1250) : hiP (guess d - 1) * 2 ^ (1 - d).toNat ≤ 2 ^ (d - 1).toNat * loQ (guess d - 1) ∧ -400 ≤ guess d ∧ guess d ≤ 400 := by
  have := List.all_eq_true.1 guess_all (d + 1250).toNat (List.mem_range.2 (by omega))
  rw [show (((d + 1250).toNat : Nat) : Int) - 1250 = d by omega] at this
  unfold guessOK at this
  simp only [Bool.and_eq_true, decide_eq_true_eq] at this
  exact ⟨this.1.1, this.1.2, this.2⟩
/-- The guess is not too great. -/
theorem guess_low {r P D bP bD : Nat} (h : Frac r P D 0) (hP : 2 ^ (bP - 1) ≤ P) (hb : 1 ≤ bP) (hD : D ≤ 2 ^ bD) (h1 : -1250 ≤ (bP : Int) - bD) (h2 : (bP : Int) - bD < 1250) : Le r 1 (guess ((bP : Int) - bD) - 1) := by
  rw [h.point]
  have g := (guess_ok h1 h2).1
  obtain ⟨x, hx⟩ : ∃ x, hiP (guess ((bP : Int) - bD) - 1) = x := ⟨_, rfl⟩
  obtain ⟨y, hy⟩ : ∃ y, loQ (guess ((bP : Int) - bD) - 1) = y := ⟨_, rfl⟩
  rw [hx, hy] at g ⊢
  -- times a two's power that makes both whole
  obtain ⟨a, ha⟩ : ∃ a, (1 - ((bP : Int) - bD)).toNat = a := ⟨_, rfl⟩
  obtain ⟨b, hb2⟩ : ∃ b, (((bP : Int) - bD) - 1).toNat = b := ⟨_, rfl⟩
  rw [ha, hb2] at g
  have hab : bD + b = bP - 1 + a := by omega
  refine Nat.le_of_mul_le_mul_right (c := 2 ^ a) ?_ (Nat.two_pow_pos a)
  have s1 : x * D * 2 ^ a ≤ x * 2 ^ a * 2 ^ bD := by
    rw [Nat.mul_right_comm]
    exact Nat.mul_le_mul_left _ hD
  have s2 := Nat.mul_le_mul_right (2 ^ bD) g
  have s3 : 2 ^ b * y * 2 ^ bD = 2 ^ (bP - 1) * y * 2 ^ a := by
    rw [Nat.mul_right_comm, ← Nat.pow_add, Nat.mul_right_comm, ← Nat.pow_add]
    congr 2
    omega
  have s4 : 2 ^ (bP - 1) * y * 2 ^ a ≤ P * y * 2 ^ a := Nat.mul_le_mul_right _ (Nat.mul_le_mul_right _ hP)
  omega
/-- Beyond the greatest float's point there is none. -/
theorem val_inf {t : Nat} (ht : t = 2098) : val infR = 2 ^ t := by
  obtain ⟨k, hk⟩ : ∃ k : Nat, k = 2045 := ⟨_, rfl⟩
  have := val_at (k := k) (q := 9007199254740992) (Nat.le_refl _) (.inr (by decide))
  rw [show k * 4503599627370496 + 9007199254740992 = infR by unfold infR; omega] at this
  rw [this, show (9007199254740992 : Nat) = 2 ^ 53 by decide, ← Nat.pow_add, show 53 + k = t by omega]
theorem inf_small : (2 ^ 233) ^ 9 * 2 < (2 ^ 179) ^ 6 * 10 ^ 155 * 10 ^ 155 := by decide +kernel
theorem not_le_309 {r : Nat} (h : r < infR) {n : Int} (hn : 310 ≤ n) : ¬ Le r 1 n := by
  intro hl
  unfold Le dv loQ at hl
  rw [show (-n).toNat = 0 by omega, Nat.pow_zero, Nat.mul_one, Nat.one_mul] at hl
  have h1 := val_lt h
  obtain ⟨t, ht⟩ : ∃ t : Nat, t = 2098 := ⟨_, rfl⟩
  rw [val_inf ht] at h1
  have h2 : 2 ^ t = (2 ^ 233) ^ 9 * 2 := by
    obtain ⟨a, ha⟩ : ∃ a : Nat, a = 233 := ⟨_, rfl⟩
    rw [← ha, ← Nat.pow_mul, ← Nat.pow_succ, show (a * 9).succ = t by omega]
  rw [h2] at h1
  have h3 : 10 ^ 155 * 10 ^ 155 ≤ hiP n := ten_pows _ _ _ (by omega)
  have h4 := inf_small
  have h5 : tiny * (10 ^ 155 * 10 ^ 155) ≤ tiny * hiP n := Nat.mul_le_mul_left _ h3
  rw [← Nat.mul_assoc] at h5
  have h6 : hiP n * tiny = tiny * hiP n := Nat.mul_comm _ _
  have h7 : tiny = (2 ^ 179) ^ 6 := rfl
  rw [h7] at h5 h6 hl
  generalize (2 ^ 233) ^ 9 * 2 = X at h1 h4
  generalize (2 ^ 179) ^ 6 * 10 ^ 155 * 10 ^ 155 = Y at h4 h5
  rw [h6] at hl
  generalize (2 ^ 179) ^ 6 * hiP n = Z at h5 hl
  clear h6 h7 h3 h2
  omega
end Us
end Go.Proofs.YtelgobelbeabaaaGreatDoor
namespace Go.Proofs.YtelgobelbeabaaaGreatDoor
namespace Us

theorem row_bounds {e p : Int} {z w step Y : Nat} (h : oneOK e p z w step Y = true) : 9223372036854775808 ≤ (rowAt p).1 ∧ (rowAt p).1 < 18446744073709551616 ∧ (rowAt p).2 < 18446744073709551616 := by
  unfold oneOK at h
  split at h
  · rename_i hi lo s h1 h2
    simp only [Bool.and_eq_true, rowOK, force_eq, Nat.blt_eq, Nat.ble_eq] at h
    rw [h1]
    obtain ⟨⟨⟨-, ⟨⟨⟨a, b⟩, c⟩, -⟩, -⟩, -⟩, -⟩ := h
    exact ⟨a, b, c⟩
  · cases h
def sChk (i : Nat) : Bool := force i fun i => decide (3 ≤ sOf ((i : Int) - 1085) (pOf ((i : Int) - 1085))) && decide (3 ≤ sOf ((i : Int) - 1085) (pSk ((i : Int) - 1085)))
theorem s_all : (List.range 2046).all sChk = true := by decide +kernel
theorem s_said {i : Nat} (h : i < 2046) : 3 ≤ sOf ((i : Int) - 1085) (pOf ((i : Int) - 1085)) ∧ 3 ≤ sOf ((i : Int) - 1085) (pSk ((i : Int) - 1085)) := by
  have := List.all_eq_true.1 s_all i (List.mem_range.2 h)
  unfold sChk at this
  rw [force_eq, Bool.and_eq_true, decide_eq_true_eq, decide_eq_true_eq] at this
  exact this
/-- The ranges. -/
structure Rng (r : Nat) (i s : Nat) : Prop where
  hp : goP r = (i : Int) - 348
  hi0 : i < 696
  hs0 : sOf (eOf r) (goP r) = (s : Int)
  s3 : 3 ≤ s
  s64 : s < 64
  hi : 9223372036854775808 ≤ (rowAt (goP r)).1 ∧ (rowAt (goP r)).1 < 18446744073709551616
  lo : (rowAt (goP r)).2 < 18446744073709551616
  mn : 4611686018427387904 ≤ minOf r
  mn2 : minOf r < mOf r
  m63 : 9223372036854775808 ≤ mOf r
  mx : mOf r < maxOf r
  mx2 : maxOf r < 18446744073709551616
theorem go_rng {r : Nat} (h1 : 1 ≤ r) (h2 : r < 9218868437227405312) : ∃ i s, Rng r i s := by
  have fin : ∀ {z w step Y : Nat}, oneOK (eOf r) (goP r) z w step Y = true → 3 ≤ sOf (eOf r) (goP r) → 4611686018427387904 ≤ minOf r → minOf r < mOf r → 9223372036854775808 ≤ mOf r → mOf r < maxOf r → maxOf r < 18446744073709551616 → ∃ i s, Rng r i s := by
    intro z w step Y h hs a b c d e
    obtain ⟨p1, p2, s1, s2, -⟩ := one_said h
    obtain ⟨r1, r2, r3⟩ := row_bounds h
    exact ⟨(goP r + 348).toNat, (sOf (eOf r) (goP r)).toNat, by omega, by omega, by omega, by omega, by omega, ⟨r1, r2⟩, r3, a, b, c, d, e⟩
  by_cases hr : r < 4503599627370496
  · have hm : mantOf r = r := if_pos hr
    have hk : kOf r = 0 := by unfold kOf; omega
    obtain ⟨l, hl1, hl2, hl3⟩ : ∃ l, Nat.log2 r = l ∧ l < 52 ∧ 2 ^ l ≤ r ∧ r < 2 ^ (l + 1) := by
      have a := (Nat.log2_lt (show r ≠ 0 by omega) (k := 52)).2 hr
      exact ⟨_, rfl, a, Nat.log2_self_le (by omega), Nat.lt_log2_self⟩
    obtain ⟨j, hj⟩ : ∃ j, l + j = 52 := ⟨52 - l, by omega⟩
    have hz : zOf r = 11 + j := by unfold zOf; rw [hm, hl1]; omega
    have he : eOf r = -1085 - (j : Int) := by unfold eOf; rw [hz, hk]; omega
    have hsk : skewOf r = false := by
      unfold skewOf
      rw [he, Bool.and_eq_false_iff]
      right
      rw [decide_eq_false_iff_not]
      omega
    have hp : goP r = pOf (-1085) := by
      unfold goP
      rw [if_neg (by rw [hsk]; decide), he, if_neg (by omega)]
    have e2 : 2 ^ (11 + j) = 2 * 2 ^ (10 + j) := by rw [show 11 + j = 10 + j + 1 by omega, Nat.pow_succ']
    have emax : maxOf r = r * (2 * 2 ^ (10 + j)) + 2 ^ (10 + j) := by
      unfold maxOf mOf
      rw [hm, hz, e2, show 11 + j - 1 = 10 + j by omega]
    have emin : minOf r + 2 ^ (10 + j) = r * (2 * 2 ^ (10 + j)) := by
      unfold minOf mOf
      rw [hm, hz, hsk, e2, if_neg (by decide), show 11 + j - 1 = 10 + j by omega]
      have := Nat.mul_le_mul_right (2 * 2 ^ (10 + j)) h1
      omega
    have em : mOf r = r * (2 * 2 ^ (10 + j)) := by unfold mOf; rw [hm, hz, e2]
    have hZ : 2 ≤ 2 ^ (10 + j) := by
      rw [Nat.pow_add]
      exact Nat.le_trans (by decide) (Nat.le_mul_of_pos_right _ (Nat.two_pow_pos j))
    have hlow : 9223372036854775808 ≤ r * (2 * 2 ^ (10 + j)) := by
      have a := Nat.mul_le_mul_right (2 * 2 ^ (10 + j)) hl3.1
      have b : 2 ^ l * (2 * 2 ^ (10 + j)) = 9223372036854775808 := by
        rw [← Nat.pow_succ', ← Nat.pow_add, show l + (10 + j).succ = 63 by omega]
      omega
    have hbound : r * (2 * 2 ^ (10 + j)) + 2 * 2 ^ (10 + j) ≤ 18446744073709551616 := by
      have a := Nat.mul_le_mul_right (2 * 2 ^ (10 + j)) (show r + 1 ≤ 2 ^ (l + 1) from hl3.2)
      have b : 2 ^ (l + 1) * (2 * 2 ^ (10 + j)) = 18446744073709551616 := by
        rw [← Nat.pow_succ', ← Nat.pow_add, show l + 1 + (10 + j).succ = 64 by omega]
      rw [Nat.add_mul, Nat.one_mul] at a
      omega
    have hr2 : 2 ^ (10 + j) ≤ r * 2 ^ (10 + j) := Nat.le_mul_of_pos_left _ h1
    have e3 : r * (2 * 2 ^ (10 + j)) = 2 * (r * 2 ^ (10 + j)) := Nat.mul_left_comm _ _ _
    refine fin (z := 11 + j) (w := 4) (step := 2 ^ (10 + j)) (Y := 2 ^ (54 - j)) ?_ ?_ (by omega) (by omega) (by omega) (by omega) (by omega)
    · rw [he, hp]
      exact sub_parts (by omega)
    · rw [he, hp]
      have := (s_said (i := 0) (by decide)).1
      unfold sOf at this ⊢
      rw [show (((0 : Nat) : Int) - 1085) = -1085 by decide] at this
      omega
  · have hm : mantOf r = 4503599627370496 + r % 4503599627370496 := if_neg hr
    obtain ⟨M, hM⟩ : ∃ M, mantOf r = M := ⟨_, rfl⟩
    have hM1 : 4503599627370496 ≤ M := by omega
    have hM2 : M < 9007199254740992 := by omega
    have hz : zOf r = 11 := by
      unfold zOf
      rw [hM, log2_eq (k := 52) hM1 hM2]
    obtain ⟨k, hk⟩ : ∃ k, kOf r = k := ⟨_, rfl⟩
    have hk2 : k + 1 = r / 4503599627370496 := by unfold kOf at hk; omega
    have he : eOf r = (k : Int) - 1085 := by unfold eOf; rw [hz, hk]; omega
    have em : mOf r = M * (2 * 1024) := by unfold mOf; rw [hM, hz]
    have emax : maxOf r = M * (2 * 1024) + 1024 := by unfold maxOf; rw [em, hz]
    by_cases hsk : skewOf r = true
    · have hp : goP r = pSk ((k : Int) - 1085) := by unfold goP; rw [if_pos hsk, he]
      have emin : minOf r + 512 = M * (4 * 512) := by
        unfold minOf
        rw [em, hz, hsk, if_pos rfl]
        omega
      refine fin (z := 11) (w := 3) (step := 512) (Y := 36028797018963968) ?_ ?_ (by omega) (by omega) (by omega) (by omega) (by omega)
      · rw [he, hp]
        exact (exp_parts (by omega)).2
      · rw [he, hp]
        exact (s_said (by omega)).2
    · have hp : goP r = pOf ((k : Int) - 1085) := by unfold goP; rw [if_neg hsk, he, if_pos (by omega)]
      have emin : minOf r + 1024 = M * (2 * 1024) := by
        unfold minOf
        rw [em, hz, if_neg hsk]
        omega
      refine fin (z := 11) (w := 4) (step := 512) (Y := 36028797018963968) ?_ ?_ (by omega) (by omega) (by omega) (by omega) (by omega)
      · rw [he, hp]
        exact (exp_parts (by omega)).1
      · rw [he, hp]
        exact (s_said (by omega)).1
/-- The range of what the scaling tells. -/
theorem uscale_rng {x hi lo s : Nat} (hx : x < 18446744073709551616) (hx2 : 4611686018427387904 ≤ x) (hh : 9223372036854775808 ≤ hi ∧ hi < 18446744073709551616) (hlo : lo < 18446744073709551616) (hs : 3 ≤ s) : 1 ≤ uscaleN x hi lo s ∧ uscaleN x hi lo s < 2305843009213693952 := by
  have hA : x * hi / 18446744073709551616 < 18446744073709551616 := by
    rw [Nat.div_lt_iff_lt_mul (by decide)]
    exact Nat.mul_lt_mul_of_lt_of_le hx (Nat.le_of_lt hh.2) (by omega)
  have hA1 : 1 ≤ x * hi / 18446744073709551616 := by
    rw [Nat.le_div_iff_mul_le (by decide)]
    have := Nat.mul_le_mul hx2 hh.1
    omega
  have hM := Nat.mod_lt (x * hi) (show 0 < 18446744073709551616 by decide)
  obtain ⟨P, hP⟩ : ∃ P, 2 ^ s = P := ⟨_, rfl⟩
  have hP8 : 8 ≤ P := by rw [← hP]; exact (show 2 ^ 3 ≤ 2 ^ s from Nat.pow_le_pow_right (by decide) hs)
  have hB : x * lo / 18446744073709551616 < x := by
    rw [Nat.div_lt_iff_lt_mul (by decide)]
    exact Nat.mul_lt_mul_of_pos_left hlo (by omega)
  unfold uscaleN
  rw [hP]
  generalize x * hi / 18446744073709551616 = A at *
  generalize x * hi % 18446744073709551616 = M at *
  generalize x * lo / 18446744073709551616 = B at *
  have hdiv : ∀ a, a ≤ A → a / P < 2305843009213693952 := fun a ha => by
    have h : a / P ≤ a / 8 := Nat.div_le_div_left (a := a) hP8 (Nat.succ_pos 7)
    omega
  have hor : ∀ a b, a < 2305843009213693952 → b ≤ 1 → a ||| b < 2305843009213693952 := fun a b ha hb => by
    have : a ||| b < 2 ^ 61 := Nat.or_lt_two_pow (by rw [show (2 : Nat) ^ 61 = 2305843009213693952 by decide]; exact ha) (by rw [show (2 : Nat) ^ 61 = 2305843009213693952 by decide]; omega)
    rw [show (2 : Nat) ^ 61 = 2305843009213693952 by decide] at this
    exact this
  split
  · rename_i hx
    constructor
    · by_cases g : M < B
      · rw [if_pos g]
        by_cases g2 : 1 < (M + 18446744073709551616 - B) % 18446744073709551616
        · rw [if_pos g2]
          exact Nat.right_le_or
        · refine Nat.le_trans ?_ Nat.left_le_or
          exfalso
          have hm : (M + 18446744073709551616 - B) % 18446744073709551616 = M + 18446744073709551616 - B := Nat.mod_eq_of_lt (by omega)
          omega
      · rw [if_neg g, Nat.sub_zero]
        refine Nat.le_trans ?_ Nat.left_le_or
        rcases Nat.eq_zero_or_pos (A / P) with h | h
        · rw [h] at hx
          omega
        · exact h
    · refine hor _ _ (hdiv _ (by omega)) (by split <;> omega)
  · constructor
    · exact Nat.right_le_or
    · exact hor _ _ (hdiv _ (Nat.le_refl _)) (by decide)
end Us
end Go.Proofs.YtelgobelbeabaaaGreatDoor
