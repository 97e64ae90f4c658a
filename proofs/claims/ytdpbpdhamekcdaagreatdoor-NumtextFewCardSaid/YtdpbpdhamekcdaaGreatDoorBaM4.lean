/-
  Plain laws for the walk of strconv's reader: how its halved numbers are written, and the ranges of what it reckons with. No program in sight. Plain law: the quotient of two floats is the rounded quotient. No program in sight; no condition but that the numbers are of middle size. Plain laws of strconv's exact way: a whole number's float times, or by, a power of ten is the rounded number. No program in sight; no condition but the ranges. Plain facts of strconv's table: at powers of ten of middle size strconv's product is sharp for every number of 64 bits. No program in sight. Plain laws of reading decimals: noughts behind move to the exponent; numbers too great and too small. No program in sight; no condition but the ranges. Plain law: the shortest decimal has 17 digits at most, and its exponent is of middle size. No program in sight; the float is finite and above nought.
-/
import Derived.Test.YtdpbpdhamekcdaaGreatDoorBaM3
import Derived.Test.YtdpbpdhamekcdaaGreatDoorBaM2
namespace Go.Proofs.YtdpbpdhamekcdaaGreatDoor
namespace Us

theorem half_or (u : Nat) : u / 2 ||| u % 2 = halfU u := by
  unfold halfU
  have h : u % 2 = 0 ∨ u % 2 = 1 := by omega
  rcases h with h | h
  · rw [h, Nat.or_zero, if_neg (by omega), Nat.add_zero]
  · rw [h, or_one]
    split <;> omega
theorem self_or (u : Nat) : u ||| u % 2 = u := by
  have h : u % 2 = 0 ∨ u % 2 = 1 := by omega
  rcases h with h | h
  · rw [h, Nat.or_zero]
  · rw [h, or_one]
    omega
/-- The row's words. -/
theorem par_words {p : Int} (h1 : -345 ≤ p) (h2 : p ≤ 310) : 9223372036854775808 ≤ (rowAt p).1 ∧ (rowAt p).1 < 18446744073709551616 ∧ (rowAt p).2 < 18446744073709551616 := by
  obtain ⟨r1, -⟩ := par_row h1 h2
  simp only [rowOK, force_eq, Bool.and_eq_true, Nat.blt_eq, Nat.ble_eq] at r1
  exact ⟨r1.1.1.1.1, r1.1.1.1.2, r1.1.1.2⟩
theorem par_x {d b : Nat} (hb1 : 1 ≤ b) (hb2 : b ≤ 64) (hd1 : 2 ^ (b - 1) ≤ d) (hd : d < 2 ^ b) : 9223372036854775808 ≤ d * 2 ^ (64 - b) ∧ d * 2 ^ (64 - b) < 18446744073709551616 := by
  have x1 := Nat.mul_le_mul_right (2 ^ (64 - b)) hd1
  rw [← Nat.pow_add, show b - 1 + (64 - b) = 63 by omega] at x1
  have x2 := (Nat.mul_lt_mul_right (Nat.two_pow_pos (64 - b))).2 hd
  rw [← Nat.pow_add, show b + (64 - b) = 64 by omega] at x2
  exact ⟨x1, x2⟩
theorem par_ranges (b : Nat) (p : Int) (hb1 : 1 ≤ b) (hb2 : b ≤ 64) (h1 : -345 ≤ p) (h2 : p ≤ 310) : -1200 ≤ lpOf p ∧ lpOf p ≤ 1200 ∧ -1200 ≤ parE b p ∧ parE b p ≤ 1074 ∧ 8 ≤ parS b p ∧ parS b p ≤ 1000 ∧ sOf (parE b p - (64 - (b : Int))) p = parS b p := by
  have hl : lpOf p = p * 108853 / 32768 := rfl
  have h3 : -1200 ≤ lpOf p ∧ lpOf p ≤ 1200 := by omega
  unfold sOf parS parE
  omega
theorem log2_of {d b : Nat} (hb1 : 1 ≤ b) (hd1 : 2 ^ (b - 1) ≤ d) (hd : d < 2 ^ b) : d.log2 + 1 = b := by
  have h0 : d ≠ 0 := by
    have := Nat.two_pow_pos (b - 1)
    omega
  have a := (Nat.log2_lt h0).2 hd
  have c := (Nat.le_log2 h0).2 hd1
  omega
end Us
end Go.Proofs.YtdpbpdhamekcdaaGreatDoor
namespace Go.Proofs.YtdpbpdhamekcdaaGreatDoor
namespace Us

/-- A quotient of 54 digits with a last bit for what is left over rounds as the fraction does. -/
theorem sticky2 {f D n Qt R q' s t : Nat} (hn : 0 < n) (hdiv : D = Qt * n + R) (hR : R < n) (hq' : q' = 2 * Qt + (if R = 0 then 0 else 1)) (h53 : 9007199254740992 ≤ Qt) (hs : s ≤ 2000)
    (h : Rnd f (q' * 2 ^ s) (2 ^ t)) : Rnd f (2 * D * 2 ^ s) (n * 2 ^ t) := by
  have hs4 : 4 * 2 ^ s = 2 ^ (s + 2) := by rw [Nat.pow_add, Nat.mul_comm]
  have h2s := Nat.two_pow_pos s
  have hqq : 2 * Qt ≤ q' := by omega
  have key : (∃ bh, high2 f * 2 ^ t = bh * (4 * 2 ^ s)) ∧ ((∃ bl, low2 f * 2 ^ t = bl * (4 * 2 ^ s)) ∨ low2 f * 2 ^ t < Qt * (4 * 2 ^ s)) := by
    rw [hs4]
    rcases Nat.lt_or_ge t (s + 2) with g | g
    · obtain ⟨k, hk⟩ : ∃ k, s + 2 = k + t := ⟨s + 2 - t, by omega⟩
      have hp : 2 ^ (s + 2) = 2 ^ k * 2 ^ t := by rw [hk, Nat.pow_add]
      have hv : val ((k + 1) * 4503599627370496) = 4503599627370496 * 2 ^ k := by
        unfold val
        rw [if_neg (by omega), show (k + 1) * 4503599627370496 % 4503599627370496 = 0 by omega, show (k + 1) * 4503599627370496 / 4503599627370496 - 1 = k by omega, Nat.add_zero]
      have hge : (k + 1) * 4503599627370496 ≤ f := by
        refine Rnd.ge (by unfold infR; omega) (Nat.two_pow_pos t) h ?_
        rw [hv, Nat.mul_assoc, ← hp, Nat.pow_add]
        have := Nat.mul_le_mul_right (2 ^ s) (show 18014398509481984 ≤ q' by omega)
        omega
      have a := val_dvd (r := f) (k := k) (by unfold kOf; omega)
      have c := val_dvd (r := f + 1) (k := k) (by unfold kOf; omega)
      rw [hp]
      constructor
      · obtain ⟨x, hx⟩ := Nat.dvd_add a c
        exact ⟨x, by unfold high2; rw [hx]; ac_rfl⟩
      · by_cases g2 : f = (k + 1) * 4503599627370496
        · right
          have hlt : val (f - 1) < val f := by
            have := val_lt_succ (f - 1)
            rwa [show f - 1 + 1 = f by omega] at this
          have e1 : Qt * (2 ^ k * 2 ^ t) = Qt * 2 ^ k * 2 ^ t := by ac_rfl
          rw [e1]
          refine Nat.mul_lt_mul_of_pos_right ?_ (Nat.two_pow_pos t)
          unfold low2
          have hvf : val f = 4503599627370496 * 2 ^ k := by rw [g2, hv]
          have := Nat.mul_le_mul_right (2 ^ k) h53
          omega
        · left
          have b := val_dvd (r := f - 1) (k := k) (by unfold kOf; omega)
          obtain ⟨x, hx⟩ := Nat.dvd_add b a
          exact ⟨x, by unfold low2; rw [hx]; ac_rfl⟩
    · obtain ⟨k, hk⟩ : ∃ k, t = k + (s + 2) := ⟨t - (s + 2), by omega⟩
      rw [hk, Nat.pow_add]
      exact ⟨⟨high2 f * 2 ^ k, by ac_rfl⟩, .inl ⟨low2 f * 2 ^ k, by ac_rfl⟩⟩
  obtain ⟨⟨bh, hbh⟩, hl⟩ := key
  refine ⟨h.1, ?_⟩
  have hb2 := h.2
  have eq2 : 2 * (q' * 2 ^ s) = q' * (2 * 2 ^ s) := by ac_rfl
  have e4 : ∀ b, b * (4 * 2 ^ s) = 2 * b * (2 * 2 ^ s) := fun b => by
    rw [show 4 * 2 ^ s = 2 * (2 * 2 ^ s) by omega]
    ac_rfl
  have eD : 2 * (2 * D * 2 ^ s) = D * (4 * 2 ^ s) := by
    rw [show 2 * (2 * D * 2 ^ s) = D * (2 * 2 * 2 ^ s) by ac_rfl]
  have eH : high2 f * (n * 2 ^ t) = bh * n * (4 * 2 ^ s) := by rw [Nat.mul_comm n, ← Nat.mul_assoc, hbh, Nat.mul_right_comm]
  have eLn : low2 f * (n * 2 ^ t) = low2 f * 2 ^ t * n := by rw [Nat.mul_comm n, ← Nat.mul_assoc]
  have h2p : 0 < 2 * 2 ^ s := by omega
  have h4p : 0 < 4 * 2 ^ s := by omega
  have mono : ∀ x y, x ≤ y → x * n ≤ y * n := fun x y h => Nat.mul_le_mul_right n h
  rw [hbh, eq2, e4 bh] at hb2
  rw [eD, eH]
  have up : (q' ≤ 2 * bh → D ≤ bh * n) ∧ (q' < 2 * bh → D < bh * n) := by
    constructor
    · intro hh
      split at hq'
      · have := mono Qt bh (by omega)
        omega
      · have := mono (Qt + 1) bh (by omega)
        rw [Nat.add_mul, Nat.one_mul] at this
        omega
    · intro hh
      have := mono (Qt + 1) bh (by split at hq' <;> omega)
      rw [Nat.add_mul, Nat.one_mul] at this
      omega
  have lowstrict : low2 f * 2 ^ t < Qt * (4 * 2 ^ s) → low2 f * (n * 2 ^ t) < D * (4 * 2 ^ s) := fun hh => by
    rw [eLn]
    refine Nat.lt_of_lt_of_le (Nat.mul_lt_mul_of_pos_right hh hn) ?_
    rw [Nat.mul_right_comm]
    exact Nat.mul_le_mul_right _ (by omega)
  by_cases hp : f % 2 = 0
  · rw [if_pos hp] at hb2 ⊢
    constructor
    · rcases hl with ⟨bl, hbl⟩ | hl
      · rw [hbl, e4 bl] at hb2
        have g := Nat.le_of_mul_le_mul_right hb2.1 h2p
        rw [eLn, hbl, Nat.mul_right_comm]
        refine Nat.mul_le_mul_right _ ?_
        have := mono bl Qt (by split at hq' <;> omega)
        omega
      · exact Nat.le_of_lt (lowstrict hl)
    · intro hi
      have g := Nat.le_of_mul_le_mul_right (hb2.2 hi) h2p
      exact Nat.mul_le_mul_right _ (up.1 g)
  · rw [if_neg hp] at hb2 ⊢
    constructor
    · rcases hl with ⟨bl, hbl⟩ | hl
      · rw [hbl, e4 bl] at hb2
        have g := Nat.lt_of_mul_lt_mul_right hb2.1
        rw [eLn, hbl, Nat.mul_right_comm]
        refine Nat.mul_lt_mul_of_pos_right ?_ h4p
        split at hq'
        · have := mono (bl + 1) Qt (by omega)
          rw [Nat.add_mul, Nat.one_mul] at this
          omega
        · have := mono bl Qt (by omega)
          omega
      · exact lowstrict hl
    · have g := Nat.lt_of_mul_lt_mul_right hb2.2
      exact Nat.mul_lt_mul_of_pos_right (up.2 g) h4p
theorem mantOf_lt (r : Nat) : mantOf r < 9007199254740992 := by unfold mantOf; split <;> omega
/-- The quotient of two floats above nought. -/
theorem div_rnd {x y : Nat} (hx : x < infR) (hy : y < infR) (hx1 : 1 ≤ x) (hy1 : 1 ≤ y) (hkx : kOf x ≤ 1200) (hky : 1000 ≤ kOf y) : ∃ f, Ieee.double.div x y = some f ∧ Rnd f (val x * tiny) (val y) := by
  have pm := mant_pos hx1
  have pn := mant_pos hy1
  have hml : (mantOf x).log2 ≤ 52 := by
    have := (Nat.log2_lt (show mantOf x ≠ 0 by omega) (k := 53)).2 (mantOf_lt x)
    omega
  have hnl : (mantOf y).log2 ≤ 52 := by
    have := (Nat.log2_lt (show mantOf y ≠ 0 by omega) (k := 53)).2 (mantOf_lt y)
    omega
  obtain ⟨more, hmore⟩ : ∃ a, 54 + (mantOf y).log2 - (mantOf x).log2 = a := ⟨_, rfl⟩
  have hdiv : Ieee.double.div x y = some (Ieee.double.nearest false (2 * (mantOf x * 2 ^ more / mantOf y) + (mantOf x * 2 ^ more % mantOf y != 0).toNat) ((kOf x : Int) - 1074 - ((kOf y : Int) - 1074) - more - 1)) := by
    unfold Ieee.Format.div
    rw [read_rung hx, read_rung hy]
    unfold Ieee.Datum.quotient
    simp only []
    rw [if_neg (by omega)]
    rw [show Ieee.double.fractionBits + 2 = 54 from rfl, hmore, Nat.shiftLeft_eq]
    rfl
  refine ⟨_, hdiv, ?_⟩
  obtain ⟨D, hD⟩ : ∃ a, mantOf x * 2 ^ more = a := ⟨_, rfl⟩
  rw [hD]
  obtain ⟨q', hq'⟩ : ∃ a, 2 * (D / mantOf y) + (D % mantOf y != 0).toNat = a := ⟨_, rfl⟩
  rw [hq']
  have hq2 : q' = 2 * (D / mantOf y) + (if D % mantOf y = 0 then 0 else 1) := by
    rw [← hq']
    by_cases g : D % mantOf y = 0
    · rw [g]
      rfl
    · rw [if_neg g, bne_iff_ne.2 g]
      rfl
  have hQ : 9007199254740992 ≤ D / mantOf y := by
    rw [Nat.le_div_iff_mul_le pn, ← hD]
    have a1 : 2 ^ (mantOf x).log2 ≤ mantOf x := Nat.log2_self_le (by omega)
    have a2 : mantOf y < 2 ^ ((mantOf y).log2 + 1) := Nat.lt_log2_self
    have a3 := Nat.mul_le_mul_right (2 ^ more) a1
    rw [← Nat.pow_add, show (mantOf x).log2 + more = 53 + ((mantOf y).log2 + 1) by omega, Nat.pow_add, show (2 : Nat) ^ 53 = 9007199254740992 by decide] at a3
    exact Nat.le_trans (Nat.mul_le_mul_left _ (Nat.le_of_lt a2)) a3
  obtain ⟨pl, hpl⟩ : ∃ a, (kOf x : Int) - 1074 - ((kOf y : Int) - 1074) - more - 1 = a := ⟨_, rfl⟩
  rw [hpl]
  have hr := nearest_rnd q' pl (by omega)
  have hs := sticky2 (f := Ieee.double.nearest false q' pl) pn (Nat.div_add_mod' D (mantOf y)).symm (Nat.mod_lt _ pn) hq2 hQ (by omega) hr
  refine Rnd.congr (Nat.mul_pos pn (Nat.two_pow_pos _)) (by rw [val_eq]; exact Nat.mul_pos pn (Nat.two_pow_pos _)) ?_ hs
  obtain ⟨T, hT⟩ : ∃ T : Nat, T = 1074 := ⟨_, rfl⟩
  rw [val_eq, val_eq, tiny_pow hT, ← hD]
  have e : 2 * 2 ^ more * 2 ^ (pl + 1074).toNat * 2 ^ kOf y = 2 ^ kOf x * 2 ^ T * 2 ^ (-(pl + 1074)).toNat := by
    rw [← Nat.pow_succ', ← Nat.pow_add, ← Nat.pow_add, ← Nat.pow_add, ← Nat.pow_add]
    congr 1
    omega
  have e1 : 2 * (mantOf x * 2 ^ more) * 2 ^ (pl + 1074).toNat * (mantOf y * 2 ^ kOf y) = mantOf x * mantOf y * (2 * 2 ^ more * 2 ^ (pl + 1074).toNat * 2 ^ kOf y) := by ac_rfl
  have e2 : mantOf x * 2 ^ kOf x * 2 ^ T * (mantOf y * 2 ^ (-(pl + 1074)).toNat) = mantOf x * mantOf y * (2 ^ kOf x * 2 ^ T * 2 ^ (-(pl + 1074)).toNat) := by ac_rfl
  rw [e1, e2, e]
end Us
end Go.Proofs.YtdpbpdhamekcdaaGreatDoor
namespace Go.Proofs.YtdpbpdhamekcdaaGreatDoor
namespace Us

/-- The float of ten to the i. -/
def tenF (i : Nat) : Nat := Ieee.double.nearest false (10 ^ i) 0
theorem tenF_all : (List.range 23).all (fun i => val (tenF i) == 10 ^ i * tiny && Nat.blt (tenF i) 5000000000000000000 && Nat.blt 4600000000000000000 (tenF i)) = true := by decide +kernel
theorem tenF_said {i : Nat} (h : i ≤ 22) : val (tenF i) = 10 ^ i * tiny ∧ tenF i < 5000000000000000000 ∧ 4600000000000000000 < tenF i := by
  have := List.all_eq_true.1 tenF_all i (List.mem_range.2 (by omega))
  simp only [Bool.and_eq_true, beq_iff_eq, Nat.blt_eq] at this
  exact ⟨this.1.1, this.1.2, this.2⟩
theorem fl_pos {m : Nat} (h1 : 1 ≤ m) (h2 : m ≤ 9007199254740992) : 1 ≤ Ieee.double.nearest false m 0 := by
  have := val_fl h2
  rcases Nat.eq_zero_or_pos (Ieee.double.nearest false m 0) with h | h
  · rw [h, val_zero] at this
    have hp := Nat.mul_pos h1 tiny_pos
    omega
  · exact h
/-- A product, rounded. -/
theorem mul_rnd {x y : Nat} (hx : x < infR) (hy : y < infR) (hx1 : 1 ≤ x) (hy1 : 1 ≤ y) {N : Nat} (h : val x * val y = N * tiny * tiny) : ∃ R, Ieee.double.mul x y = some R ∧ Rnd R (N * tiny) 1 := by
  refine ⟨_, mul_rung hx hy, ?_⟩
  have pm := mant_pos hx1
  have pn := mant_pos hy1
  obtain ⟨pl, hpl⟩ : ∃ a, (kOf x : Int) - 1074 + ((kOf y : Int) - 1074) = a := ⟨_, rfl⟩
  rw [hpl]
  refine Rnd.congr (Nat.two_pow_pos _) (by decide) ?_ (nearest_rnd _ pl (Nat.mul_pos pm pn))
  obtain ⟨T, hT⟩ : ∃ T : Nat, T = 1074 := ⟨_, rfl⟩
  rw [val_eq, val_eq, tiny_pow hT] at h
  rw [tiny_pow hT, Nat.mul_one]
  refine Nat.eq_of_mul_eq_mul_right (Nat.two_pow_pos T) ?_
  have e : 2 ^ (pl + 1074).toNat * 2 ^ T = 2 ^ kOf x * 2 ^ kOf y * 2 ^ (-(pl + 1074)).toNat := by
    rw [← Nat.pow_add, ← Nat.pow_add, ← Nat.pow_add]
    congr 1
    omega
  have e1 : mantOf x * mantOf y * 2 ^ (pl + 1074).toNat * 2 ^ T = mantOf x * mantOf y * (2 ^ (pl + 1074).toNat * 2 ^ T) := by ac_rfl
  have e2 : mantOf x * mantOf y * (2 ^ kOf x * 2 ^ kOf y * 2 ^ (-(pl + 1074)).toNat) = mantOf x * 2 ^ kOf x * (mantOf y * 2 ^ kOf y) * 2 ^ (-(pl + 1074)).toNat := by ac_rfl
  rw [e1, e, e2, h]
  ac_rfl
theorem fl_rnd {d : Nat} (h1 : 1 ≤ d) : Rnd (Ieee.double.nearest false d 0) (d * tiny) 1 := by
  have := nearest_rnd d 0 (by omega)
  obtain ⟨T, hT⟩ : ∃ T : Nat, T = 1074 := ⟨_, rfl⟩
  rw [show (0 + 1074 : Int).toNat = T by omega, show (-(0 + 1074) : Int).toNat = 0 by omega, ← tiny_pow hT] at this
  exact this
/-- A whole number times a power of ten. -/
theorem exact_mul {a i : Nat} (h1 : 1 ≤ a) (h2 : a ≤ 9007199254740992) (hi : i ≤ 22) : ∃ R, Ieee.double.mul (Ieee.double.nearest false a 0) (tenF i) = some R ∧ Rnd R (a * 10 ^ i * tiny) 1 := by
  obtain ⟨t1, t2, t3⟩ := tenF_said hi
  refine mul_rnd (fl_lt h2) (by unfold infR; omega) (fl_pos h1 h2) (by omega) ?_
  rw [val_fl h2, t1]
  ac_rfl
/-- A whole number by a power of ten. -/
theorem exact_div {a i : Nat} (h1 : 1 ≤ a) (h2 : a ≤ 9007199254740992) (hi : i ≤ 22) : ∃ R, Ieee.double.div (Ieee.double.nearest false a 0) (tenF i) = some R ∧ Rnd R (a * tiny) (10 ^ i) := by
  obtain ⟨t1, t2, t3⟩ := tenF_said hi
  have hk : kOf (Ieee.double.nearest false a 0) ≤ 1200 := by
    have hb : Ieee.double.nearest false a 0 ≤ Ieee.double.nearest false 9007199254740992 0 := by
      have hv : val (Ieee.double.nearest false a 0) ≤ val (Ieee.double.nearest false 9007199254740992 0) := by
        rw [val_fl h2, val_fl (Nat.le_refl _)]
        exact Nat.mul_le_mul_right _ h2
      rcases Nat.lt_or_ge (Ieee.double.nearest false 9007199254740992 0) (Ieee.double.nearest false a 0) with h | h
      · have := val_lt h
        omega
      · exact h
    have : Ieee.double.nearest false 9007199254740992 0 = 4845873199050653696 := by decide +kernel
    unfold kOf
    omega
  obtain ⟨R, e, hR⟩ := div_rnd (fl_lt h2) (show tenF i < infR by unfold infR; omega) (fl_pos h1 h2) (by omega) hk (by unfold kOf; omega)
  refine ⟨R, e, ?_⟩
  refine Rnd.congr (by rw [t1]; exact Nat.mul_pos (Nat.pow_pos (by decide)) tiny_pos) (Nat.pow_pos (by decide)) ?_ hR
  rw [val_fl h2, t1]
  ac_rfl
theorem big15 : Ieee.double.nearest false 1000000000000000 0 = 4831355200913801216 := by decide +kernel
/-- What is no greater than 10^15 is exact. -/
theorem exact_small {a i R : Nat} (h2 : a ≤ 9007199254740992) (hi : i ≤ 15) (h : Ieee.double.mul (Ieee.double.nearest false a 0) (tenF i) = some R) (hR : R ≤ 4831355200913801216) : a * 10 ^ i ≤ 9007199254740992 ∧ R = Ieee.double.nearest false (a * 10 ^ i) 0 := by
  have ht : 10 ^ i ≤ 9007199254740992 := Nat.le_trans (Nat.pow_le_pow_right (by decide) hi) (by decide)
  have e : R = Ieee.double.nearest false (a * 10 ^ i) 0 := by
    have := mul_fl h2 ht
    unfold tenF at h
    rw [this] at h
    exact (Option.some.inj h).symm
  refine ⟨?_, e⟩
  rcases Nat.lt_or_ge 9007199254740992 (a * 10 ^ i) with g | g
  · exfalso
    have hf := fl_rnd (d := a * 10 ^ i) (by omega)
    have hge := Rnd.ge (g := 4845873199050653696) (by decide) (by decide) hf (by
      have e2 : Ieee.double.nearest false 9007199254740992 0 = 4845873199050653696 := by decide +kernel
      rw [← e2, val_fl (Nat.le_refl _), Nat.mul_one]
      exact Nat.mul_le_mul_right _ (by omega))
    omega
  · exact g
theorem read_neg15 : Ieee.double.read 14054727237768577024 = .number true 8000000000000000 (-3) := by decide +kernel
theorem order_neg15 {r : Nat} (h : r < infR) : Ieee.double.order r 14054727237768577024 = some .gt := by
  unfold Ieee.Format.order
  rw [read_rung h, read_neg15]
  unfold Ieee.Datum.order
  simp only [signed_eq]
  congr 1
  apply Int.compare_eq_gt.2
  refine Int.lt_of_lt_of_le ?_ (Int.natCast_nonneg _)
  unfold Ieee.signed
  rw [if_pos rfl, Nat.shiftLeft_eq]
  have := Nat.two_pow_pos ((-3 : Int) - min ((kOf r : Int) - 1074) (-3)).toNat
  have := Nat.mul_pos (show 0 < 8000000000000000 by decide) this
  omega
end Us
end Go.Proofs.YtdpbpdhamekcdaaGreatDoor
namespace Go.Proofs.YtdpbpdhamekcdaaGreatDoor
namespace Us

def pair64 (i : Nat) : Bool := force i fun i => match rowAt ((i : Int) - 60) with
  | (hi, lo) => pairOK ((i : Int) - 60) hi lo 8 1 18446744073709551615
theorem pair64_all : (List.range 88).all pair64 = true := by decide +kernel
theorem uok64 {p : Int} {d b : Nat} (h1 : -60 ≤ p) (h2 : p ≤ 27) (hb1 : 1 ≤ b) (hb2 : b ≤ 64) (hd1 : 2 ^ (b - 1) ≤ d) (hd : d < 2 ^ b) : UOK d b p := by
  intro hs
  obtain ⟨r1, -⟩ := par_row (show -345 ≤ p by omega) (show p ≤ 310 by omega)
  obtain ⟨x1, x2⟩ := par_x hb1 hb2 hd1 hd
  have hk := List.all_eq_true.1 pair64_all (p + 60).toNat (List.mem_range.2 (by omega))
  unfold pair64 at hk
  rw [force_eq, show (((p + 60).toNat : Nat) : Int) - 60 = p by omega] at hk
  have hs8 : parS b p = 8 := by
    have hl : lpOf p = p * 108853 / 32768 := rfl
    unfold parS parE
    omega
  rw [hs8]
  have h := pair_sharp (y := d * 2 ^ (64 - b)) r1 hk (by omega) (by omega) (by omega)
  rw [Nat.one_mul] at h
  exact h
end Us
end Go.Proofs.YtdpbpdhamekcdaaGreatDoor
namespace Go.Proofs.YtdpbpdhamekcdaaGreatDoor
namespace Us

/-- Noughts behind move to the exponent. -/
theorem rnd_scale {R M k : Nat} {p : Int} (h : Rnd R (M * hiP (p + k) * tiny) (loQ (p + k))) : Rnd R (M * 10 ^ k * hiP p * tiny) (loQ p) := by
  refine Rnd.congr (loQ_pos _) (loQ_pos _) ?_ h
  unfold hiP loQ
  have e : 10 ^ (p + k).toNat * 10 ^ (-p).toNat = 10 ^ k * 10 ^ p.toNat * 10 ^ (-(p + k)).toNat := by
    rw [← Nat.pow_add, ← Nat.pow_add, ← Nat.pow_add]
    congr 1
    omega
  have e1 : M * 10 ^ (p + k).toNat * tiny * 10 ^ (-p).toNat = M * tiny * (10 ^ (p + k).toNat * 10 ^ (-p).toNat) := by ac_rfl
  have e2 : M * 10 ^ k * 10 ^ p.toNat * tiny * 10 ^ (-(p + k)).toNat = M * tiny * (10 ^ k * 10 ^ p.toNat * 10 ^ (-(p + k)).toNat) := by ac_rfl
  rw [e1, e2, e]
theorem big_311 : 18014398509481984 * 2 ^ 45 * (2 ^ 200) ^ 10 ≤ 2 * (10 ^ 155 * 10 ^ 156) * tiny := by decide +kernel
theorem rnd_inf {M : Nat} {p : Int} (h1 : 1 ≤ M) (hp : 311 ≤ p) : Rnd infR (M * hiP p * tiny) (loQ p) := by
  have hl : loQ p = 1 := by
    unfold loQ
    rw [show (-p).toNat = 0 by omega, Nat.pow_zero]
  refine ⟨Nat.le_refl _, ?_⟩
  rw [if_pos (by decide), hl, Nat.mul_one]
  refine ⟨?_, fun h => (Nat.lt_irrefl _ h).elim⟩
  obtain ⟨T, hT⟩ : ∃ T : Nat, T = 2045 := ⟨_, rfl⟩
  rw [low_inf hT]
  have h311 : 10 ^ 155 * 10 ^ 156 ≤ hiP p := by
    obtain ⟨x, hx⟩ : ∃ x : Nat, x = 155 := ⟨_, rfl⟩
    obtain ⟨y, hy⟩ : ∃ y : Nat, y = 156 := ⟨_, rfl⟩
    rw [← hx, ← hy, ← Nat.pow_add]
    exact Nat.pow_le_pow_right (by decide) (by omega)
  have a := big_311
  have e : 2 ^ 45 * (2 ^ 200) ^ 10 = 2 ^ T := by
    obtain ⟨y, hy⟩ : ∃ y : Nat, y = 200 := ⟨_, rfl⟩
    rw [← hy, ← Nat.pow_mul, ← Nat.pow_add]
    congr 1
    omega
  rw [Nat.mul_assoc, e] at a
  have b := Nat.mul_le_mul h1 h311
  rw [Nat.one_mul] at b
  have c := Nat.mul_le_mul_right tiny (Nat.mul_le_mul_left 2 b)
  have d := Nat.mul_le_mul_right (2 ^ T) (show 18014398509481983 ≤ 18014398509481984 by decide)
  have f : 2 * (M * hiP p) * tiny = 2 * (M * hiP p * tiny) := Nat.mul_assoc _ _ _
  omega
theorem small_346 : 2 * 10000000000000000000 * tiny ≤ 10 ^ 173 * 10 ^ 173 := by decide +kernel
theorem rnd_zero {M : Nat} {p : Int} (h1 : M ≤ 10000000000000000000) (hp : p ≤ -346) : Rnd 0 (M * hiP p * tiny) (loQ p) := by
  have hh : hiP p = 1 := by
    unfold hiP
    rw [show p.toNat = 0 by omega, Nat.pow_zero]
  have e1 : high2 0 = 1 := by decide
  have e0 : low2 0 = 0 := by decide
  refine ⟨by decide, ?_⟩
  rw [if_pos (by decide), hh, e0, e1, Nat.zero_mul, Nat.one_mul, Nat.mul_one]
  refine ⟨Nat.zero_le _, fun _ => ?_⟩
  have a := small_346
  have b : 10 ^ 173 * 10 ^ 173 ≤ loQ p := by
    obtain ⟨x, hx⟩ : ∃ x : Nat, x = 173 := ⟨_, rfl⟩
    rw [← hx, ← Nat.pow_add]
    exact Nat.pow_le_pow_right (by decide) (by omega)
  have c := Nat.mul_le_mul_right tiny (Nat.mul_le_mul_left 2 h1)
  rw [Nat.mul_assoc] at c
  omega
/-- Of each number of 64 bits and each power of ten what strconv tells is the rounded number, where its product is sharp. -/
def goAny (M b : Nat) (p : Int) : Nat := if 310 < p then infR else if p < -345 then 0 else goPar M b p
theorem any_rnd {M b : Nat} {p : Int} (hb1 : 1 ≤ b) (hb2 : b ≤ 64) (hd1 : 2 ^ (b - 1) ≤ M) (hd : M < 2 ^ b) (h19 : M ≤ 10000000000000000000) (hu : -345 ≤ p → p ≤ 310 → UOK M b p) : Rnd (goAny M b p) (M * hiP p * tiny) (loQ p) := by
  have h1 : 1 ≤ M := Nat.le_trans (Nat.two_pow_pos _) hd1
  unfold goAny
  split
  · exact rnd_inf h1 (by omega)
  · split
    · exact rnd_zero h19 (by omega)
    · exact par_total (by omega) (by omega) hb1 hb2 hd1 hd (hu (by omega) (by omega))
end Us
end Go.Proofs.YtdpbpdhamekcdaaGreatDoor
namespace Go.Proofs.YtdpbpdhamekcdaaGreatDoor
namespace Us

theorem width_big {r : Nat} (h1 : 1 ≤ r) : high2 r < 10000000000000000 * (high2 r - low2 r) := by
  obtain ⟨s, rfl⟩ : ∃ s, r = s + 1 := ⟨r - 1, by omega⟩
  have e1 := val_succ (s + 1)
  have e0 := val_succ s
  have hh : high2 (s + 1) = val (s + 1) + val (s + 1 + 1) := rfl
  have hl : low2 (s + 1) = val s + val (s + 1) := by unfold low2; rw [Nat.add_sub_cancel]
  have hup := ulp_pos s
  rw [hh, hl]
  have key : (ulp s = ulp (s + 1) ∧ val (s + 1) ≤ 9007199254740991 * ulp (s + 1)) ∨ (ulp (s + 1) ≤ 2 * ulp s ∧ val (s + 1) ≤ 4503599627370496 * ulp (s + 1)) := by
    unfold val ulp
    by_cases h : s + 1 < 4503599627370496
    · left
      rw [if_pos h, show s / 4503599627370496 - 1 = 0 by omega, show (s + 1) / 4503599627370496 - 1 = 0 by omega]
      exact ⟨rfl, by omega⟩
    · rw [if_neg h]
      by_cases g : (s + 1) % 4503599627370496 = 0
      · right
        rw [g, Nat.add_zero]
        refine ⟨?_, Nat.le_refl _⟩
        rw [← Nat.pow_succ']
        exact Nat.pow_le_pow_right (by decide) (by omega)
      · left
        rw [show s / 4503599627370496 = (s + 1) / 4503599627370496 by omega]
        exact ⟨rfl, Nat.mul_le_mul_right _ (by omega)⟩
  have hu1 := ulp_pos (s + 1)
  generalize val (s + 1 + 1) = v2 at *
  generalize val (s + 1) = v1 at *
  generalize val s = v0 at *
  generalize ulp (s + 1) = u1 at *
  generalize ulp s = u0 at *
  rcases key with ⟨k1, k2⟩ | ⟨k1, k2⟩
  · omega
  · omega
theorem short17 {r c : Nat} {j : Int} (h1 : 1 ≤ r) (h : Short r c j) : c < 100000000000000000 := by
  rcases Nat.lt_or_ge c 100000000000000000 with g | g
  · exact g
  · exfalso
    obtain ⟨q, hq⟩ : ∃ q, c / 10 = q := ⟨_, rfl⟩
    have n1 : ¬ In r (10 * q) j := fun hh => by
      have := h.top _ _ ((in_ten r q j).1 hh)
      omega
    have n2 : ¬ In r (10 * (q + 1)) j := fun hh => by
      have := h.top _ _ ((in_ten r (q + 1) j).1 hh)
      omega
    have hi := h.inn
    have d1 := dv_le (show 10 * q ≤ c by omega) j
    have d2 := dv_le (show c ≤ 10 * (q + 1) by omega) j
    have d3 := dv_le g j
    have e1 := dv_mul (10 * q) j
    have e2 := dv_mul (10 * (q + 1)) j
    have e3 := dv_mul 100000000000000000 j
    have hw := width_big h1
    have hb : (high2 r - low2 r) * loQ j ≤ 10 * dv 1 j := by
      rw [Nat.sub_mul]
      have e4 : 10 * (q + 1) * dv 1 j = 10 * q * dv 1 j + 10 * dv 1 j := by rw [Nat.mul_add 10, Nat.add_mul]
      unfold In at n1 n2 hi
      split at hi <;> rename_i hp
      · rw [if_pos hp] at n1 n2
        omega
      · rw [if_neg hp] at n1 n2
        omega
    have hle : dv c j ≤ high2 r * loQ j := in_le_high hi
    have hm := (Nat.mul_lt_mul_right (loQ_pos j)).2 hw
    rw [Nat.mul_assoc] at hm
    omega
theorem short_exp {r c : Nat} {j : Int} (h1 : 1 ≤ r) (h2 : r < infR) (h : Short r c j) : -345 ≤ j ∧ j ≤ 310 := by
  have hr := (in_rnd h2).1 h.inn
  have hc := h.pos
  have h17 := short17 h1 h
  constructor
  · rcases Int.lt_or_le j (-345) with g | g
    · have := Rnd.one (loQ_pos j) hr (rnd_zero (M := c) (p := j) (by omega) (by omega))
      omega
    · exact g
  · rcases Int.lt_or_le 310 j with g | g
    · have := Rnd.one (loQ_pos j) hr (rnd_inf (M := c) (p := j) hc (by omega))
      omega
    · exact g
end Us
end Go.Proofs.YtdpbpdhamekcdaaGreatDoor
