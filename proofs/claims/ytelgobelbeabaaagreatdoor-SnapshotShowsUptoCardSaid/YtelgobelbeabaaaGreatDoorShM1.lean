/-
  A plain law on remainders: 'chk' tells soundly that no multiple of a number, up to the Y-th, leaves a remainder between two bounds. No program in sight; no condition. A plain law on numbers: what internal/strconv.uscale reckons out of 64-bit words is the unrounded value, where the remainder lies in its window, or is next to nought. No program in sight; no condition. A plain law on numbers: where two checks by the kernel hold of a row of strconv's table of powers of ten and of a shift, internal/strconv.uscale reckons the unrounded value. No program in sight; no condition. A plain law on numbers: a fraction's whole part with a mark in the last bit tells its floor, its ceiling, and its rounding. No program in sight; no condition. Plain laws on whole numbers: of an interval's two ends and its middle, measured in units, the first whole number within, the last, and the one nearest to the middle; which is the shortest. No program in sight; no condition. Plain laws: a float's number by its rung, which decimals round to it, and the shortest of these: there is one alone. No program in sight; no condition. Plain laws: which rung a positive number rounds to; the model's rounding gives it; there is one alone. No program in sight; no condition. A plain law: the model's rounding to floats of 64 bits gives the rung that a number rounds to. No program in sight; no condition. Plain laws: equal numbers round to the same rung. No program in sight; no condition. Closed facts that the kernel reckons: of each exponent that a float of 64 bits can have, strconv's row of powers of ten is sharp at the shift that is used, and the interval's width is as the shortest form wants it. No program in sight; no condition.
-/
import Derived.KernelRfl
import GoSem.PinnedTables
import Ieee.Word
namespace Go.Proofs.YtelgobelbeabaaaGreatDoor
namespace Us

/-- A number is reckoned before it is handed on (for the kernel's sake). -/
def force {A : Type} (n : Nat) (f : Nat → A) : A := match n with
  | 0 => f 0
  | k + 1 => f (k + 1)
theorem force_eq {A : Type} (n : Nat) (f : Nat → A) : force n f = f n := by cases n <;> rfl

/-- Does no y up to Y have a remainder of a * y by m from l to r? (false: it does, or it was not found out in so many steps.) -/
def chk : Nat → Nat → Nat → Nat → Nat → Nat → Bool
  | 0, _, _, _, _, _ => false
  | f + 1, a, m, l, r, Y =>
    cond (Nat.beq a 0) true
      (cond (Nat.blt m (2 * a)) (force (m - a) fun a' => force (m - r) fun l' => force (m - l) fun r' => chk f a' m l' r' Y)
        (force ((l + a - 1) / a) fun c => cond (Nat.ble (a * c) r) (Nat.blt Y c)
          (force ((a - m % a) % a) fun a' => force (l % a) fun l' => force (r % a) fun r' => force (a * Y / m) fun Y' => chk f a' a l' r' Y')))

theorem compl_mod {a m y t : Nat} (ha : a ≤ m) (ht : a * y % m = t) (h0 : 0 < t) : (m - a) * y % m = m - t := by
  have hm : 0 < m := by
    rcases Nat.eq_zero_or_pos m with h | h
    · subst h
      have h1 : a = 0 := by omega
      subst h1
      simp at ht
      omega
    · exact h
  have h1 : (m - a) * y + a * y = m * y := by rw [← Nat.add_mul, Nat.sub_add_cancel ha]
  have h2 := Nat.mod_lt ((m - a) * y) hm
  have h3 := Nat.mod_lt (a * y) hm
  have h4 : ((m - a) * y % m + a * y % m) % m = 0 := by rw [← Nat.add_mod, h1, Nat.mul_mod_right]
  rw [ht] at h4 h3
  generalize (m - a) * y % m = u at h2 h4 ⊢
  by_cases h : u + t < m
  · rw [Nat.mod_eq_of_lt h] at h4
    omega
  · have h5 : (u + t) % m = u + t - m := by rw [Nat.mod_eq_sub_mod (by omega), Nat.mod_eq_of_lt (by omega)]
    omega

theorem same_mod {a A B t : Nat} (h1 : (A + B) % a = 0) (h2 : (B + t) % a = 0) : A % a = t % a := by
  obtain ⟨u, hu⟩ := Nat.dvd_of_mod_eq_zero h1
  obtain ⟨v, hv⟩ := Nat.dvd_of_mod_eq_zero h2
  have e : A + a * v = t + a * u := by omega
  have e1 : (A + a * v) % a = A % a := Nat.add_mul_mod_self_left A a v
  have e2 : (t + a * u) % a = t % a := Nat.add_mul_mod_self_left t a u
  rw [← e1, ← e2, e]

theorem neg_mod (a m : Nat) (ha : 0 < a) : ((a - m % a) % a + m) % a = 0 := by
  rw [Nat.mod_add_mod]
  have h := Nat.mod_lt m ha
  have e : a - m % a + m = a * (1 + m / a) := by
    have := Nat.div_add_mod m a
    rw [Nat.mul_add, Nat.mul_one]
    omega
  rw [e, Nat.mul_mod_right]

theorem mod_of_between {a q x : Nat} (h1 : a * q ≤ x) (h2 : x < a * q + a) : x % a = x - a * q := by
  have e : x = (x - a * q) + a * q := by omega
  rw [e, Nat.add_mul_mod_self_left, Nat.mod_eq_of_lt (by omega)]
  omega

theorem step_mod {a m l r y k t c : Nat} (ha : 0 < a) (hay : a * y = m * k + t) (hl : l ≤ t) (hr : t ≤ r) (hc : c = (l + a - 1) / a) (hno : r < a * c) (h0 : 0 < l) :
    (l % a ≤ (a - m % a) % a * k % a ∧ (a - m % a) % a * k % a ≤ r % a) ∧ 0 < l % a ∧ l % a ≤ r % a := by
  have hdm := Nat.div_add_mod (l + a - 1) a
  have hml := Nat.mod_lt (l + a - 1) ha
  rw [← hc] at hdm
  obtain ⟨q, rfl⟩ : ∃ q, c = q + 1 := by
    cases c with
    | zero => simp at hdm; omega
    | succ q => exact ⟨q, rfl⟩
  rw [Nat.mul_add, Nat.mul_one] at hdm hno
  have hq1 : a * q < l := by omega
  have hL := mod_of_between (a := a) (q := q) (x := l) (by omega) (by omega)
  have hR := mod_of_between (a := a) (q := q) (x := r) (by omega) (by omega)
  have hT := mod_of_between (a := a) (q := q) (x := t) (by omega) (by omega)
  have e1 : ((a - m % a) % a * k + m * k) % a = 0 := by
    rw [← Nat.add_mul, Nat.mul_mod, neg_mod a m ha, Nat.zero_mul, Nat.zero_mod]
  have e2 : (m * k + t) % a = 0 := by rw [← hay, Nat.mul_mod_right]
  have e3 := same_mod e1 e2
  rw [e3, hL, hR, hT]
  omega

theorem chk_sound : ∀ (f a m l r Y : Nat), chk f a m l r Y = true → 0 < l → l ≤ r → r < m → a < m → ∀ y, y ≤ Y → ¬ (l ≤ a * y % m ∧ a * y % m ≤ r) := by
  intro f
  induction f with
  | zero => intro a m l r Y h; cases h
  | succ f ih =>
    intro a m l r Y h h0 hlr hrm ham y hy hh
    simp only [chk, force_eq] at h
    by_cases ha : a = 0
    · subst ha
      simp at hh
      omega
    · have hb : Nat.beq a 0 = false := by
        cases hx : Nat.beq a 0 with
        | false => rfl
        | true => exact absurd (Nat.eq_of_beq_eq_true hx) ha
      rw [hb, cond_false] at h
      by_cases h2 : m < 2 * a
      · have hb2 : Nat.blt m (2 * a) = true := by rw [Nat.blt_eq]; exact h2
        rw [hb2, cond_true] at h
        have e := compl_mod (a := a) (m := m) (y := y) (by omega) rfl (by omega)
        exact ih (m - a) m (m - r) (m - l) Y h (by omega) (by omega) (by omega) (by omega) y hy (by rw [e]; omega)
      · have hb2 : Nat.blt m (2 * a) = false := by
          cases hx : Nat.blt m (2 * a) with
          | false => rfl
          | true => exact absurd ((Nat.blt_eq ▸ hx : m < 2 * a)) h2
        rw [hb2, cond_false] at h
        have hdiv := Nat.div_add_mod (a * y) m
        by_cases hc : a * ((l + a - 1) / a) ≤ r
        · have hb3 : Nat.ble (a * ((l + a - 1) / a)) r = true := by rw [Nat.ble_eq]; exact hc
          rw [hb3, cond_true] at h
          have hY := h
          rw [Nat.blt_eq] at hY
          have hdm := Nat.div_add_mod (l + a - 1) a
          have hml := Nat.mod_lt (l + a - 1) (show 0 < a by omega)
          have hlt : y + 1 ≤ (l + a - 1) / a := by omega
          have hmul : a * (y + 1) ≤ a * ((l + a - 1) / a) := Nat.mul_le_mul_left a hlt
          rw [Nat.mul_add, Nat.mul_one] at hmul
          have hay : a * y < l := by omega
          rw [Nat.mod_eq_of_lt (by omega)] at hh
          omega
        · have hb3 : Nat.ble (a * ((l + a - 1) / a)) r = false := by
            cases hx : Nat.ble (a * ((l + a - 1) / a)) r with
            | false => rfl
            | true => rw [Nat.ble_eq] at hx; exact absurd hx hc
          rw [hb3, cond_false] at h
          obtain ⟨hs, hp, hq⟩ := step_mod (a := a) (m := m) (l := l) (r := r) (y := y) (k := a * y / m) (t := a * y % m) (by omega) hdiv.symm hh.1 hh.2 rfl (by omega) h0
          have hk : a * y / m ≤ a * Y / m := Nat.div_le_div_right (Nat.mul_le_mul_left a hy)
          exact ih _ a (l % a) (r % a) (a * Y / m) h hp hq (Nat.mod_lt _ (by omega)) (Nat.mod_lt _ (by omega)) (a * y / m) hk hs
end Us
end Go.Proofs.YtelgobelbeabaaaGreatDoor
namespace Go.Proofs.YtelgobelbeabaaaGreatDoor
namespace Us

theorem dm {A D h R : Nat} (e : A = D * h + R) (hR : R < D) : A / D = h ∧ A % D = R := by
  subst e
  constructor
  · rw [Nat.mul_add_div (by omega), Nat.div_eq_of_lt hR, Nat.add_zero]
  · rw [Nat.mul_add_mod, Nat.mod_eq_of_lt hR]

/-- What uscale reckons: x a word, hi and lo the two words of a power of ten, s the shift. -/
def uscaleN (x hi lo s : Nat) : Nat :=
  if x * hi / 18446744073709551616 / 2 ^ s * 2 ^ s = x * hi / 18446744073709551616 then
    (x * hi / 18446744073709551616 - if x * hi % 18446744073709551616 < x * lo / 18446744073709551616 then 1 else 0) / 2 ^ s |||
      (if 1 < (x * hi % 18446744073709551616 + 18446744073709551616 - x * lo / 18446744073709551616) % 18446744073709551616 then 1 else 0)
  else x * hi / 18446744073709551616 / 2 ^ s ||| 1

theorem words_le {x lo : Nat} (hx : x < 18446744073709551616) (hl : lo < 18446744073709551616) : x * lo ≤ 340282366920938463426481119284349108225 := by
  have h := Nat.mul_le_mul (show x ≤ 18446744073709551615 by omega) (show lo ≤ 18446744073709551615 by omega)
  exact h

/-- The same on the words themselves: H, M the product's two words, m2, l2 the lesser product's, S the power of two. -/
theorem words {A H M m2 l2 S h g D : Nat} (hA : A + (m2 * 18446744073709551616 + l2) = (H * 18446744073709551616 + M) * 18446744073709551616) (hM : M < 18446744073709551616) (hm2 : m2 ≤ 18446744073709551614) (hl2 : l2 < 18446744073709551616)
    (hH : H = S * h + g) (hg : g < S) (hH1 : 1 ≤ H) (hD : D = 340282366920938463463374607431768211456 * S) :
    (18446744073709551616 < A % D → A % D ≤ D - 18446744073709551616 →
      (g ≠ 0 → A / D = h) ∧ (g = 0 → ¬ M < m2 → A / D = h ∧ 1 < M - m2) ∧ (g = 0 → M < m2 → A / D = h - 1 ∧ 1 ≤ h)) ∧
    (A % D < 18446744073709551616 → g = 0 ∧ ¬ M < m2 ∧ M - m2 ≤ 1 ∧ A / D = h) := by
  have hK : D * h = 340282366920938463463374607431768211456 * (S * h) := by rw [hD, Nat.mul_assoc]
  generalize hKe : S * h = K at hK hH
  by_cases hg0 : g = 0
  · subst hg0
    have hS : 1 ≤ S := by omega
    have hh : 1 ≤ h := by
      cases h with
      | zero => simp at hKe; omega
      | succ n => omega
    have hKS : S ≤ K := by rw [← hKe]; exact Nat.le_mul_of_pos_right S hh
    by_cases hmm : M < m2 ∨ (M = m2 ∧ 0 < l2)
    · have e : A = D * (h - 1) + (D + (M * 18446744073709551616) - (m2 * 18446744073709551616 + l2)) := by
        have : D * (h - 1) = D * h - D := by rw [Nat.mul_sub, Nat.mul_one]
        rw [this, hK]
        omega
      obtain ⟨e1, e2⟩ := dm e (by omega)
      rw [e1, e2]
      refine ⟨fun h1 h2 => ⟨fun h3 => absurd rfl h3, fun _ h4 => ?_, fun _ _ => ⟨rfl, hh⟩⟩, fun h1 => ?_⟩ <;> omega
    · have e : A = D * h + ((M - m2) * 18446744073709551616 - l2) := by
        rw [hK]
        omega
      obtain ⟨e1, e2⟩ := dm e (by omega)
      rw [e1, e2]
      refine ⟨fun h1 h2 => ⟨fun h3 => absurd rfl h3, fun _ h4 => ⟨rfl, by omega⟩, fun _ h4 => by omega⟩, fun h1 => ⟨rfl, by omega, by omega, rfl⟩⟩
  · have e : A = D * h + (340282366920938463463374607431768211456 * g + M * 18446744073709551616 - (m2 * 18446744073709551616 + l2)) := by
      rw [hK]
      omega
    obtain ⟨e1, e2⟩ := dm e (by omega)
    rw [e1, e2]
    exact ⟨fun _ _ => ⟨fun _ => rfl, fun h3 => absurd h3 hg0, fun h3 => absurd h3 hg0⟩, fun h1 => by omega⟩

theorem uscale_window {x hi lo s A : Nat} (hx : x < 18446744073709551616) (hl : lo < 18446744073709551616) (hA : A + x * lo = x * hi * 18446744073709551616) (hH : 18446744073709551616 ≤ x * hi)
    (h1 : 18446744073709551616 < A % 2 ^ (128 + s)) (h2 : A % 2 ^ (128 + s) ≤ 2 ^ (128 + s) - 18446744073709551616) : uscaleN x hi lo s = A / 2 ^ (128 + s) ||| 1 := by
  have hle := words_le hx hl
  have a1 := Nat.div_add_mod (x * hi) 18446744073709551616
  have a2 := Nat.div_add_mod (x * lo) 18446744073709551616
  have a3 := Nat.div_add_mod (x * hi / 18446744073709551616) (2 ^ s)
  have b1 := Nat.mod_lt (x * hi) (show 0 < 18446744073709551616 by decide)
  have b2 := Nat.mod_lt (x * lo) (show 0 < 18446744073709551616 by decide)
  have b3 := Nat.mod_lt (x * hi / 18446744073709551616) (Nat.two_pow_pos s)
  have hD : 2 ^ (128 + s) = 340282366920938463463374607431768211456 * 2 ^ s := by rw [Nat.pow_add]
  have hm2 : x * lo / 18446744073709551616 ≤ 18446744073709551614 := by omega
  have hH1 : 1 ≤ x * hi / 18446744073709551616 := by omega
  unfold uscaleN
  generalize hP : x * hi = P at *
  generalize hQ : x * lo = Q at *
  generalize hHe : P / 18446744073709551616 = H at *
  generalize hMe : P % 18446744073709551616 = M at *
  generalize hme : Q / 18446744073709551616 = m2 at *
  generalize hle2 : Q % 18446744073709551616 = l2 at *
  generalize hS : 2 ^ s = S at *
  generalize hh : H / S = h at *
  generalize hg : H % S = g at *
  rw [hD] at h1 h2 ⊢
  obtain ⟨c1, c2, c3⟩ := (words (A := A) (H := H) (M := M) (m2 := m2) (l2 := l2) (S := S) (h := h) (g := g) (D := 340282366920938463463374607431768211456 * S) (by omega) b1 hm2 b2 a3.symm b3 hH1 rfl).1 h1 h2
  by_cases hg0 : g = 0
  · have hE : h * S = H := by rw [Nat.mul_comm]; omega
    rw [if_pos hE]
    by_cases hb : M < m2
    · obtain ⟨d1, d2⟩ := c3 hg0 hb
      rw [if_pos hb, if_pos (by rw [Nat.mod_eq_of_lt (by omega)]; omega), d1]
      congr 1
      have e : H - 1 = S * (h - 1) + (S - 1) := by
        rw [Nat.mul_sub, Nat.mul_one]
        have : S ≤ S * h := Nat.le_mul_of_pos_right S d2
        omega
      exact (dm e (by omega)).1
    · obtain ⟨d1, d2⟩ := c2 hg0 hb
      rw [if_neg hb, if_pos (by rw [show M + 18446744073709551616 - m2 = (M - m2) + 18446744073709551616 by omega, Nat.add_mod_right, Nat.mod_eq_of_lt (by omega)]; exact d2), d1, Nat.sub_zero, hh]
  · have hE : ¬ h * S = H := by rw [Nat.mul_comm]; omega
    rw [if_neg hE, c1 hg0]

theorem uscale_exact {x hi lo s A : Nat} (hx : x < 18446744073709551616) (hl : lo < 18446744073709551616) (hA : A + x * lo = x * hi * 18446744073709551616) (hH : 18446744073709551616 ≤ x * hi)
    (h1 : A % 2 ^ (128 + s) < 18446744073709551616) : uscaleN x hi lo s = A / 2 ^ (128 + s) := by
  have hle := words_le hx hl
  have a1 := Nat.div_add_mod (x * hi) 18446744073709551616
  have a2 := Nat.div_add_mod (x * lo) 18446744073709551616
  have a3 := Nat.div_add_mod (x * hi / 18446744073709551616) (2 ^ s)
  have b1 := Nat.mod_lt (x * hi) (show 0 < 18446744073709551616 by decide)
  have b2 := Nat.mod_lt (x * lo) (show 0 < 18446744073709551616 by decide)
  have b3 := Nat.mod_lt (x * hi / 18446744073709551616) (Nat.two_pow_pos s)
  have hD : 2 ^ (128 + s) = 340282366920938463463374607431768211456 * 2 ^ s := by rw [Nat.pow_add]
  have hm2 : x * lo / 18446744073709551616 ≤ 18446744073709551614 := by omega
  have hH1 : 1 ≤ x * hi / 18446744073709551616 := by omega
  unfold uscaleN
  generalize hP : x * hi = P at *
  generalize hQ : x * lo = Q at *
  generalize hHe : P / 18446744073709551616 = H at *
  generalize hMe : P % 18446744073709551616 = M at *
  generalize hme : Q / 18446744073709551616 = m2 at *
  generalize hle2 : Q % 18446744073709551616 = l2 at *
  generalize hS : 2 ^ s = S at *
  generalize hh : H / S = h at *
  generalize hg : H % S = g at *
  rw [hD] at h1 ⊢
  obtain ⟨c1, c2, c3, c4⟩ := (words (A := A) (H := H) (M := M) (m2 := m2) (l2 := l2) (S := S) (h := h) (g := g) (D := 340282366920938463463374607431768211456 * S) (by omega) b1 hm2 b2 a3.symm b3 hH1 rfl).2 h1
  have hE : h * S = H := by rw [Nat.mul_comm]; omega
  rw [if_pos hE, if_neg c2, if_neg (by rw [show M + 18446744073709551616 - m2 = (M - m2) + 18446744073709551616 by omega, Nat.add_mod_right, Nat.mod_eq_of_lt (by omega)]; omega), c4, Nat.sub_zero, hh, Nat.or_zero]
end Us
end Go.Proofs.YtelgobelbeabaaaGreatDoor
namespace Go.Proofs.YtelgobelbeabaaaGreatDoor
namespace Us

/-- The greatest power of two that is no greater than a power of ten. -/
def lpOf (p : Int) : Int := p * 108853 / 32768
/-- 10 to the p, times 2 to the 127 - lpOf p, as a fraction. -/
def numOf (p : Int) : Nat := 10 ^ p.toNat * 2 ^ (127 - lpOf p).toNat
def denOf (p : Int) : Nat := 10 ^ (-p).toNat * 2 ^ (lpOf p - 127).toNat
theorem den_pos (p : Int) : 0 < denOf p := Nat.mul_pos (Nat.pow_pos (by decide)) (Nat.pow_pos (by decide))
/-- Is a row the power of ten, rounded up? -/
def rowOK (p : Int) (hi lo : Nat) : Bool :=
  force (numOf p) fun num => force (denOf p) fun den => force (hi * 18446744073709551616 - lo) fun pm =>
    Nat.ble 9223372036854775808 hi && Nat.blt hi 18446744073709551616 && Nat.blt lo 18446744073709551616 && Nat.ble num (pm * den) && Nat.blt (pm * den) (num + den)
/-- Is it sharp for all multiples of a step, up to the Y-th? -/
def pairOK (p : Int) (hi lo s step Y : Nat) : Bool :=
  force (numOf p) fun num => force (denOf p) fun den => force (hi * 18446744073709551616 - lo) fun pm => force (2 ^ (128 + s)) fun D => force (Nat.gcd num (den * D)) fun g =>
    Nat.ble (den * 36893488147419103232) g ||
      (Nat.ble (18446744073709551616 * Nat.gcd pm D) D && force (step * pm % D) fun a => chk 400 a D 1 18446744073709551616 Y && chk 400 a D (D - 18446744073709551615) (D - 1) Y)
/-- A fraction's whole part, with a mark in the last bit where something is left. -/
def unr (N K : Nat) : Nat := if N % K = 0 then N / K else N / K ||| 1

theorem core_inexact {x N den D A : Nat} (hden : 0 < den) (h1 : N ≤ A * den) (h2 : A * den < N + x * den) (hx : x < A % D) (hD : 0 < D) : N / (den * D) = A / D ∧ N % (den * D) ≠ 0 := by
  have a := Nat.div_add_mod A D
  have b := Nat.mod_lt A hD
  generalize A / D = h at a ⊢
  generalize A % D = R at a b hx
  have e1 : A * den = den * D * h + R * den := by
    rw [← a, Nat.add_mul]
    congr 1
    rw [Nat.mul_comm (D * h) den, ← Nat.mul_assoc]
  have e2 : x * den < R * den := Nat.mul_lt_mul_of_pos_right hx hden
  have e3 : R * den < den * D := by
    rw [Nat.mul_comm den D]
    exact Nat.mul_lt_mul_of_pos_right b hden
  generalize A * den = P at *
  generalize R * den = Q at *
  generalize x * den = X at *
  generalize hK : den * D = K at *
  generalize hT : K * h = T at *
  obtain ⟨d1, d2⟩ := dm (A := N) (D := K) (h := h) (R := N - T) (by omega) (by omega)
  exact ⟨d1, by omega⟩
theorem core_exact {x N den D A : Nat} (hden : 0 < den) (h1 : N ≤ A * den) (h2 : A * den < N + x * den) (hx : x < 18446744073709551616) (hD : 18446744073709551616 ≤ D) (h0 : N % (den * D) = 0) : N / (den * D) = A / D ∧ A % D < 18446744073709551616 := by
  have a := Nat.div_add_mod N (den * D)
  rw [h0, Nat.add_zero] at a
  generalize N / (den * D) = h at a ⊢
  have e1 : D * h * den = N := by rw [← a, Nat.mul_comm (D * h) den, ← Nat.mul_assoc]
  have e2 : D * h ≤ A := Nat.le_of_mul_le_mul_right (by rw [e1]; exact h1) hden
  have e3 : A < D * h + x := Nat.lt_of_mul_lt_mul_right (a := den) (by rw [Nat.add_mul, e1]; exact h2)
  obtain ⟨d1, d2⟩ := dm (A := A) (D := D) (h := h) (R := A - D * h) (by omega) (by omega)
  exact ⟨d1.symm, by omega⟩
theorem core_gcd {x N den D A g : Nat} (hden : 0 < den) (h1 : N ≤ A * den) (h2 : A * den < N + x * den) (hx : x < 18446744073709551616) (hD : 0 < D) (hg1 : g ∣ N) (hg2 : g ∣ den * D) (hg : den * 36893488147419103232 ≤ g) (h0 : N % (den * D) ≠ 0) :
    18446744073709551616 < A % D ∧ A % D ≤ D - 18446744073709551616 := by
  have hr : g ∣ N % (den * D) := (Nat.dvd_mod_iff hg2).2 hg1
  have hr1 : g ≤ N % (den * D) := Nat.le_of_dvd (by omega) hr
  have hlt := Nat.mod_lt N (Nat.mul_pos hden hD)
  have hr2 : g ≤ den * D - N % (den * D) := Nat.le_of_dvd (by omega) (Nat.dvd_sub hg2 hr)
  have a := Nat.div_add_mod N (den * D)
  generalize N / (den * D) = h at a
  generalize N % (den * D) = r at *
  have ex : x * den ≤ den * 18446744073709551616 := by rw [Nat.mul_comm x den]; exact Nat.mul_le_mul_left den (by omega)
  have eDh : D * h * den = den * D * h := by rw [Nat.mul_comm (D * h) den, ← Nat.mul_assoc]
  have e2 : D * h ≤ A := Nat.le_of_mul_le_mul_right (by rw [eDh]; omega) hden
  obtain ⟨R, rfl⟩ := Nat.exists_eq_add_of_le e2
  rw [Nat.add_mul, eDh] at h1 h2
  have g1 : den * 18446744073709551616 < R * den := by omega
  have g2 : R * den ≤ den * D - den * 18446744073709551616 := by omega
  have r1 : 18446744073709551616 < R := Nat.lt_of_mul_lt_mul_right (a := den) (by rw [Nat.mul_comm _ den]; exact g1)
  have r2 : R ≤ D - 18446744073709551616 := Nat.le_of_mul_le_mul_right (c := den) (by rw [Nat.mul_comm (D - 18446744073709551616) den, Nat.mul_sub]; exact g2) hden
  obtain ⟨d1, d2⟩ := dm (A := D * h + R) (D := D) (h := h) (R := R) rfl (by omega)
  rw [d2]
  exact ⟨r1, r2⟩

theorem pair_sharp {p : Int} {hi lo s step Y y : Nat} (hr : rowOK p hi lo = true) (hp : pairOK p hi lo s step Y = true) (hy : y ≤ Y) (hx : step * y < 18446744073709551616) (hx2 : 2 ≤ step * y) :
    uscaleN (step * y) hi lo s = unr (step * y * numOf p) (denOf p * 2 ^ (128 + s)) := by
  have hden := den_pos p
  simp only [rowOK, pairOK, force_eq, Bool.and_eq_true, Bool.or_eq_true, Nat.ble_eq, Nat.blt_eq] at hr hp
  obtain ⟨⟨⟨⟨r1, r2⟩, r3⟩, r4⟩, r5⟩ := hr
  have hDpos : 340282366920938463463374607431768211456 ≤ 2 ^ (128 + s) := by
    rw [Nat.pow_add]
    exact Nat.le_mul_of_pos_right _ (Nat.two_pow_pos s)
  generalize numOf p = num at *
  generalize denOf p = den at *
  generalize hpm : hi * 18446744073709551616 - lo = pm at *
  have hpm2 : pm + lo = hi * 18446744073709551616 := by omega
  have hA : step * y * pm + step * y * lo = step * y * hi * 18446744073709551616 := by rw [← Nat.mul_add, hpm2, Nat.mul_assoc (step * y) hi]
  have hH : 18446744073709551616 ≤ step * y * hi := by
    have := Nat.mul_le_mul hx2 r1
    omega
  have h1 : step * y * num ≤ step * y * pm * den := by rw [Nat.mul_assoc (step * y) pm]; exact Nat.mul_le_mul_left _ r4
  have h2 : step * y * pm * den < step * y * num + step * y * den := by
    rw [Nat.mul_assoc (step * y) pm, ← Nat.mul_add]
    exact Nat.mul_lt_mul_of_pos_left r5 (by omega)
  have key : (18446744073709551616 < step * y * pm % 2 ^ (128 + s) ∧ step * y * pm % 2 ^ (128 + s) ≤ 2 ^ (128 + s) - 18446744073709551616) ∨ step * y * num % (den * 2 ^ (128 + s)) = 0 := by
    rcases hp with hp | ⟨hz, hc1, hc2⟩
    · by_cases h0 : step * y * num % (den * 2 ^ (128 + s)) = 0
      · exact .inr h0
      · refine .inl (core_gcd hden h1 h2 hx (by omega) ?_ (Nat.gcd_dvd_right num (den * 2 ^ (128 + s))) hp h0)
        exact Nat.dvd_trans (Nat.gcd_dvd_left num (den * 2 ^ (128 + s))) (Nat.dvd_mul_left num (step * y))
    · left
      have e : step * pm % 2 ^ (128 + s) * y % 2 ^ (128 + s) = step * y * pm % 2 ^ (128 + s) := by
        rw [Nat.mod_mul_mod, Nat.mul_right_comm]
      have c1 := chk_sound _ _ _ _ _ _ hc1 (by decide) (by decide) (by omega) (Nat.mod_lt _ (by omega)) y hy
      have c2 := chk_sound _ _ _ _ _ _ hc2 (by omega) (by omega) (by omega) (Nat.mod_lt _ (by omega)) y hy
      rw [e] at c1 c2
      have hlt := Nat.mod_lt (step * y * pm) (show 0 < 2 ^ (128 + s) by omega)
      have hne : step * y * pm % 2 ^ (128 + s) ≠ 0 := by
        intro h0
        have hd : 2 ^ (128 + s) ∣ step * y * pm := Nat.dvd_of_mod_eq_zero h0
        have hgp : 0 < Nat.gcd pm (2 ^ (128 + s)) := Nat.gcd_pos_of_pos_right _ (by omega)
        have hd2 : 2 ^ (128 + s) / Nat.gcd pm (2 ^ (128 + s)) ∣ step * y := by
          have hco : Nat.Coprime (2 ^ (128 + s) / Nat.gcd pm (2 ^ (128 + s))) (pm / Nat.gcd pm (2 ^ (128 + s))) := by
            rw [Nat.coprime_comm]
            exact Nat.coprime_div_gcd_div_gcd hgp
          refine hco.dvd_of_dvd_mul_right ?_
          have h3 : step * y * pm = step * y * (pm / Nat.gcd pm (2 ^ (128 + s))) * Nat.gcd pm (2 ^ (128 + s)) := by
            rw [Nat.mul_assoc (step * y) (pm / _), Nat.div_mul_cancel (Nat.gcd_dvd_left _ _)]
          rw [h3] at hd
          refine Nat.dvd_of_mul_dvd_mul_right hgp ?_
          rw [Nat.div_mul_cancel (Nat.gcd_dvd_right _ _)]
          exact hd
        have hle := Nat.le_of_dvd (by omega) hd2
        have h4 : 18446744073709551616 ≤ 2 ^ (128 + s) / Nat.gcd pm (2 ^ (128 + s)) := (Nat.le_div_iff_mul_le hgp).2 hz
        omega
      omega
  unfold unr
  by_cases h0 : step * y * num % (den * 2 ^ (128 + s)) = 0
  · obtain ⟨d1, d2⟩ := core_exact hden h1 h2 hx (by omega) h0
    rw [if_pos h0, d1]
    exact uscale_exact hx r3 hA hH d2
  · rw [if_neg h0]
    obtain ⟨k1, k2⟩ := key.resolve_right h0
    obtain ⟨d1, -⟩ := core_inexact hden h1 h2 (show step * y < step * y * pm % 2 ^ (128 + s) by omega) (by omega)
    rw [d1]
    exact uscale_window hx r3 hA hH k1 k2
end Us
end Go.Proofs.YtelgobelbeabaaaGreatDoor
namespace Go.Proofs.YtelgobelbeabaaaGreatDoor
namespace Us

theorem or_one (n : Nat) : n ||| 1 = n + 1 - n % 2 := by
  have h : n % 2 = 0 ∨ n % 2 = 1 := by omega
  have e : (n ||| 1) / 2 = n / 2 := by
    rw [Nat.or_div_two]
    simp
  have f : (n ||| 1) % 2 = 1 := by
    rw [Nat.or_mod_two_eq_one]
    right; rfl
  omega
theorem unr_cases (N K : Nat) (hK : 0 < K) : ∃ k t r, N = 4 * (K * k) + K * t + r ∧ t < 4 ∧ r < K ∧ ((r = 0 ∧ unr N K = 4 * k + t) ∨ (0 < r ∧ unr N K = 4 * k + (t + 1 - t % 2))) := by
  have a := Nat.div_add_mod N K
  have b := Nat.mod_lt N hK
  have c := Nat.div_add_mod (N / K) 4
  have d := Nat.mod_lt (N / K) (show 0 < 4 by decide)
  refine ⟨N / K / 4, N / K % 4, N % K, ?_, d, b, ?_⟩
  · have e : K * (N / K) = 4 * (K * (N / K / 4)) + K * (N / K % 4) := by
      conv => lhs; rw [← c]
      rw [Nat.mul_add, Nat.mul_left_comm]
    omega
  · unfold unr
    by_cases h : N % K = 0
    · rw [if_pos h]
      exact .inl ⟨h, c.symm⟩
    · rw [if_neg h, or_one]
      exact .inr ⟨by omega, by omega⟩
section
variable {N K : Nat} (hK : 0 < K)
include hK
theorem unr_ceil : 4 * (K * ((unr N K + 3) / 4)) < N + 4 * K ∧ N ≤ 4 * (K * ((unr N K + 3) / 4)) := by
  obtain ⟨k, t, r, h1, h2, h3, h4⟩ := unr_cases N K hK
  have e0 : ∀ j, K * (k + j) = K * k + K * j := fun j => Nat.mul_add K k j
  rcases h4 with ⟨h4, h5⟩ | ⟨h4, h5⟩ <;> (have ht : t = 0 ∨ t = 1 ∨ t = 2 ∨ t = 3 := by omega) <;> rcases ht with rfl | rfl | rfl | rfl
  all_goals (have hq : ∃ j, (unr N K + 3) / 4 = k + j ∧ j ≤ 1 := ⟨(unr N K + 3) / 4 - k, by omega, by omega⟩; obtain ⟨j, hq, hj⟩ := hq; have hj2 : j = 0 ∨ j = 1 := (by omega); rw [hq, e0]; rcases hj2 with rfl | rfl <;> simp only [Nat.mul_zero, Nat.mul_one] at * <;> omega)
theorem unr_ceil1 : 4 * (K * ((unr N K + 1 + 3) / 4)) ≤ N + 4 * K ∧ N < 4 * (K * ((unr N K + 1 + 3) / 4)) := by
  obtain ⟨k, t, r, h1, h2, h3, h4⟩ := unr_cases N K hK
  have e0 : ∀ j, K * (k + j) = K * k + K * j := fun j => Nat.mul_add K k j
  rcases h4 with ⟨h4, h5⟩ | ⟨h4, h5⟩ <;> (have ht : t = 0 ∨ t = 1 ∨ t = 2 ∨ t = 3 := by omega) <;> rcases ht with rfl | rfl | rfl | rfl
  all_goals (have hq : (unr N K + 1 + 3) / 4 = k + 1 := (by omega); rw [hq, e0]; simp only [Nat.mul_zero, Nat.mul_one] at *; omega)
theorem unr_floor : 4 * (K * (unr N K / 4)) ≤ N ∧ N < 4 * (K * (unr N K / 4)) + 4 * K := by
  obtain ⟨k, t, r, h1, h2, h3, h4⟩ := unr_cases N K hK
  rcases h4 with ⟨h4, h5⟩ | ⟨h4, h5⟩ <;> (have ht : t = 0 ∨ t = 1 ∨ t = 2 ∨ t = 3 := by omega) <;> rcases ht with rfl | rfl | rfl | rfl
  all_goals (have hq : unr N K / 4 = k := (by omega); rw [hq]; (try simp only [Nat.mul_zero, Nat.mul_one] at *); omega)
theorem unr_floor1 (hu : 0 < unr N K) : 4 * (K * ((unr N K - 1) / 4)) < N ∧ N ≤ 4 * (K * ((unr N K - 1) / 4)) + 4 * K := by
  obtain ⟨k, t, r, h1, h2, h3, h4⟩ := unr_cases N K hK
  rcases h4 with ⟨h4, h5⟩ | ⟨h4, h5⟩ <;> (have ht : t = 0 ∨ t = 1 ∨ t = 2 ∨ t = 3 := by omega) <;> rcases ht with rfl | rfl | rfl | rfl
  · have hk : ∃ i, k = i + 1 := ⟨k - 1, by omega⟩
    obtain ⟨i, rfl⟩ := hk
    have hq : (unr N K - 1) / 4 = i := by omega
    rw [hq]
    simp only [Nat.mul_add, Nat.mul_zero, Nat.mul_one] at *
    omega
  all_goals (have hq : (unr N K - 1) / 4 = k := (by omega); rw [hq]; (try simp only [Nat.mul_zero, Nat.mul_one] at *); omega)
/-- To the nearest; between two the even one. -/
theorem unr_round : (4 * (K * ((unr N K + 1 + unr N K / 4 % 2) / 4)) ≤ N + 2 * K ∧ N ≤ 4 * (K * ((unr N K + 1 + unr N K / 4 % 2) / 4)) + 2 * K) ∧
    (4 * (K * ((unr N K + 1 + unr N K / 4 % 2) / 4)) = N + 2 * K ∨ N = 4 * (K * ((unr N K + 1 + unr N K / 4 % 2) / 4)) + 2 * K → (unr N K + 1 + unr N K / 4 % 2) / 4 % 2 = 0) := by
  obtain ⟨k, t, r, h1, h2, h3, h4⟩ := unr_cases N K hK
  have e0 : ∀ j, K * (k + j) = K * k + K * j := fun j => Nat.mul_add K k j
  rcases h4 with ⟨h4, h5⟩ | ⟨h4, h5⟩ <;> (have ht : t = 0 ∨ t = 1 ∨ t = 2 ∨ t = 3 := by omega) <;> rcases ht with rfl | rfl | rfl | rfl
  all_goals (have hk4 : unr N K / 4 = k := (by omega); have hp : k % 2 = 0 ∨ k % 2 = 1 := (by omega); rw [hk4]; generalize unr N K = u at *; have hq : ∃ j, (u + 1 + k % 2) / 4 = k + j ∧ j ≤ 1 := ⟨(u + 1 + k % 2) / 4 - k, by omega, by omega⟩; obtain ⟨j, hq, hj⟩ := hq; have hj2 : j = 0 ∨ j = 1 := (by omega); rw [hq, e0]; rcases hj2 with rfl | rfl <;> simp only [Nat.mul_zero, Nat.mul_one, Nat.add_zero] at * <;> omega)
end
end Us
end Go.Proofs.YtelgobelbeabaaaGreatDoor
namespace Go.Proofs.YtelgobelbeabaaaGreatDoor
namespace Us

/-- An interval from a to b round x, in units U: its least and its greatest whole number, and the whole number nearest to x. -/
structure Core (a x b U : Nat) (odd : Bool) (dmin dmax d3 : Nat) : Prop where
  pos : 0 < U
  lt1 : a < x
  lt2 : x < b
  nar : b < a + 10 * U
  min1 : if odd then U * dmin ≤ a + U else U * dmin < a + U
  min2 : if odd then a < U * dmin else a ≤ U * dmin
  max1 : if odd then U * dmax < b else U * dmax ≤ b
  max2 : if odd then b ≤ U * dmax + U else b < U * dmax + U
  near1 : 2 * (U * d3) ≤ 2 * x + U
  near2 : 2 * x ≤ 2 * (U * d3) + U
  even : 2 * (U * d3) = 2 * x + U ∨ 2 * x = 2 * (U * d3) + U → d3 % 2 = 0
  shape : 2 * x = a + b ∨ (odd = false ∧ 3 * x = 2 * a + b)
  wid : a + U < b ∨ (b = a + U ∧ ∃ n, x = U * n)
def Inn (a b U : Nat) (odd : Bool) (c : Nat) : Prop := if odd then a < U * c ∧ U * c < b else a ≤ U * c ∧ U * c ≤ b
/-- How far two numbers are apart. -/
def dst (u v : Nat) : Nat := (u - v) + (v - u)
section
variable {a x b U dmin dmax d3 : Nat} {odd : Bool} (H : Core a x b U odd dmin dmax d3)
include H
omit H in
theorem Core.mul_lt {i j : Nat} (h : U * i < U * j + U) : i ≤ j := by
  rcases Nat.lt_or_ge j i with h1 | h1
  · have := Nat.mul_le_mul_left U (show j + 1 ≤ i from h1)
    rw [Nat.mul_add, Nat.mul_one] at this
    omega
  · exact h1
theorem Core.inn_iff (c : Nat) : Inn a b U odd c ↔ dmin ≤ c ∧ c ≤ dmax := by
  have m1 := H.min1; have m2 := H.min2; have m3 := H.max1; have m4 := H.max2
  unfold Inn
  cases odd <;> simp only [if_true, if_false, Bool.false_eq_true] at *
  all_goals
    constructor
    · rintro ⟨h1, h2⟩
      exact ⟨Core.mul_lt (U := U) (by omega), Core.mul_lt (U := U) (by omega)⟩
    · rintro ⟨h1, h2⟩
      have k1 := Nat.mul_le_mul_left U h1
      have k2 := Nat.mul_le_mul_left U h2
      omega
theorem Core.le : dmin ≤ dmax := by
  have m1 := H.min1; have m2 := H.min2; have m3 := H.max1; have m4 := H.max2; have l1 := H.lt1; have l2 := H.lt2; have hp := H.pos
  rcases Nat.lt_or_ge dmax dmin with h | h
  · have k := Nat.mul_le_mul_left U (show dmax + 1 ≤ dmin from h)
    rw [Nat.mul_add, Nat.mul_one] at k
    cases odd <;> simp only [if_true, if_false, Bool.false_eq_true] at *
    · rcases H.wid with hw | ⟨hw, -⟩ <;> omega
    · rcases H.wid with hw | ⟨hw, n, rfl⟩
      · omega
      · have e : U * dmax = a := by omega
        have g1 : dmax + 1 ≤ n := by
          rcases Nat.lt_or_ge dmax n with h1 | h1
          · exact h1
          · have := Nat.mul_le_mul_left U h1; omega
        have g2 := Nat.mul_le_mul_left U g1
        rw [Nat.mul_add, Nat.mul_one] at g2
        omega
  · exact h
theorem Core.near_in (h : dmin < dmax) : dmin ≤ d3 ∧ d3 ≤ dmax := by
  have m1 := H.min1; have m2 := H.min2; have m3 := H.max1; have m4 := H.max2; have l1 := H.lt1; have l2 := H.lt2; have hp := H.pos; have n1 := H.near1; have n2 := H.near2
  have par : ∀ n, 2 * (U * n) = 2 * (U * d3) + U → False := fun n e => by
    have e1 : U * (2 * n) = U * (2 * d3 + 1) := by rw [Nat.mul_left_comm, e, Nat.mul_add, Nat.mul_left_comm, Nat.mul_one]
    have := Nat.eq_of_mul_eq_mul_left hp e1
    omega
  have par2 : ∀ n, 2 * (U * n) + U = 2 * (U * d3) → False := fun n e => by
    have e1 : U * (2 * n + 1) = U * (2 * d3) := by rw [Nat.mul_add, Nat.mul_left_comm, Nat.mul_one, e, Nat.mul_left_comm]
    have := Nat.eq_of_mul_eq_mul_left hp e1
    omega
  constructor
  · rcases Nat.lt_or_ge d3 dmin with g | g
    · exfalso
      have k := Nat.mul_le_mul_left U (show d3 + 1 ≤ dmin from g)
      have k2 := Nat.mul_le_mul_left U (show d3 + 1 + 1 ≤ dmax by omega)
      simp only [Nat.mul_add, Nat.mul_one] at k k2
      cases odd <;> simp only [if_true, if_false, Bool.false_eq_true] at *
      · rcases H.shape with hs | ⟨-, hs⟩
        · rcases H.wid with hw | ⟨hw, -⟩ <;> omega
        · omega
      · rcases H.shape with hs | ⟨h0, -⟩
        · rcases H.wid with hw | ⟨hw, n, rfl⟩
          · omega
          · exact par n (by omega)
        · cases h0
    · exact g
  · rcases Nat.lt_or_ge dmax d3 with g | g
    · exfalso
      have k := Nat.mul_le_mul_left U (show dmax + 1 ≤ d3 from g)
      simp only [Nat.mul_add, Nat.mul_one] at k
      cases odd <;> simp only [if_true, if_false, Bool.false_eq_true] at *
      · rcases H.shape with hs | ⟨-, hs⟩
        · rcases H.wid with hw | ⟨hw, -⟩ <;> omega
        · rcases H.wid with hw | ⟨hw, -⟩ <;> omega
      · rcases H.shape with hs | ⟨h0, -⟩
        · rcases H.wid with hw | ⟨hw, n, rfl⟩
          · omega
          · exact par2 n (by omega)
        · cases h0
    · exact g
/-- The one that is taken, where none within is a multiple of ten. -/
theorem Core.unit_in : dmin ≤ (if dmin < dmax then d3 else dmin) ∧ (if dmin < dmax then d3 else dmin) ≤ dmax := by
  split
  · exact H.near_in (by assumption)
  · exact ⟨Nat.le_refl _, H.le⟩
theorem Core.unit_near (c : Nat) (h1 : dmin ≤ c) (h2 : c ≤ dmax) : dst (U * (if dmin < dmax then d3 else dmin)) x ≤ dst (U * c) x := by
  have n1 := H.near1; have n2 := H.near2
  unfold dst
  split
  · rcases Nat.lt_trichotomy c d3 with g | g | g
    · have k := Nat.mul_le_mul_left U (show c + 1 ≤ d3 from g)
      rw [Nat.mul_add, Nat.mul_one] at k
      omega
    · subst g; omega
    · have k := Nat.mul_le_mul_left U (show d3 + 1 ≤ c from g)
      rw [Nat.mul_add, Nat.mul_one] at k
      omega
  · have : c = dmin := by omega
    subst this; omega
theorem Core.unit_tie (c : Nat) (h1 : dmin ≤ c) (h2 : c ≤ dmax) (hne : c ≠ (if dmin < dmax then d3 else dmin)) (he : dst (U * (if dmin < dmax then d3 else dmin)) x = dst (U * c) x) : (if dmin < dmax then d3 else dmin) % 2 = 0 := by
  have n1 := H.near1; have n2 := H.near2; have hp := H.pos
  unfold dst at he
  split at he <;> rename_i hlt
  · rw [if_pos hlt] at hne ⊢
    apply H.even
    rcases Nat.lt_trichotomy c d3 with g | g | g
    · have k := Nat.mul_le_mul_left U (show c + 1 ≤ d3 from g)
      rw [Nat.mul_add, Nat.mul_one] at k
      omega
    · exact absurd g hne
    · have k := Nat.mul_le_mul_left U (show d3 + 1 ≤ c from g)
      rw [Nat.mul_add, Nat.mul_one] at k
      omega
  · rw [if_neg hlt] at hne
    omega
/-- Of multiples of ten there is at most one within. -/
theorem Core.ten_one {c d : Nat} (h1 : dmin ≤ 10 * c) (h2 : 10 * c ≤ dmax) (h3 : dmin ≤ 10 * d) (h4 : 10 * d ≤ dmax) : c = d := by
  have m1 := H.min1; have m2 := H.min2; have m3 := H.max1; have m4 := H.max2; have hn := H.nar
  have i1 := (H.inn_iff (10 * c)).2 ⟨h1, h2⟩
  have i2 := (H.inn_iff (10 * d)).2 ⟨h3, h4⟩
  unfold Inn at i1 i2
  have e : ∀ k, U * (10 * k) = 10 * (U * k) := fun k => Nat.mul_left_comm U 10 k
  rw [e] at i1 i2
  have key : ∀ c d, c < d → 10 * (U * c) < b → a ≤ 10 * (U * c) → 10 * (U * d) ≤ b → False := fun c d hcd _ g2 g3 => by
    have k := Nat.mul_le_mul_left U (show c + 1 ≤ d from hcd)
    rw [Nat.mul_add, Nat.mul_one] at k
    omega
  have hp := H.pos
  rcases Nat.lt_trichotomy c d with g | g | g
  · have k := Nat.mul_le_mul_left U (show c + 1 ≤ d from g)
    rw [Nat.mul_add, Nat.mul_one] at k
    cases odd <;> simp only [if_true, if_false, Bool.false_eq_true] at * <;> omega
  · exact g
  · have k := Nat.mul_le_mul_left U (show d + 1 ≤ c from g)
    rw [Nat.mul_add, Nat.mul_one] at k
    cases odd <;> simp only [if_true, if_false, Bool.false_eq_true] at * <;> omega
end
end Us
end Go.Proofs.YtelgobelbeabaaaGreatDoor
namespace Go.Proofs.YtelgobelbeabaaaGreatDoor
namespace Us

/-- 2 to the 1074. -/
def tiny : Nat := (2 ^ 179) ^ 6
theorem tiny_pow {t : Nat} (h : t = 1074) : tiny = 2 ^ t := by
  unfold tiny
  rw [← Nat.pow_mul]
  congr 1
  omega
theorem tiny_pos : 0 < tiny := Nat.pow_pos (Nat.pow_pos (by decide))
/-- A rung's number, in units of 2 to the -1074. -/
def val (r : Nat) : Nat := if r < 4503599627370496 then r else (4503599627370496 + r % 4503599627370496) * 2 ^ (r / 4503599627370496 - 1)
def ulp (r : Nat) : Nat := 2 ^ (r / 4503599627370496 - 1)
theorem val_succ (r : Nat) : val (r + 1) = val r + ulp r := by
  unfold val ulp
  by_cases h : r + 1 < 4503599627370496
  · rw [if_pos h, if_pos (by omega), show r / 4503599627370496 - 1 = 0 by omega]
  · by_cases h2 : r < 4503599627370496
    · have : r = 4503599627370495 := by omega
      subst this
      decide
    · rw [if_neg h, if_neg h2]
      by_cases h3 : r % 4503599627370496 = 4503599627370495
      · have e1 : (r + 1) % 4503599627370496 = 0 := by omega
        have e2 : (r + 1) / 4503599627370496 - 1 = (r / 4503599627370496 - 1) + 1 := by omega
        rw [e1, e2, h3, Nat.pow_succ]
        generalize 2 ^ (r / 4503599627370496 - 1) = P
        omega
      · have e1 : (r + 1) % 4503599627370496 = r % 4503599627370496 + 1 := by omega
        have e2 : (r + 1) / 4503599627370496 = r / 4503599627370496 := by omega
        rw [e1, e2, ← Nat.add_assoc, Nat.add_mul, Nat.one_mul]
theorem ulp_pos (r : Nat) : 0 < ulp r := Nat.pow_pos (by decide)
def low2 (r : Nat) : Nat := val (r - 1) + val r
def high2 (r : Nat) : Nat := val r + val (r + 1)
theorem low_lt (r : Nat) (h : 1 ≤ r) : low2 r < 2 * val r := by
  have e := val_succ (r - 1)
  rw [Nat.sub_add_cancel h] at e
  have := ulp_pos (r - 1)
  unfold low2
  omega
theorem lt_high (r : Nat) : 2 * val r < high2 r := by
  have e := val_succ r
  have := ulp_pos r
  unfold high2
  omega
def hiP (j : Int) : Nat := 10 ^ j.toNat
def loQ (j : Int) : Nat := 10 ^ (-j).toNat
theorem hiP_pos (j : Int) : 0 < hiP j := Nat.pow_pos (by decide)
theorem loQ_pos (j : Int) : 0 < loQ j := Nat.pow_pos (by decide)
theorem pq_succ (j : Int) : (hiP (j + 1) = 10 * hiP j ∧ loQ (j + 1) = loQ j) ∨ (hiP (j + 1) = hiP j ∧ loQ j = 10 * loQ (j + 1)) := by
  unfold hiP loQ
  by_cases h : 0 ≤ j
  · left
    rw [show (j + 1).toNat = j.toNat + 1 by omega, Nat.pow_succ, show (-(j + 1)).toNat = 0 by omega, show (-j).toNat = 0 by omega]
    exact ⟨Nat.mul_comm _ _, rfl⟩
  · right
    rw [show (j + 1).toNat = 0 by omega, show j.toNat = 0 by omega, show (-j).toNat = (-(j + 1)).toNat + 1 by omega, Nat.pow_succ]
    exact ⟨rfl, Nat.mul_comm _ _⟩
/-- Twice a decimal, in units, times what makes it whole. -/
def dv (c : Nat) (j : Int) : Nat := 2 * (c * hiP j * tiny)
/-- Does a decimal round to a rung? -/
def In (r c : Nat) (j : Int) : Prop := if r % 2 = 0 then low2 r * loQ j ≤ dv c j ∧ dv c j ≤ high2 r * loQ j else low2 r * loQ j < dv c j ∧ dv c j < high2 r * loQ j
theorem dv_ten (c : Nat) (j : Int) : (dv (10 * c) j = dv c (j + 1) ∧ loQ (j + 1) = loQ j) ∨ (dv (10 * c) j = 10 * dv c (j + 1) ∧ loQ j = 10 * loQ (j + 1)) := by
  unfold dv
  rcases pq_succ j with ⟨h1, h2⟩ | ⟨h1, h2⟩
  · left
    rw [h1]
    exact ⟨by rw [Nat.mul_comm 10 c, Nat.mul_assoc c 10], h2⟩
  · right
    rw [h1]
    exact ⟨by rw [Nat.mul_assoc 10 c, Nat.mul_assoc 10, Nat.mul_left_comm 2 10], h2⟩
theorem in_ten (r c : Nat) (j : Int) : In r (10 * c) j ↔ In r c (j + 1) := by
  have e : ∀ a b : Nat, a * (10 * b) = 10 * (a * b) := fun a b => Nat.mul_left_comm a 10 b
  unfold In
  rcases dv_ten c j with ⟨h1, h2⟩ | ⟨h1, h2⟩
  · rw [h1, h2]
  · rw [h1, h2, e, e]
    split <;> omega
theorem in_pow (r c : Nat) (j : Int) (k : Nat) : In r (c * 10 ^ k) j ↔ In r c (j + k) := by
  induction k generalizing c j with
  | zero => simp
  | succ k ih =>
    rw [Nat.pow_succ, ← Nat.mul_assoc, Nat.mul_comm _ 10, in_ten, ih]
    rw [show j + 1 + (k : Int) = j + ((k + 1 : Nat) : Int) by omega]
theorem dv_succ (c : Nat) (j : Int) : dv (c + 1) j = dv c j + dv 1 j := by
  unfold dv
  rw [Nat.add_mul, Nat.add_mul, Nat.mul_add]
theorem dv_le {c d : Nat} (h : c ≤ d) (j : Int) : dv c j ≤ dv d j := Nat.mul_le_mul_left 2 (Nat.mul_le_mul_right _ (Nat.mul_le_mul_right _ h))
theorem dv1_pos (j : Int) : 0 < dv 1 j := Nat.mul_pos (by decide) (Nat.mul_pos (Nat.mul_pos (by decide) (hiP_pos j)) tiny_pos)
/-- The shortest of the decimals that round to a rung: of these with the greatest exponent the one that is nearest, of two as near the even one. -/
structure Short (r c : Nat) (j : Int) : Prop where
  inn : In r c j
  top : ∀ c' j', In r c' j' → j' ≤ j
  near : ∀ c', In r c' j → dst (dv c j) (2 * val r * loQ j) ≤ dst (dv c' j) (2 * val r * loQ j)
  tie : ∀ c', In r c' j → c' ≠ c → dst (dv c j) (2 * val r * loQ j) = dst (dv c' j) (2 * val r * loQ j) → c % 2 = 0
theorem Short.one {r c c' : Nat} {j j' : Int} (h : Short r c j) (h' : Short r c' j') : c = c' ∧ j = j' := by
  have e : j = j' := Int.le_antisymm (h'.top _ _ h.inn) (h.top _ _ h'.inn)
  subst e
  refine ⟨?_, rfl⟩
  have key : ∀ c c', Short r c j → Short r c' j → c < c' → False := by
    intro c c' h h' hlt
    have n1 := h.near c' h'.inn
    have n2 := h'.near c h.inn
    have t1 := h.tie c' h'.inn (by omega) (by omega)
    have t2 := h'.tie c h.inn (by omega) (by omega)
    have hi : In r (c + 1) j := by
      have i1 := h.inn
      have i2 := h'.inn
      have d1 := dv_le (show c ≤ c + 1 by omega) j
      have d2 := dv_le (show c + 1 ≤ c' by omega) j
      unfold In at *
      split at i1 <;> rename_i hr
      · rw [if_pos hr] at i2 ⊢
        omega
      · rw [if_neg hr] at i2 ⊢
        omega
    have n3 := h.near (c + 1) hi
    have d1 := dv_succ c j
    have d2 := dv_le (show c + 1 + 1 ≤ c' by omega) j
    rw [dv_succ (c + 1) j] at d2
    have hp := dv1_pos j
    unfold dst at *
    omega
  rcases Nat.lt_trichotomy c c' with g | g | g
  · exact (key c c' h h' g).elim
  · exact g
  · exact (key c' c h' h g).elim
theorem Short.odd10 {r c : Nat} {j : Int} (h : Short r c j) : c % 10 ≠ 0 := by
  intro h0
  have e : c = 10 * (c / 10) := by omega
  have hi := h.inn
  rw [e, in_ten] at hi
  have := h.top _ _ hi
  omega
theorem Short.pos {r c : Nat} {j : Int} (h : Short r c j) : 0 < c := by
  have := h.odd10
  omega
end Us
end Go.Proofs.YtelgobelbeabaaaGreatDoor
namespace Go.Proofs.YtelgobelbeabaaaGreatDoor
namespace Us

/-- The rung of infinity. -/
def infR : Nat := 9218868437227405312
/-- Does N / Q, in units of 2 to the -1074, round to a rung? -/
def Rnd (r N Q : Nat) : Prop := r ≤ infR ∧ (if r % 2 = 0 then low2 r * Q ≤ 2 * N ∧ (r < infR → 2 * N ≤ high2 r * Q) else low2 r * Q < 2 * N ∧ 2 * N < high2 r * Q)
theorem val_lt_succ (r : Nat) : val r < val (r + 1) := by
  rw [val_succ]
  have := ulp_pos r
  omega
theorem val_mono {a b : Nat} (h : a ≤ b) : val a ≤ val b := by
  induction h with
  | refl => exact Nat.le_refl _
  | step _ ih => exact Nat.le_trans ih (Nat.le_of_lt (val_lt_succ _))
theorem val_lt {a b : Nat} (h : a < b) : val a < val b := Nat.lt_of_lt_of_le (val_lt_succ a) (val_mono h)
theorem high_low (r : Nat) : high2 r = low2 (r + 1) := by
  unfold high2 low2
  rw [Nat.add_sub_cancel]
theorem low_mono {a b : Nat} (h : a ≤ b) : low2 a ≤ low2 b := Nat.add_le_add (val_mono (by omega)) (val_mono h)
theorem low_strict {a b : Nat} (h : a < b) : low2 a < low2 b := Nat.add_lt_add_of_le_of_lt (val_mono (by omega)) (val_lt h)
theorem Rnd.one {r r' N Q : Nat} (hQ : 0 < Q) (h : Rnd r N Q) (h' : Rnd r' N Q) : r = r' := by
  have key : ∀ a b, Rnd a N Q → Rnd b N Q → a < b → False := by
    intro a b ha hb hlt
    have hai : a < infR := Nat.lt_of_lt_of_le hlt hb.1
    have h1 : low2 (a + 1) * Q ≤ low2 b * Q := Nat.mul_le_mul_right Q (low_mono hlt)
    have e := high_low a
    have ha2 := ha.2
    have hb2 := hb.2
    rw [e] at ha2
    by_cases pa : a % 2 = 0
    · rw [if_pos pa] at ha2
      have := ha2.2 hai
      by_cases pb : b % 2 = 0
      · rw [if_pos pb] at hb2
        have hlt2 : low2 (a + 1) < low2 b := low_strict (by omega)
        have := Nat.mul_lt_mul_of_pos_right hlt2 hQ
        omega
      · rw [if_neg pb] at hb2
        omega
    · rw [if_neg pa] at ha2
      by_cases pb : b % 2 = 0
      · rw [if_pos pb] at hb2
        omega
      · rw [if_neg pb] at hb2
        omega
  rcases Nat.lt_trichotomy r r' with g | g | g
  · exact (key r r' h h' g).elim
  · exact g
  · exact (key r' r h' h g).elim
/-- What is a rung rounds to it. -/
theorem Rnd.self {r N Q : Nat} (hr : r ≤ infR) (hr1 : 1 ≤ r) (hQ : 0 < Q) (h : N = val r * Q) : Rnd r N Q := by
  have h1 := Nat.mul_lt_mul_of_pos_right (low_lt r hr1) hQ
  have h2 := Nat.mul_lt_mul_of_pos_right (lt_high r) hQ
  have e : 2 * val r * Q = 2 * N := by rw [h, Nat.mul_assoc]
  rw [e] at h1 h2
  refine ⟨hr, ?_⟩
  split
  · exact ⟨Nat.le_of_lt h1, fun _ => Nat.le_of_lt h2⟩
  · exact ⟨h1, h2⟩
/-- To the nearest whole number, between two the even one. -/
theorem cut_even (n drop : Nat) : ∃ q, Ieee.Toward.even.cut false n drop = q ∧ 2 * n ≤ 2 * (q * 2 ^ drop) + 2 ^ drop ∧ 2 * (q * 2 ^ drop) ≤ 2 * n + 2 ^ drop ∧ (2 * n = 2 * (q * 2 ^ drop) + 2 ^ drop ∨ 2 * (q * 2 ^ drop) = 2 * n + 2 ^ drop → q % 2 = 0) := by
  refine ⟨_, rfl, ?_⟩
  unfold Ieee.Toward.cut
  simp only [Nat.one_shiftLeft]
  by_cases hd : drop ≤ n.log2 + 2
  · rw [Nat.min_eq_left hd]
    have dm := Nat.div_add_mod n (2 ^ drop)
    have ml := Nat.mod_lt n (Nat.two_pow_pos drop)
    rw [Nat.mul_comm] at dm
    generalize 2 ^ drop = G at *
    generalize n / G = L at *
    generalize n % G = R at *
    by_cases h1 : G < 2 * R
    · simp only [h1, decide_true, Bool.true_or, Bool.toNat_true, Nat.add_mul, Nat.one_mul]
      omega
    · by_cases h2 : G = 2 * R
      · subst h2
        rcases Nat.mod_two_eq_zero_or_one L with h3 | h3
        · simp [h3]
          omega
        · simp [h3, Nat.add_mul]
          omega
      · have h2' : (G == 2 * R) = false := by simp [h2]
        simp only [h1, decide_false, Bool.false_or, h2', Bool.false_and, Bool.toNat_false, Nat.add_zero]
        omega
  · rw [Nat.min_eq_right (by omega)]
    have h1 : n < 2 ^ (n.log2 + 1) := Nat.lt_log2_self
    have h2 : 2 ^ (n.log2 + 2) ≤ 2 ^ drop := Nat.pow_le_pow_right (by decide) (by omega)
    have h3 : 2 ^ (n.log2 + 2) = 2 * 2 ^ (n.log2 + 1) := Nat.pow_succ'
    rw [h3] at h2 ⊢
    generalize 2 ^ (n.log2 + 1) = G at *
    rw [Nat.div_eq_of_lt (by omega), Nat.mod_eq_of_lt (show n < 2 * G by omega)]
    have g1 : ¬ (2 * G < 2 * n) := by omega
    have g2 : (2 * G == 2 * n) = false := by simp; omega
    simp only [g1, decide_false, Bool.false_or, g2, Bool.false_and, Bool.toNat_false, Nat.add_zero, Nat.zero_mul, Nat.mul_zero, Nat.zero_add]
    omega
theorem dbl (a b P : Nat) (h : b = a * 2) : (a + 0) * (P * 2) = b * P := by rw [h, Nat.add_zero, Nat.mul_assoc, Nat.mul_comm 2 P]
/-- A rung that is so many binades up: its number. -/
theorem val_at {k q : Nat} (hq : q ≤ 9007199254740992) (h : k = 0 ∨ 4503599627370496 ≤ q) : val (k * 4503599627370496 + q) = q * 2 ^ k := by
  unfold val
  by_cases h0 : k * 4503599627370496 + q < 4503599627370496
  · rw [if_pos h0, show k = 0 by omega]
    omega
  · rw [if_neg h0]
    by_cases hq2 : q = 9007199254740992
    · subst hq2
      rw [show (k * 4503599627370496 + 9007199254740992) % 4503599627370496 = 0 by omega, show (k * 4503599627370496 + 9007199254740992) / 4503599627370496 - 1 = k + 1 by omega, Nat.pow_succ]
      generalize 2 ^ k = P
      exact dbl 4503599627370496 9007199254740992 P (by simp)
    · rw [show (k * 4503599627370496 + q) % 4503599627370496 = q - 4503599627370496 by omega, show (k * 4503599627370496 + q) / 4503599627370496 - 1 = k by omega, show 4503599627370496 + (q - 4503599627370496) = q by omega]
end Us
end Go.Proofs.YtelgobelbeabaaaGreatDoor
namespace Go.Proofs.YtelgobelbeabaaaGreatDoor
namespace Us

theorem nearest_eq (mag : Nat) (place : Int) (hm : 0 < mag) (last : Int) (hl : last = max (place + mag.log2 - 52) (-1074)) :
    Ieee.double.nearest false mag place = min ((last + 1074).toNat * 4503599627370496 + Ieee.Toward.even.cut false (mag * 2 ^ (place - last).toNat) (last - place).toNat) infR := by
  subst hl
  unfold Ieee.Format.nearest
  rw [if_neg (by omega)]
  have e1 : Ieee.double.leastPlace = -1074 := by decide
  have e2 : Ieee.double.binade = 4503599627370496 := by decide
  have e3 : Ieee.double.infRung = infR := by decide
  have e4 : Ieee.double.fractionBits = 52 := rfl
  simp only [e1, e2, e3, e4, Nat.shiftLeft_eq, Ieee.Format.word, Bool.false_eq_true, if_false, Int.sub_neg]
  rfl
theorem ulp_ge {k q : Nat} (h : k = 0 ∨ 4503599627370496 ≤ q) : 2 ^ k ≤ ulp (k * 4503599627370496 + q) := by
  unfold ulp
  apply Nat.pow_le_pow_right (by decide)
  omega
/-- The rung that the rounding comes to, before infinity stops it. -/
theorem rung_rnd {M G P q k N Q : Nat} (hP : P = 2 ^ k) (hG : 0 < G) (hQ : 0 < Q) (hq : q ≤ 9007199254740992) (hk : k = 0 ∨ (4503599627370496 ≤ q ∧ 4503599627370496 * G ≤ M)) (c1 : 2 * M ≤ 2 * (q * G) + G) (c2 : 2 * (q * G) ≤ 2 * M + G)
    (c3 : 2 * M = 2 * (q * G) + G ∨ 2 * (q * G) = 2 * M + G → q % 2 = 0) (hN : N * G = M * P * Q) :
    if q % 2 = 0 then low2 (k * 4503599627370496 + q) * Q ≤ 2 * N ∧ 2 * N ≤ high2 (k * 4503599627370496 + q) * Q else low2 (k * 4503599627370496 + q) * Q < 2 * N ∧ 2 * N < high2 (k * 4503599627370496 + q) * Q := by
  have hk' : k = 0 ∨ 4503599627370496 ≤ q := by rcases hk with h | h; exact .inl h; exact .inr h.1
  have hPp : 0 < P := by rw [hP]; exact Nat.two_pow_pos k
  have hPQ : 0 < P * Q := Nat.mul_pos hPp hQ
  have hv := val_at hq hk'
  rw [← hP] at hv
  -- the upper end
  have hu := ulp_ge hk'
  rw [← hP] at hu
  have hh : 2 * (q * P) + P ≤ high2 (k * 4503599627370496 + q) := by
    unfold high2
    rw [val_succ, hv]
    omega
  have eN : 2 * N * G = 2 * M * (P * Q) := by rw [Nat.mul_assoc, hN, Nat.mul_assoc, Nat.mul_assoc]
  have up : 2 * M ≤ 2 * (q * G) + G → 2 * N ≤ high2 (k * 4503599627370496 + q) * Q := by
    intro h
    refine Nat.le_of_mul_le_mul_right ?_ hG
    rw [eN]
    refine Nat.le_trans (Nat.mul_le_mul_right (P * Q) h) ?_
    refine Nat.le_trans (Nat.le_of_eq ?_) (Nat.mul_le_mul_right G (Nat.mul_le_mul_right Q hh))
    rw [Nat.add_mul, Nat.add_mul, Nat.add_mul]
    congr 1 <;> ac_rfl
  have up' : 2 * M < 2 * (q * G) + G → 2 * N < high2 (k * 4503599627370496 + q) * Q := by
    intro h
    refine Nat.lt_of_mul_lt_mul_right (a := G) ?_
    rw [eN]
    refine Nat.lt_of_lt_of_le (Nat.mul_lt_mul_of_pos_right h hPQ) ?_
    refine Nat.le_trans (Nat.le_of_eq ?_) (Nat.mul_le_mul_right G (Nat.mul_le_mul_right Q hh))
    rw [Nat.add_mul, Nat.add_mul, Nat.add_mul]
    congr 1 <;> ac_rfl
  -- the lower end
  have lo : low2 (k * 4503599627370496 + q) * Q ≤ 2 * N := by
    refine Nat.le_of_mul_le_mul_right ?_ hG
    rw [eN]
    by_cases hq0 : q = 0
    · subst hq0
      have hk0 : k = 0 := by omega
      subst hk0
      rw [show low2 (0 * 4503599627370496 + 0) = 0 by decide, Nat.zero_mul, Nat.zero_mul]
      exact Nat.zero_le _
    · by_cases hb : k = 0 ∨ 4503599627370496 ≤ q - 1
      · have hv1 := val_at (k := k) (q := q - 1) (by omega) hb
        rw [← hP, ← Nat.add_sub_assoc (by omega)] at hv1
        have hl : low2 (k * 4503599627370496 + q) + P = 2 * (q * P) := by
          unfold low2
          rw [hv, hv1, Nat.sub_mul, Nat.one_mul]
          have := Nat.le_mul_of_pos_left P (show 0 < q by omega)
          omega
        have e : low2 (k * 4503599627370496 + q) * Q * G + G * (P * Q) = 2 * (q * G) * (P * Q) := by
          rw [show G * (P * Q) = P * Q * G by ac_rfl, ← Nat.add_mul, ← Nat.add_mul, hl]
          ac_rfl
        have h := Nat.mul_le_mul_right (P * Q) c2
        rw [Nat.add_mul] at h
        omega
      · have hqe : q = 4503599627370496 := by omega
        have hl : low2 (k * 4503599627370496 + q) ≤ 2 * (q * P) := by
          have := Nat.le_of_lt (low_lt (k * 4503599627370496 + q) (by omega))
          rwa [hv] at this
        have hM : q * G ≤ M := by
          rcases hk with h | h
          · omega
          · rw [hqe]; exact h.2
        refine Nat.le_trans (Nat.mul_le_mul_right G (Nat.mul_le_mul_right Q hl)) ?_
        refine Nat.le_trans (Nat.le_of_eq ?_) (Nat.mul_le_mul_right (P * Q) (Nat.mul_le_mul_left 2 hM))
        ac_rfl
  have lo' : q % 2 ≠ 0 → low2 (k * 4503599627370496 + q) * Q < 2 * N := by
    intro hodd
    have hne : 2 * (q * G) < 2 * M + G := by
      rcases Nat.lt_or_ge (2 * (q * G)) (2 * M + G) with h | h
      · exact h
      · exact absurd (c3 (.inr (by omega))) hodd
    refine Nat.lt_of_mul_lt_mul_right (a := G) ?_
    rw [eN]
    have hb : k = 0 ∨ 4503599627370496 ≤ q - 1 := by omega
    have hv1 := val_at (k := k) (q := q - 1) (by omega) hb
    rw [← hP, ← Nat.add_sub_assoc (by omega)] at hv1
    have hl : low2 (k * 4503599627370496 + q) + P = 2 * (q * P) := by
      unfold low2
      rw [hv, hv1, Nat.sub_mul, Nat.one_mul]
      have := Nat.le_mul_of_pos_left P (show 0 < q by omega)
      omega
    have e : low2 (k * 4503599627370496 + q) * Q * G + G * (P * Q) = 2 * (q * G) * (P * Q) := by
      rw [show G * (P * Q) = P * Q * G by ac_rfl, ← Nat.add_mul, ← Nat.add_mul, hl]
      ac_rfl
    have h := Nat.mul_lt_mul_of_pos_right hne hPQ
    rw [Nat.add_mul] at h
    omega
  split
  · exact ⟨lo, up c1⟩
  · rename_i hodd
    refine ⟨lo' hodd, up' ?_⟩
    rcases Nat.lt_or_ge (2 * M) (2 * (q * G) + G) with h | h
    · exact h
    · exact absurd (c3 (.inl (by omega))) hodd
/-- The model's rounding. -/
theorem nearest_rnd (mag : Nat) (place : Int) (hm : 0 < mag) : Rnd (Ieee.double.nearest false mag place) (mag * 2 ^ (place + 1074).toNat) (2 ^ (-(place + 1074)).toNat) := by
  obtain ⟨last, hl⟩ : ∃ last, last = max (place + mag.log2 - 52) (-1074) := ⟨_, rfl⟩
  rw [nearest_eq mag place hm last hl]
  have hlog1 : 2 ^ mag.log2 ≤ mag := Nat.log2_self_le (by omega)
  have hlog2 : mag < 2 ^ (mag.log2 + 1) := Nat.lt_log2_self
  obtain ⟨k, hk⟩ : ∃ k, (last + 1074).toNat = k := ⟨_, rfl⟩
  obtain ⟨sh, hsh⟩ : ∃ sh, (place - last).toNat = sh := ⟨_, rfl⟩
  obtain ⟨dr, hdr⟩ : ∃ dr, (last - place).toNat = dr := ⟨_, rfl⟩
  rw [hk, hsh, hdr]
  obtain ⟨q, hq, c1, c2, c3⟩ := cut_even (mag * 2 ^ sh) dr
  rw [hq]
  have hG : 0 < 2 ^ dr := Nat.two_pow_pos dr
  have hQ : 0 < 2 ^ (-(place + 1074)).toNat := Nat.two_pow_pos _
  -- no more than 53 bits
  have hM : mag * 2 ^ sh < 9007199254740992 * 2 ^ dr := by
    have h1 := Nat.mul_lt_mul_of_pos_right hlog2 (Nat.two_pow_pos sh)
    rw [← Nat.pow_add] at h1
    refine Nat.lt_of_lt_of_le h1 ?_
    rw [show (9007199254740992 : Nat) = 2 ^ 53 by decide, ← Nat.pow_add]
    exact Nat.pow_le_pow_right (by decide) (by omega)
  have hq53 : q ≤ 9007199254740992 := by
    rcases Nat.lt_or_ge 9007199254740992 q with h | h
    · have := Nat.mul_le_mul_right (2 ^ dr) (show 9007199254740992 + 1 ≤ q from h)
      rw [Nat.add_mul, Nat.one_mul] at this
      omega
    · exact h
  have hk2 : k = 0 ∨ (4503599627370496 ≤ q ∧ 4503599627370496 * 2 ^ dr ≤ mag * 2 ^ sh) := by
    rcases Nat.eq_zero_or_pos k with h | h
    · exact .inl h
    · right
      have hb : 4503599627370496 * 2 ^ dr ≤ mag * 2 ^ sh := by
        refine Nat.le_trans ?_ (Nat.mul_le_mul_right (2 ^ sh) hlog1)
        rw [show (4503599627370496 : Nat) = 2 ^ 52 by decide, ← Nat.pow_add, ← Nat.pow_add]
        exact Nat.pow_le_pow_right (by decide) (by omega)
      refine ⟨?_, hb⟩
      rcases Nat.lt_or_ge q 4503599627370496 with h2 | h2
      · have := Nat.mul_le_mul_right (2 ^ dr) (show q + 1 ≤ 4503599627370496 from h2)
        rw [Nat.add_mul, Nat.one_mul] at this
        omega
      · exact h2
  have hN : mag * 2 ^ (place + 1074).toNat * 2 ^ dr = mag * 2 ^ sh * 2 ^ k * 2 ^ (-(place + 1074)).toNat := by
    rw [Nat.mul_assoc, Nat.mul_assoc, Nat.mul_assoc, ← Nat.pow_add, ← Nat.pow_add, ← Nat.pow_add]
    congr 2
    omega
  have key := rung_rnd (P := 2 ^ k) rfl hG hQ hq53 hk2 c1 c2 c3 hN
  have hpar : (k * 4503599627370496 + q) % 2 = q % 2 := by omega
  generalize mag * 2 ^ (place + 1074).toNat = N at *
  generalize 2 ^ (-(place + 1074)).toNat = Q at *
  rw [← hpar] at key
  generalize k * 4503599627370496 + q = r0 at *
  clear hN c1 c2 c3 hM
  refine ⟨Nat.min_le_right _ _, ?_⟩
  rcases Nat.lt_or_ge infR r0 with h | h
  · rw [Nat.min_eq_right (Nat.le_of_lt h), if_pos (by decide)]
    refine ⟨?_, fun h => absurd h (Nat.lt_irrefl _)⟩
    have hlo := Nat.mul_le_mul_right Q (low_mono (Nat.le_of_lt h))
    split at key <;> omega
  · rw [Nat.min_eq_left h]
    split at key
    · rename_i hp
      rw [if_pos hp]
      exact ⟨key.1, fun _ => key.2⟩
    · rename_i hp
      rw [if_neg hp]
      exact key
end Us
end Go.Proofs.YtelgobelbeabaaaGreatDoor
namespace Go.Proofs.YtelgobelbeabaaaGreatDoor
namespace Us

theorem Rnd.congr {r N Q N' Q' : Nat} (hQ : 0 < Q) (hQ' : 0 < Q') (h : N * Q' = N' * Q) (hr : Rnd r N Q) : Rnd r N' Q' := by
  refine ⟨hr.1, ?_⟩
  have e : ∀ a, a * Q' * Q = a * Q * Q' := fun a => Nat.mul_right_comm a Q' Q
  have e2 : 2 * N' * Q = 2 * N * Q' := by rw [Nat.mul_assoc, Nat.mul_assoc, h]
  have h2 := hr.2
  split at h2 <;> rename_i hp
  · rw [if_pos hp]
    refine ⟨?_, fun hi => ?_⟩
    · refine Nat.le_of_mul_le_mul_right ?_ hQ
      rw [e, e2]
      exact Nat.mul_le_mul_right Q' h2.1
    · refine Nat.le_of_mul_le_mul_right ?_ hQ
      rw [e, e2]
      exact Nat.mul_le_mul_right Q' (h2.2 hi)
  · rw [if_neg hp]
    refine ⟨?_, ?_⟩
    · refine Nat.lt_of_mul_lt_mul_right (a := Q) ?_
      rw [e, e2]
      exact Nat.mul_lt_mul_of_pos_right h2.1 hQ'
    · refine Nat.lt_of_mul_lt_mul_right (a := Q) ?_
      rw [e, e2]
      exact Nat.mul_lt_mul_of_pos_right h2.2 hQ'
/-- Of a number with a two's power taken into its whole part the rounding is the same. -/
theorem nearest_shift (mag s : Nat) (place : Int) (hm : 0 < mag) : Ieee.double.nearest false (mag * 2 ^ s) (place - s) = Ieee.double.nearest false mag place := by
  have h1 := nearest_rnd mag place hm
  have h2 := nearest_rnd (mag * 2 ^ s) (place - s) (Nat.mul_pos hm (Nat.two_pow_pos s))
  refine Rnd.one (Nat.two_pow_pos _) (Rnd.congr (Nat.two_pow_pos _) (Nat.two_pow_pos _) ?_ h2) h1
  rw [Nat.mul_assoc, Nat.mul_assoc, Nat.mul_assoc, ← Nat.pow_add, ← Nat.pow_add, ← Nat.pow_add]
  congr 2
  omega
/-- What is a rung is its own rounding. -/
theorem nearest_self {mag r : Nat} {place : Int} (hm : 0 < mag) (hr : r ≤ infR) (hr1 : 1 ≤ r) (h : mag * 2 ^ (place + 1074).toNat = val r * 2 ^ (-(place + 1074)).toNat) : Ieee.double.nearest false mag place = r :=
  Rnd.one (Nat.two_pow_pos _) (nearest_rnd mag place hm) (Rnd.self hr hr1 (Nat.two_pow_pos _) h)
theorem cut_zero (n : Nat) : Ieee.Toward.even.cut false n 0 = n := by
  obtain ⟨q, hq, c1, c2, c3⟩ := cut_even n 0
  rw [hq]
  rw [Nat.pow_zero, Nat.mul_one] at c1 c2
  omega
/-- The bits of a number of so many digits that is held as it is. -/
theorem nearest_held {mag L : Nat} {place : Int} (hL : mag.log2 = L) (hm : 0 < mag) (hL2 : L ≤ 52) (hp : -1074 ≤ place + L - 52) (hp2 : place + L ≤ 1023) :
    Ieee.double.nearest false mag place = (place + L + 1022).toNat * 4503599627370496 + mag * 2 ^ (52 - L) := by
  have h2 : mag < 2 ^ (L + 1) := by rw [← hL]; exact Nat.lt_log2_self
  have hM : mag * 2 ^ (52 - L) < 9007199254740992 := by
    have h1 := Nat.mul_lt_mul_of_pos_right h2 (Nat.two_pow_pos (52 - L))
    rw [← Nat.pow_add, show L + 1 + (52 - L) = 53 by omega] at h1
    exact h1
  rw [nearest_eq mag place hm (place + L - 52) (by rw [hL]; omega), show (place - (place + (L : Int) - 52)).toNat = 52 - L by omega, show ((place + (L : Int) - 52) - place).toNat = 0 by omega, cut_zero, show (place + (L : Int) - 52 + 1074).toNat = (place + L + 1022).toNat by omega]
  unfold infR
  omega
end Us
end Go.Proofs.YtelgobelbeabaaaGreatDoor
namespace Go.Proofs.YtelgobelbeabaaaGreatDoor
namespace Us

def pOf (e : Int) : Int := -((e + 11) * 78913 / 262144)
def pSk (e : Int) : Int := -(((e + 11) * 631305 - 261663) / 2097152)
def sOf (e p : Int) : Int := -(e + lpOf p + 3)
def rowAt (p : Int) : Nat × Nat := Go.Pinned.pow10Rows.getD (p + 348).toNat (0, 0)
/-- Is the unit no greater than w / 4 of the interval's place (greater, unless the place is 1), and ten of it greater? -/
def wideOK (e p : Int) (z w : Nat) (s : Nat) : Bool :=
  force (w * 2 ^ z * numOf p) fun a => force (16 * (denOf p * 2 ^ (128 + s))) fun b => (Nat.blt b a || (e + z == 0)) && Nat.blt a (10 * b) && Nat.ble b a
def oneOK (e p : Int) (z w step Y : Nat) : Bool :=
  match rowAt p, sOf e p with
  | (hi, lo), .ofNat s => Nat.blt s 64 && decide (-348 ≤ p) && decide (p ≤ 347) && rowOK p hi lo && pairOK p hi lo s step Y && wideOK e p z w s
  | _, .negSucc _ => false
def expOK (i : Nat) : Bool := force i fun i => oneOK ((i : Int) - 1085) (pOf ((i : Int) - 1085)) 11 4 512 36028797018963968 && oneOK ((i : Int) - 1085) (pSk ((i : Int) - 1085)) 11 3 512 36028797018963968
def subOK (j : Nat) : Bool := force j fun j => oneOK (-1085 - (j : Int)) (pOf (-1085)) (11 + j) 4 (2 ^ (10 + j)) (2 ^ (54 - j))
end Us
end Go.Proofs.YtelgobelbeabaaaGreatDoor
