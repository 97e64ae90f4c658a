/-
  Closed facts that the kernel reckons: at each exponent of a float of 64 bits strconv's table is sharp. No program in sight; no condition. A plain law: the number that internal/strconv.shortFloat reckons of a float is the shortest of the decimals that round to it. No program in sight; no condition. A plain law: of every float of 64 bits, not nought and not infinite, the number that internal/strconv.shortFloat reckons is the shortest of the decimals that round to it. No program in sight; no condition. Plain laws: how the model reads, orders and multiplies positive floats. No program in sight; no condition. Plain laws: a whole number's float, and that number moved by a two's power as math.Ldexp does it. No program in sight; no condition. Plain laws: the decimals that quillref03.Digits tries: the first that rounds to a rung is the shortest. No program in sight; no condition.
-/
import Derived.Test.YtelgobelbeabaaaGreatDoorShM1
import Ieee.Arith
namespace Go.Proofs.YtelgobelbeabaaaGreatDoor
namespace Us

theorem facts0 : (List.range' 0 256).all expOK = true := by kernel_rfl
theorem facts1 : (List.range' 256 256).all expOK = true := by kernel_rfl
theorem facts2 : (List.range' 512 256).all expOK = true := by kernel_rfl
theorem facts3 : (List.range' 768 256).all expOK = true := by kernel_rfl
theorem facts4 : (List.range' 1024 256).all expOK = true := by kernel_rfl
theorem facts5 : (List.range' 1280 256).all expOK = true := by kernel_rfl
theorem facts6 : (List.range' 1536 256).all expOK = true := by kernel_rfl
theorem facts7 : (List.range' 1792 254).all expOK = true := by kernel_rfl
theorem factsS : (List.range' 0 53).all subOK = true := by kernel_rfl
theorem from_range {f : Nat → Bool} {a n i : Nat} (h : (List.range' a n).all f = true) (h1 : a ≤ i) (h2 : i < a + n) : f i = true := by
  rw [List.all_eq_true] at h
  exact h i (List.mem_range'_1.2 ⟨h1, h2⟩)
theorem exp_ok {i : Nat} (h : i < 2046) : expOK i = true := by
  by_cases h0 : i < 256
  · exact from_range facts0 (by omega) (by omega)
  by_cases h1 : i < 512
  · exact from_range facts1 (by omega) (by omega)
  by_cases h2 : i < 768
  · exact from_range facts2 (by omega) (by omega)
  by_cases h3 : i < 1024
  · exact from_range facts3 (by omega) (by omega)
  by_cases h4 : i < 1280
  · exact from_range facts4 (by omega) (by omega)
  by_cases h5 : i < 1536
  · exact from_range facts5 (by omega) (by omega)
  by_cases h6 : i < 1792
  · exact from_range facts6 (by omega) (by omega)
  exact from_range facts7 (by omega) (by omega)
theorem sub_ok {j : Nat} (h : j < 53) : subOK j = true := from_range factsS (by omega) (by omega)
end Us
end Go.Proofs.YtelgobelbeabaaaGreatDoor
namespace Go.Proofs.YtelgobelbeabaaaGreatDoor
namespace Us

/-- A float's whole part and its exponent, as a float that is not nought holds them. -/
def mantOf (r : Nat) : Nat := if r < 4503599627370496 then r else 4503599627370496 + r % 4503599627370496
def kOf (r : Nat) : Nat := r / 4503599627370496 - 1
/-- How far it is moved to the left. -/
def zOf (r : Nat) : Nat := 63 - Nat.log2 (mantOf r)
def mOf (r : Nat) : Nat := mantOf r * 2 ^ zOf r
def eOf (r : Nat) : Int := (kOf r : Int) - zOf r - 1074
def skewOf (r : Nat) : Bool := mOf r == 9223372036854775808 && decide (-1085 < eOf r)
def goP (r : Nat) : Int := if skewOf r then pSk (eOf r) else pOf (if -1085 ≤ eOf r then eOf r else -1085)
def minOf (r : Nat) : Nat := mOf r - 2 ^ (zOf r - if skewOf r then 2 else 1)
def maxOf (r : Nat) : Nat := mOf r + 2 ^ (zOf r - 1)
def goU (r x : Nat) : Nat := uscaleN x (rowAt (goP r)).1 (rowAt (goP r)).2 (sOf (eOf r) (goP r)).toNat
def dminOf (r : Nat) : Nat := (goU r (minOf r) + r % 2 + 3) / 4
def dmaxOf (r : Nat) : Nat := (goU r (maxOf r) - r % 2) / 4
def d3Of (r : Nat) : Nat := (goU r (mOf r) + 1 + goU r (mOf r) / 4 % 2) / 4
/-- What shortFloat tells. -/
def goShort (r : Nat) : Nat × Int :=
  if dminOf r ≤ dmaxOf r / 10 * 10 then (dmaxOf r / 10, -(goP r - 1)) else (if dminOf r < dmaxOf r then d3Of r else dminOf r, -goP r)

theorem core_of {mn m mx num K o : Nat} (ho : o < 2) (hK : 0 < K) (hn : 0 < num) (h1 : mn < m) (h2 : m < mx) (hw10 : (mx - mn) * num < 40 * K) (hshape : 2 * m = mn + mx ∨ (o = 0 ∧ 3 * m = 2 * mn + mx))
    (hwid : 4 * K < (mx - mn) * num ∨ ((mx - mn) * num = 4 * K ∧ ∃ n, m * num = 4 * K * n)) :
    Core (mn * num) (m * num) (mx * num) (4 * K) (o == 1) ((unr (mn * num) K + o + 3) / 4) ((unr (mx * num) K - o) / 4) ((unr (m * num) K + 1 + unr (m * num) K / 4 % 2) / 4) := by
  have e1 : mn * num < m * num := Nat.mul_lt_mul_of_pos_right h1 hn
  have e2 : m * num < mx * num := Nat.mul_lt_mul_of_pos_right h2 hn
  rw [Nat.sub_mul] at hw10 hwid
  have e3 : 2 * m = mn + mx → 2 * (m * num) = mn * num + mx * num := fun h => by rw [← Nat.mul_assoc, h, Nat.add_mul]
  have e4 : 3 * m = 2 * mn + mx → 3 * (m * num) = 2 * (mn * num) + mx * num := fun h => by rw [← Nat.mul_assoc, h, Nat.add_mul, Nat.mul_assoc]
  have hu : 0 < unr (mx * num) K := by
    have hd : 4 ≤ mx * num / K := (Nat.le_div_iff_mul_le hK).2 (by rcases hwid with h | ⟨h, -⟩ <;> (clear hshape e3 e4 ho; omega))
    unfold unr
    split
    · omega
    · have := Nat.left_le_or (n := mx * num / K) (m := 1)
      omega
  have c1 := unr_ceil (N := mn * num) hK
  have c2 := unr_ceil1 (N := mn * num) hK
  have c3 := unr_floor (N := mx * num) hK
  have c4 := unr_floor1 (N := mx * num) hK hu
  have c5 := unr_round (N := m * num) hK
  have as : ∀ n, 4 * K * n = 4 * (K * n) := fun n => Nat.mul_assoc 4 K n
  have ho2 : o = 0 ∨ o = 1 := by omega
  refine ⟨Nat.mul_pos (by decide) hK, e1, e2, (by clear c1 c2 c3 c4 c5 hwid hshape e3 e4; omega), ?_, ?_, ?_, ?_, ?_, ?_, ?_, ?_, ?_⟩
  · rcases ho2 with rfl | rfl <;> simp only [as, Nat.add_zero]
    · exact c1.1
    · exact c2.1
  · rcases ho2 with rfl | rfl <;> simp only [as, Nat.add_zero]
    · exact c1.2
    · exact c2.2
  · rcases ho2 with rfl | rfl <;> simp only [as, Nat.sub_zero]
    · exact c3.1
    · exact c4.1
  · rcases ho2 with rfl | rfl <;> simp only [as, Nat.sub_zero]
    · exact c3.2
    · exact c4.2
  · simp only [as]
    have := c5.1.1
    clear c1 c2 c3 c4 c5
    omega
  · simp only [as]
    have := c5.1.2
    clear c1 c2 c3 c4 c5
    omega
  · simp only [as]
    intro h
    apply c5.2
    clear c1 c2 c3 c4 c5
    omega
  · rcases hshape with h | ⟨h, h'⟩
    · exact .inl (e3 h)
    · subst h; exact .inr ⟨rfl, e4 h'⟩
  · rcases hwid with h | ⟨h, n, hn⟩
    · exact .inl (by clear c1 c2 c3 c4 c5; omega)
    · exact .inr ⟨by clear c1 c2 c3 c4 c5; omega, n, hn⟩

/-- What oneOK tells. -/
theorem one_said {e p : Int} {z w step Y : Nat} (h : oneOK e p z w step Y = true) :
    -348 ≤ p ∧ p ≤ 347 ∧ 0 ≤ sOf e p ∧ sOf e p < 64 ∧
    (∀ x y, x = step * y → y ≤ Y → x < 18446744073709551616 → 2 ≤ x → uscaleN x (rowAt p).1 (rowAt p).2 (sOf e p).toNat = unr (x * numOf p) (denOf p * 2 ^ (128 + (sOf e p).toNat))) ∧
    (16 * (denOf p * 2 ^ (128 + (sOf e p).toNat)) < w * 2 ^ z * numOf p ∨ e + z = 0) ∧ w * 2 ^ z * numOf p < 160 * (denOf p * 2 ^ (128 + (sOf e p).toNat)) ∧ 16 * (denOf p * 2 ^ (128 + (sOf e p).toNat)) ≤ w * 2 ^ z * numOf p := by
  unfold oneOK at h
  split at h
  · rename_i hi lo s h1 h2
    simp only [Bool.and_eq_true, wideOK, force_eq, Bool.or_eq_true, Nat.blt_eq, Nat.ble_eq, decide_eq_true_eq, beq_iff_eq] at h
    rw [h1, h2]
    obtain ⟨⟨⟨⟨⟨a1, a2⟩, a3⟩, a4⟩, a5⟩, ⟨a6, a7⟩, a8⟩ := h
    refine ⟨a2, a3, Int.natCast_nonneg s, by show ((s : Nat) : Int) < 64; omega, ?_, a6, (by rw [Int.ofNat_eq_natCast, Int.toNat_natCast]; omega), a8⟩
    rintro x y rfl hy hx hx2
    exact pair_sharp a4 a5 hy hx hx2
  · cases h
theorem num_pos (p : Int) : 0 < numOf p := Nat.mul_pos (Nat.pow_pos (by decide)) (Nat.pow_pos (by decide))
theorem pow_eq (t a b c d e : Nat) (h : t + a + b + 1 = c + d + e + 2) : 2 * (2 ^ t * (2 ^ a * 2 ^ b)) = 4 * (2 ^ c * (2 ^ d * 2 ^ e)) := by
  have e1 : 2 * (2 ^ t * (2 ^ a * 2 ^ b)) = 2 ^ (t + a + b + 1) := by simp only [Nat.pow_add, Nat.pow_one]; ac_rfl
  have e2 : 4 * (2 ^ c * (2 ^ d * 2 ^ e)) = 2 ^ (c + d + e + 2) := by simp only [Nat.pow_add, show (2 : Nat) ^ 2 = 4 from rfl]; ac_rfl
  rw [e1, e2, h]
theorem tiny_eq (t a b c d e : Nat) (ht : t = 1074) (h : t + a + b + 1 = c + d + e + 2) : 2 * (tiny * (2 ^ a * 2 ^ b)) = 4 * (2 ^ c * (2 ^ d * 2 ^ e)) := by
  rw [tiny_pow ht]
  exact pow_eq t a b c d e h
/-- What is reckoned in units stands for what is asked of decimals. -/
theorem moved {e p : Int} {z k : Nat} (he : e = (k : Int) - z - 1074) (hs : 0 ≤ sOf e p) {v m : Nat} (h2 : v * 2 ^ z = m * 2 ^ (k + 1)) (c : Nat) :
    v * loQ (-p) * (2 ^ z * 2 ^ (127 - lpOf p).toNat) = m * numOf p * 2 ^ (k + 1) ∧ dv c (-p) * (2 ^ z * 2 ^ (127 - lpOf p).toNat) = 4 * (denOf p * 2 ^ (128 + (sOf e p).toNat)) * c * 2 ^ (k + 1) := by
  have hq : loQ (-p) = 10 ^ p.toNat := by unfold loQ; rw [Int.neg_neg]
  constructor
  · rw [hq]
    unfold numOf
    generalize 10 ^ p.toNat = A at *
    generalize 2 ^ (127 - lpOf p).toNat = B at *
    generalize 2 ^ z = C at *
    generalize 2 ^ (k + 1) = D at *
    calc v * A * (C * B) = v * C * (A * B) := by ac_rfl
      _ = m * D * (A * B) := by rw [h2]
      _ = _ := by ac_rfl
  · have hexp := tiny_eq 1074 z (127 - lpOf p).toNat (lpOf p - 127).toNat (128 + (sOf e p).toNat) (k + 1) rfl (by unfold sOf at hs ⊢; omega)
    unfold dv hiP denOf
    generalize tiny = T at *
    generalize 10 ^ (-p).toNat = A at *
    generalize 2 ^ (127 - lpOf p).toNat = B at *
    generalize 2 ^ z = C at *
    generalize 2 ^ (k + 1) = D at *
    generalize 2 ^ (lpOf p - 127).toNat = E at *
    generalize 2 ^ (128 + (sOf e p).toNat) = F at *
    calc 2 * (c * A * T) * (C * B) = c * A * (2 * (T * (C * B))) := by ac_rfl
      _ = c * A * (4 * (E * (F * D))) := by rw [hexp]
      _ = _ := by ac_rfl

theorem dst_mul (a b R : Nat) : dst (a * R) (b * R) = dst a b * R := by
  unfold dst
  rw [← Nat.sub_mul, ← Nat.sub_mul, ← Nat.add_mul]
/-- The interval's numbers, and what is told of them. -/
theorem core_short {r m mn mx num K k R dmin dmax d3 : Nat} {p : Int} (H : Core (mn * num) (m * num) (mx * num) (4 * K) (r % 2 == 1) dmin dmax d3) (ha : 0 < mn * num) (hR : 0 < R)
    (hv : 2 * val r * loQ (-p) * R = m * num * 2 ^ (k + 1)) (hl : low2 r * loQ (-p) * R = mn * num * 2 ^ (k + 1)) (hh : high2 r * loQ (-p) * R = mx * num * 2 ^ (k + 1)) (hd : ∀ c, dv c (-p) * R = 4 * K * c * 2 ^ (k + 1)) :
    ∃ c t : Nat, (if dmin ≤ dmax / 10 * 10 then (dmax / 10, -(p - 1)) else (if dmin < dmax then d3 else dmin, -p)).1 = c * 10 ^ t ∧ Short r c ((if dmin ≤ dmax / 10 * 10 then (dmax / 10, -(p - 1)) else (if dmin < dmax then d3 else dmin, -p)).2 + (t : Int)) := by
  have hP : 0 < 2 ^ (k + 1) := Nat.pow_pos (by decide)
  have inn : ∀ c, In r c (-p) ↔ dmin ≤ c ∧ c ≤ dmax := by
    intro c
    rw [← H.inn_iff]
    unfold In Inn
    have t1 : low2 r * loQ (-p) ≤ dv c (-p) ↔ mn * num ≤ 4 * K * c := by rw [← Nat.mul_le_mul_right_iff hR, hl, hd, Nat.mul_le_mul_right_iff hP]
    have t2 : dv c (-p) ≤ high2 r * loQ (-p) ↔ 4 * K * c ≤ mx * num := by rw [← Nat.mul_le_mul_right_iff hR, hh, hd, Nat.mul_le_mul_right_iff hP]
    have t3 : low2 r * loQ (-p) < dv c (-p) ↔ mn * num < 4 * K * c := by rw [← Nat.mul_lt_mul_right hR, hl, hd, Nat.mul_lt_mul_right hP]
    have t4 : dv c (-p) < high2 r * loQ (-p) ↔ 4 * K * c < mx * num := by rw [← Nat.mul_lt_mul_right hR, hh, hd, Nat.mul_lt_mul_right hP]
    by_cases h : r % 2 = 0
    · rw [if_pos h, if_neg (by simp [h]), t1, t2]
    · rw [if_neg h, if_pos (by simp; omega), t3, t4]
  have hdst : ∀ c, dst (dv c (-p)) (2 * val r * loQ (-p)) * R = dst (4 * K * c) (m * num) * 2 ^ (k + 1) := by
    intro c
    rw [← dst_mul, hd, hv, dst_mul]
  have inT : ∀ c (t : Nat), In r c (-p + t) ↔ dmin ≤ c * 10 ^ t ∧ c * 10 ^ t ≤ dmax := by
    intro c t
    rw [← inn, in_pow]
  by_cases hten : dmin ≤ dmax / 10 * 10
  · rw [if_pos hten]
    have hle : dmax / 10 * 10 ≤ dmax := by omega
    -- the tens that end it
    have hex : ∀ n, 0 < n → ∃ c t, n = c * 10 ^ t ∧ c % 10 ≠ 0 := by
      intro n
      induction n using Nat.strongRecOn with
      | _ n ih =>
        intro hn
        by_cases h0 : n % 10 = 0
        · obtain ⟨c, t, h1, h2⟩ := ih (n / 10) (by omega) (by omega)
          refine ⟨c, t + 1, ?_, h2⟩
          rw [Nat.pow_succ, ← Nat.mul_assoc, ← h1]
          omega
        · exact ⟨n, 0, by simp, h0⟩
    have hpos : 0 < dmax / 10 := by
      rcases Nat.eq_zero_or_pos (dmax / 10) with h0 | h0
      · exfalso
        rw [h0] at hten
        have h00 : dmin = 0 := by omega
        have := H.min2
        rw [h00, Nat.mul_zero] at this
        split at this <;> omega
      · exact h0
    obtain ⟨c, t, h1, h2⟩ := hex _ hpos
    refine ⟨c, t, h1, ?_⟩
    show Short r c (-(p - 1) + (t : Int))
    have ej : -(p - 1) + (t : Int) = -p + ((t + 1 : Nat) : Int) := by omega
    have e10 : c * 10 ^ (t + 1) = dmax / 10 * 10 := by rw [Nat.pow_succ, ← Nat.mul_assoc, ← h1]
    have uniq : ∀ c', In r c' (-p + ((t + 1 : Nat) : Int)) → c' = c := by
      intro c' hc'
      have h3 := (inT c' (t + 1)).1 hc'
      have e' : c' * 10 ^ (t + 1) = 10 * (c' * 10 ^ t) := by rw [Nat.pow_succ, ← Nat.mul_assoc, Nat.mul_comm]
      have h4 := H.ten_one (c := c' * 10 ^ t) (d := c * 10 ^ t) (by omega) (by omega) (by omega) (by omega)
      exact Nat.eq_of_mul_eq_mul_right (Nat.pow_pos (by decide)) h4
    rw [ej]
    have hin : In r c (-p + ((t + 1 : Nat) : Int)) := (inT c (t + 1)).2 (by omega)
    refine ⟨hin, ?_, ?_, ?_⟩
    · intro c' j' hj'
      rcases Int.lt_or_le (-p + ((t + 1 : Nat) : Int)) j' with hlt | hge
      · exfalso
        obtain ⟨i, hi⟩ : ∃ i : Nat, j' = -p + ((t + 1 : Nat) : Int) + ((i + 1 : Nat) : Int) := ⟨(j' - (-p + ((t + 1 : Nat) : Int)) - 1).toNat, by omega⟩
        rw [hi, ← in_pow] at hj'
        have := uniq _ hj'
        rw [← this, Nat.pow_succ, ← Nat.mul_assoc] at h2
        omega
      · exact hge
    · intro c' hc'
      rw [uniq c' hc']
      exact Nat.le_refl _
    · intro c' hc' hne
      exact absurd (uniq c' hc') hne
  · rw [if_neg hten]
    refine ⟨if dmin < dmax then d3 else dmin, 0, by rw [Nat.pow_zero, Nat.mul_one], ?_⟩
    show Short r _ (-p + ((0 : Nat) : Int))
    have e0 : -p + ((0 : Nat) : Int) = -p := by omega
    rw [e0]
    have hu := H.unit_in
    refine ⟨(inn _).2 hu, ?_, ?_, ?_⟩
    · intro c' j' hj'
      rcases Int.lt_or_le (-p) j' with hlt | hge
      · exfalso
        obtain ⟨i, hi⟩ : ∃ i : Nat, j' = -p + ((i + 1 : Nat) : Int) := ⟨(j' - -p - 1).toNat, by omega⟩
        rw [hi, inT, Nat.pow_succ, ← Nat.mul_assoc] at hj'
        omega
      · exact hge
    · intro c' hc'
      have h3 := (inn c').1 hc'
      have := Nat.mul_le_mul_right (2 ^ (k + 1)) (H.unit_near c' h3.1 h3.2)
      rw [← hdst, ← hdst] at this
      exact Nat.le_of_mul_le_mul_right this hR
    · intro c' hc' hne he
      have h3 := (inn c').1 hc'
      refine H.unit_tie c' h3.1 h3.2 hne ?_
      refine Nat.eq_of_mul_eq_mul_right hP ?_
      rw [← hdst, ← hdst, he]

theorem go_fin {r z w step Y : Nat} (hz : zOf r = z) (hone : oneOK (eOf r) (goP r) z w step Y = true) (d1 : step ∣ minOf r) (d2 : step ∣ mOf r) (d3 : step ∣ maxOf r) (hY : 18446744073709551616 ≤ step * Y)
    (hx : maxOf r < 18446744073709551616) (h2 : 2 ≤ minOf r) (hlt1 : minOf r < mOf r) (hlt2 : mOf r < maxOf r) (hw : 4 * (maxOf r - minOf r) = w * 2 ^ z)
    (hshape : 2 * mOf r = minOf r + maxOf r ∨ (r % 2 = 0 ∧ 3 * mOf r = 2 * minOf r + maxOf r)) (hlow : low2 r * 2 ^ z = minOf r * 2 ^ (kOf r + 1)) (hhigh : high2 r * 2 ^ z = maxOf r * 2 ^ (kOf r + 1)) (hval : 2 * val r * 2 ^ z = mOf r * 2 ^ (kOf r + 1))
    (h0 : eOf r + z = 0 → ∃ n, mOf r * numOf (goP r) = 4 * (denOf (goP r) * 2 ^ (128 + (sOf (eOf r) (goP r)).toNat)) * n) :
    ∃ c t : Nat, (goShort r).1 = c * 10 ^ t ∧ Short r c ((goShort r).2 + (t : Int)) := by
  obtain ⟨-, -, hs, -, hu, w1, w2, w3⟩ := one_said hone
  have he : eOf r = (kOf r : Int) - z - 1074 := by unfold eOf; rw [hz]
  have hn := num_pos (goP r)
  have hK : 0 < denOf (goP r) * 2 ^ (128 + (sOf (eOf r) (goP r)).toNat) := Nat.mul_pos (den_pos _) (Nat.pow_pos (by decide))
  have exact : ∀ x, step ∣ x → x < 18446744073709551616 → 2 ≤ x → goU r x = unr (x * numOf (goP r)) (denOf (goP r) * 2 ^ (128 + (sOf (eOf r) (goP r)).toNat)) := by
    rintro x ⟨y, rfl⟩ hx hx2
    refine hu _ y rfl ?_ hx hx2
    rcases Nat.lt_or_ge Y y with h | h
    · have := Nat.mul_le_mul_left step (Nat.le_of_lt h)
      omega
    · exact h
  have m1 := moved he hs hlow
  have m2 := moved he hs hhigh
  have m3 := moved he hs hval
  have hR : 0 < 2 ^ z * 2 ^ (127 - lpOf (goP r)).toNat := Nat.mul_pos (Nat.pow_pos (by decide)) (Nat.pow_pos (by decide))
  rw [← hw, Nat.mul_assoc] at w1 w2 w3
  unfold goShort dminOf dmaxOf d3Of
  rw [exact _ d1 (by omega) h2, exact _ d2 (by omega) (by omega), exact _ d3 hx (by omega)]
  generalize goP r = p at *
  generalize denOf p * 2 ^ (128 + (sOf (eOf r) p).toNat) = K at *
  refine core_short (k := kOf r) (R := 2 ^ z * 2 ^ (127 - lpOf p).toNat) (K := K) (core_of (o := r % 2) (Nat.mod_lt _ (by decide)) hK hn hlt1 hlt2 ?_ hshape ?_) (Nat.mul_pos (by omega) hn) hR (m3 0).1 (m1 0).1 (m2 0).1 (fun c => (m1 c).2)
  · clear m1 m2 m3 h0 exact hu
    omega
  · clear m1 m2 m3 exact hu
    rcases Nat.lt_or_ge (4 * K) ((maxOf r - minOf r) * numOf p) with h | h
    · exact .inl h
    · refine .inr ⟨by clear h0; omega, h0 ?_⟩
      rcases w1 with w1 | w1
      · exfalso
        clear h0
        omega
      · exact w1
end Us
end Go.Proofs.YtelgobelbeabaaaGreatDoor
namespace Go.Proofs.YtelgobelbeabaaaGreatDoor
namespace Us

theorem lin_low {M P Z val low mn : Nat} (hv : val = M * P) (hl : low + P = 2 * val) (hm : mn + Z = M * (2 * Z)) : low * (2 * Z) = mn * (2 * P) := by
  have e1 : (low + P) * (2 * Z) = 4 * (M * P * Z) := by rw [hl, hv, ← Nat.mul_assoc 4, show 4 = 2 * 2 from rfl]; ac_rfl
  have e2 : (mn + Z) * (2 * P) = 4 * (M * P * Z) := by rw [hm, show 4 = 2 * 2 from rfl]; ac_rfl
  rw [Nat.add_mul] at e1 e2
  have e3 : P * (2 * Z) = Z * (2 * P) := by ac_rfl
  omega
theorem lin_skew {M P Z val low mn : Nat} (hv : val = M * P) (hl : 2 * low + P = 2 * (2 * val)) (hm : mn + Z = M * (4 * Z)) : low * (4 * Z) = mn * (2 * P) := by
  have e1 : (2 * low + P) * (4 * Z) = 16 * (M * P * Z) := by rw [hl, hv, show 16 = 2 * 2 * 4 from rfl]; ac_rfl
  have e2 : (mn + Z) * (4 * P) = 16 * (M * P * Z) := by rw [hm, show 16 = 4 * 4 from rfl]; ac_rfl
  rw [Nat.add_mul] at e1 e2
  have e3 : P * (4 * Z) = Z * (4 * P) := by ac_rfl
  have e4 : 2 * low * (4 * Z) = 2 * (low * (4 * Z)) := Nat.mul_assoc _ _ _
  have e5 : mn * (4 * P) = 2 * (mn * (2 * P)) := by rw [show 4 = 2 * 2 from rfl]; ac_rfl
  omega
theorem lin_high {M P Z val high mx : Nat} (hv : val = M * P) (hl : high = 2 * val + P) (hm : mx = M * (2 * Z) + Z) : high * (2 * Z) = mx * (2 * P) := by
  have e1 : high * (2 * Z) = 2 * val * (2 * Z) + P * (2 * Z) := by rw [hl, Nat.add_mul]
  have e2 : mx * (2 * P) = M * (2 * Z) * (2 * P) + Z * (2 * P) := by rw [hm, Nat.add_mul]
  have e3 : 2 * val * (2 * Z) = M * (2 * Z) * (2 * P) := by rw [hv]; ac_rfl
  have e4 : P * (2 * Z) = Z * (2 * P) := by ac_rfl
  rw [e1, e2, e3, e4]
theorem lin_val {M P Z val m : Nat} (hv : val = M * P) (hm : m = M * (2 * Z)) : 2 * val * (2 * Z) = m * (2 * P) := by
  rw [hv, hm]; ac_rfl
theorem log2_eq {n k : Nat} (h1 : 2 ^ k ≤ n) (h2 : n < 2 ^ (k + 1)) : Nat.log2 n = k := by
  have hn : n ≠ 0 := by have := Nat.two_pow_pos k; omega
  have a := (Nat.le_log2 hn (k := k)).2 h1
  have b := (Nat.log2_lt hn (k := k + 1)).2 h2
  omega
theorem val_eq (r : Nat) : val r = mantOf r * 2 ^ kOf r := by
  unfold val mantOf kOf
  by_cases h : r < 4503599627370496
  · rw [if_pos h, if_pos h, show r / 4503599627370496 - 1 = 0 by omega, Nat.pow_zero, Nat.mul_one]
  · rw [if_neg h, if_neg h]
theorem high_eq (r : Nat) : high2 r = 2 * val r + 2 ^ kOf r := by
  unfold high2
  rw [val_succ]
  unfold ulp kOf
  omega
theorem low_eq {r : Nat} (h : 1 ≤ r) (hs : r % 4503599627370496 ≠ 0 ∨ r / 4503599627370496 ≤ 1) : low2 r + 2 ^ kOf r = 2 * val r := by
  unfold low2
  have e := val_succ (r - 1)
  rw [Nat.sub_add_cancel h] at e
  have : ulp (r - 1) = 2 ^ kOf r := by
    unfold ulp kOf
    congr 1
    omega
  omega
theorem low_skew {r : Nat} (h : 1 ≤ r) (hs : r % 4503599627370496 = 0) (h2 : 2 ≤ r / 4503599627370496) : 2 * low2 r + 2 ^ kOf r = 2 * (2 * val r) := by
  unfold low2
  have e := val_succ (r - 1)
  rw [Nat.sub_add_cancel h] at e
  have : 2 * ulp (r - 1) = 2 ^ kOf r := by
    unfold ulp kOf
    rw [← Nat.pow_succ']
    congr 1
    omega
  omega
/-- Where the exponent is such that the interval's unit is one, all is whole. -/
theorem whole_at {r : Nat} (hz : zOf r = 11) (he : eOf r = -11) : ∃ n, mOf r * numOf (goP r) = 4 * (denOf (goP r) * 2 ^ (128 + (sOf (eOf r) (goP r)).toNat)) * n := by
  have hp : goP r = 0 ∨ goP r = 1 := by
    unfold goP
    rw [he]
    by_cases h : skewOf r = true
    · rw [if_pos h]; exact .inr (by decide)
    · rw [if_neg h]; exact .inl (by decide)
  unfold mOf
  rw [hz, he]
  rcases hp with hp | hp <;> rw [hp]
  · have e1 : numOf 0 = 170141183460469231731687303715884105728 := by decide +kernel
    have e2 : denOf 0 * 2 ^ (128 + (sOf (-11) 0).toNat) = 87112285931760246646623899502532662132736 := by decide +kernel
    rw [e1, e2]
    exact ⟨mantOf r, by omega⟩
  · have e1 : numOf 1 = 212676479325586539664609129644855132160 := by decide +kernel
    have e2 : denOf 1 * 2 ^ (128 + (sOf (-11) 1).toNat) = 10889035741470030830827987437816582766592 := by decide +kernel
    rw [e1, e2]
    exact ⟨10 * mantOf r, by omega⟩
theorem exp_parts {i : Nat} (h : i < 2046) : oneOK ((i : Int) - 1085) (pOf ((i : Int) - 1085)) 11 4 512 36028797018963968 = true ∧ oneOK ((i : Int) - 1085) (pSk ((i : Int) - 1085)) 11 3 512 36028797018963968 = true := by
  have := exp_ok h
  unfold expOK at this
  rw [force_eq, Bool.and_eq_true] at this
  exact this
theorem sub_parts {j : Nat} (h : j < 53) : oneOK (-1085 - (j : Int)) (pOf (-1085)) (11 + j) 4 (2 ^ (10 + j)) (2 ^ (54 - j)) = true := by
  have := sub_ok h
  unfold subOK at this
  rwa [force_eq] at this

theorem go_short {r : Nat} (h1 : 1 ≤ r) (h2 : r < 9218868437227405312) : ∃ c t : Nat, (goShort r).1 = c * 10 ^ t ∧ Short r c ((goShort r).2 + (t : Int)) := by
  by_cases hr : r < 4503599627370496
  · -- below the least exponent
    have hm : mantOf r = r := if_pos hr
    have hk : kOf r = 0 := by unfold kOf; omega
    obtain ⟨l, hl1, hl2, hl3⟩ : ∃ l, Nat.log2 r = l ∧ l < 52 ∧ 2 ^ l ≤ r ∧ r < 2 ^ (l + 1) := by
      have a := (Nat.log2_lt (show r ≠ 0 by omega) (k := 52)).2 hr
      exact ⟨_, rfl, a, Nat.log2_self_le (by omega), Nat.lt_log2_self⟩
    obtain ⟨j, hj⟩ : ∃ j, l + j = 52 := ⟨52 - l, by omega⟩
    have hz : zOf r = 11 + j := by unfold zOf; rw [hm, hl1]; omega
    have he : eOf r = -1085 - (j : Int) := by unfold eOf; rw [hz, hk]; omega
    have hsk : skewOf r = false := by
      unfold skewOf
      rw [he, Bool.and_eq_false_iff]
      right
      rw [decide_eq_false_iff_not]
      omega
    have hp : goP r = pOf (-1085) := by
      unfold goP
      rw [if_neg (by rw [hsk]; decide), he, if_neg (by omega)]
    have e2 : 2 ^ (11 + j) = 2 * 2 ^ (10 + j) := by rw [show 11 + j = 10 + j + 1 by omega, Nat.pow_succ']
    have emax : maxOf r = r * (2 * 2 ^ (10 + j)) + 2 ^ (10 + j) := by
      unfold maxOf mOf
      rw [hm, hz, e2, show 11 + j - 1 = 10 + j by omega]
    have emin : minOf r + 2 ^ (10 + j) = r * (2 * 2 ^ (10 + j)) := by
      unfold minOf mOf
      rw [hm, hz, hsk, e2, if_neg (by decide), show 11 + j - 1 = 10 + j by omega]
      have := Nat.mul_le_mul_right (2 * 2 ^ (10 + j)) h1
      omega
    have em : mOf r = r * (2 * 2 ^ (10 + j)) := by unfold mOf; rw [hm, hz, e2]
    have hZ : 2 ≤ 2 ^ (10 + j) := by
      rw [Nat.pow_add]
      exact Nat.le_trans (by decide) (Nat.le_mul_of_pos_right _ (Nat.two_pow_pos j))
    have hbound : r * (2 * 2 ^ (10 + j)) + 2 * 2 ^ (10 + j) ≤ 18446744073709551616 := by
      have a := Nat.mul_le_mul_right (2 * 2 ^ (10 + j)) (show r + 1 ≤ 2 ^ (l + 1) from hl3.2)
      have b : 2 ^ (l + 1) * (2 * 2 ^ (10 + j)) = 18446744073709551616 := by
        rw [← Nat.pow_succ', ← Nat.pow_add, show l + 1 + (10 + j).succ = 64 by omega]
      rw [Nat.add_mul, Nat.one_mul] at a
      omega
    have hvl := val_eq r
    rw [hm, hk] at hvl
    have hh := high_eq r
    have hlo := low_eq h1 (.inr (by omega))
    rw [hk] at hh hlo
    have hstep : 2 ^ (10 + j) * 2 ^ (54 - j) = 18446744073709551616 := by
      rw [← Nat.pow_add, show 10 + j + (54 - j) = 64 by omega]
    have hr2 : 2 ^ (10 + j) ≤ r * 2 ^ (10 + j) := Nat.le_mul_of_pos_left _ h1
    have e3 : r * (2 * 2 ^ (10 + j)) = 2 * (r * 2 ^ (10 + j)) := Nat.mul_left_comm _ _ _
    refine go_fin (z := 11 + j) (w := 4) (step := 2 ^ (10 + j)) (Y := 2 ^ (54 - j)) hz ?_ ?_ ?_ ?_ (by omega) (by omega) (by omega) (by omega) (by omega) (by rw [e2]; omega) (.inl (by omega)) ?_ ?_ ?_ ?_
    · rw [he, hp]
      exact sub_parts (by omega)
    · refine ⟨2 * r - 1, ?_⟩
      rw [Nat.mul_sub, Nat.mul_one, ← Nat.mul_assoc, Nat.mul_comm (2 ^ (10 + j) * 2), Nat.mul_comm (2 ^ (10 + j)) 2]
      omega
    · rw [em]
      exact ⟨r * 2, by ac_rfl⟩
    · rw [emax]
      exact ⟨r * 2 + 1, by rw [Nat.mul_add, Nat.mul_one]; ac_rfl⟩
    · rw [hk, e2]
      exact lin_low (M := r) (P := 1) hvl hlo emin
    · rw [hk, e2]
      exact lin_high (M := r) (P := 1) hvl hh emax
    · rw [hk, e2]
      exact lin_val (M := r) (P := 1) hvl em
    · intro h
      omega
  · have hm : mantOf r = 4503599627370496 + r % 4503599627370496 := if_neg hr
    obtain ⟨M, hM⟩ : ∃ M, mantOf r = M := ⟨_, rfl⟩
    have hM1 : 4503599627370496 ≤ M := by omega
    have hM2 : M < 9007199254740992 := by omega
    have hz : zOf r = 11 := by
      unfold zOf
      rw [hM, log2_eq (k := 52) hM1 hM2]
    obtain ⟨k, hk⟩ : ∃ k, kOf r = k := ⟨_, rfl⟩
    have hk2 : k + 1 = r / 4503599627370496 := by unfold kOf at hk; omega
    have he : eOf r = (k : Int) - 1085 := by unfold eOf; rw [hz, hk]; omega
    have em : mOf r = M * (2 * 1024) := by unfold mOf; rw [hM, hz]
    have emax : maxOf r = M * (2 * 1024) + 1024 := by unfold maxOf; rw [em, hz]
    have hvl := val_eq r
    rw [hM, hk] at hvl
    have hh := high_eq r
    rw [hk] at hh
    have hw := whole_at hz
    by_cases hsk : skewOf r = true
    · have hsk' := hsk
      unfold skewOf at hsk'
      rw [Bool.and_eq_true, beq_iff_eq, decide_eq_true_eq, he, em] at hsk'
      have hM0 : M = 4503599627370496 := by omega
      have hk0 : 1 ≤ k := by omega
      have hp : goP r = pSk ((k : Int) - 1085) := by unfold goP; rw [if_pos hsk, he]
      have emin : minOf r + 512 = M * (4 * 512) := by
        unfold minOf
        rw [em, hz, hsk, if_pos rfl]
        omega
      have hlo := low_skew h1 (by omega) (by omega)
      rw [hk] at hlo
      refine go_fin (z := 11) (w := 3) (step := 512) (Y := 36028797018963968) hz ?_ (by omega) (by omega) (by omega) (by omega) (by omega) (by omega) (by omega) (by omega) (by omega) (.inr ⟨by omega, by omega⟩) ?_ ?_ ?_ ?_
      · rw [he, hp]
        exact (exp_parts (by omega)).2
      · rw [hk, show (2 : Nat) ^ 11 = 4 * 512 from rfl, Nat.pow_succ']
        exact lin_skew (M := M) hvl hlo emin
      · rw [hk, show (2 : Nat) ^ 11 = 2 * 1024 from rfl, Nat.pow_succ']
        exact lin_high (M := M) hvl hh emax
      · rw [hk, show (2 : Nat) ^ 11 = 2 * 1024 from rfl, Nat.pow_succ']
        exact lin_val (M := M) hvl em
      · intro h
        exact hw (by omega)
    · have hsk' := hsk
      unfold skewOf at hsk'
      rw [Bool.and_eq_true, beq_iff_eq, decide_eq_true_eq, he, em] at hsk'
      have hp : goP r = pOf ((k : Int) - 1085) := by unfold goP; rw [if_neg hsk, he, if_pos (by omega)]
      have emin : minOf r + 1024 = M * (2 * 1024) := by
        unfold minOf
        rw [em, hz, if_neg hsk]
        omega
      have hlo := low_eq h1 (by omega)
      rw [hk] at hlo
      refine go_fin (z := 11) (w := 4) (step := 512) (Y := 36028797018963968) hz ?_ (by omega) (by omega) (by omega) (by omega) (by omega) (by omega) (by omega) (by omega) (by omega) (.inl (by omega)) ?_ ?_ ?_ ?_
      · rw [he, hp]
        exact (exp_parts (by omega)).1
      · rw [hk, show (2 : Nat) ^ 11 = 2 * 1024 from rfl, Nat.pow_succ']
        exact lin_low (M := M) hvl hlo emin
      · rw [hk, show (2 : Nat) ^ 11 = 2 * 1024 from rfl, Nat.pow_succ']
        exact lin_high (M := M) hvl hh emax
      · rw [hk, show (2 : Nat) ^ 11 = 2 * 1024 from rfl, Nat.pow_succ']
        exact lin_val (M := M) hvl em
      · intro h
        exact hw (by omega)
end Us
end Go.Proofs.YtelgobelbeabaaaGreatDoor
namespace Go.Proofs.YtelgobelbeabaaaGreatDoor
namespace Us

theorem read_rung {r : Nat} (h : r < infR) : Ieee.double.read r = .number false (mantOf r) ((kOf r : Int) - 1074) := by
  unfold Ieee.Format.read
  have e1 : Ieee.double.leastPlace = -1074 := by decide
  have e2 : Ieee.double.binade = 4503599627370496 := by decide
  have e3 : Ieee.double.infRung = infR := by decide
  have e4 : Ieee.double.signWeight = 9223372036854775808 := by decide
  have hs : r < 9223372036854775808 := by unfold infR at h; omega
  simp only [e1, e2, e3, e4, Nat.div_eq_of_lt hs, Nat.mod_eq_of_lt hs]
  unfold mantOf kOf
  by_cases h2 : r < 4503599627370496
  · rw [if_pos h2, if_pos h2, show r / 4503599627370496 - 1 = 0 by omega]
    rfl
  · rw [if_neg h2, if_pos h, if_neg h2]
    congr 1
theorem read_inf : Ieee.double.read infR = .infinity false := by decide +kernel
theorem mul_rung {a b : Nat} (ha : a < infR) (hb : b < infR) : Ieee.double.mul a b = some (Ieee.double.nearest false (mantOf a * mantOf b) ((kOf a : Int) - 1074 + ((kOf b : Int) - 1074))) := by
  unfold Ieee.Format.mul
  rw [read_rung ha, read_rung hb]
  rfl
theorem signed_eq (m up : Nat) : Ieee.signed false m up = ((m * 2 ^ up : Nat) : Int) := by
  unfold Ieee.signed
  rw [if_neg (by decide), Nat.shiftLeft_eq]
theorem order_rung {a b : Nat} (ha : a < infR) (hb : b < infR) : Ieee.double.order a b = some (compare a b) := by
  unfold Ieee.Format.order
  rw [read_rung ha, read_rung hb]
  unfold Ieee.Datum.order
  simp only [signed_eq]
  obtain ⟨base, hbase⟩ : ∃ base, min ((kOf a : Int) - 1074) ((kOf b : Int) - 1074) = base := ⟨_, rfl⟩
  rw [hbase]
  have va : mantOf a * 2 ^ ((kOf a : Int) - 1074 - base).toNat * 2 ^ (base + 1074).toNat = val a := by
    rw [val_eq, Nat.mul_assoc, ← Nat.pow_add]
    congr 2
    omega
  have vb : mantOf b * 2 ^ ((kOf b : Int) - 1074 - base).toNat * 2 ^ (base + 1074).toNat = val b := by
    rw [val_eq, Nat.mul_assoc, ← Nat.pow_add]
    congr 2
    omega
  have hP := Nat.two_pow_pos (base + 1074).toNat
  generalize mantOf a * 2 ^ ((kOf a : Int) - 1074 - base).toNat = x at *
  generalize mantOf b * 2 ^ ((kOf b : Int) - 1074 - base).toNat = y at *
  congr 1
  rcases Nat.lt_trichotomy a b with g | g | g
  · have h := val_lt g
    rw [← va, ← vb] at h
    have hxy := Nat.lt_of_mul_lt_mul_right h
    rw [Int.compare_eq_lt.2 (by omega), Nat.compare_eq_lt.2 g]
  · subst g
    have hxy := Nat.eq_of_mul_eq_mul_right hP (va.trans vb.symm)
    subst hxy
    rw [Int.compare_eq_eq.2 rfl, Nat.compare_eq_eq.2 rfl]
  · have h := val_lt g
    rw [← va, ← vb] at h
    have hxy := Nat.lt_of_mul_lt_mul_right h
    rw [Int.compare_eq_gt.2 (by omega), Nat.compare_eq_gt.2 g]
end Us
end Go.Proofs.YtelgobelbeabaaaGreatDoor
namespace Go.Proofs.YtelgobelbeabaaaGreatDoor
namespace Us

/-- The 53 digits of a whole number, the first one not nought. -/
def wOf (m : Nat) : Nat := if m = 9007199254740992 then 4503599627370496 else m * 2 ^ (52 - m.log2)
theorem log_lt {m : Nat} (h1 : 1 ≤ m) (h2 : m < 9007199254740992) : m.log2 ≤ 52 := by
  have := (Nat.log2_lt (show m ≠ 0 by omega) (k := 53)).2 (by rw [show (2 : Nat) ^ 53 = 9007199254740992 by decide]; exact h2)
  omega
theorem log_top : Nat.log2 9007199254740992 = 53 := log2_eq (by decide) (by decide)
theorem wOf_bounds {m : Nat} (h1 : 1 ≤ m) (h2 : m ≤ 9007199254740992) : 4503599627370496 ≤ wOf m ∧ wOf m < 9007199254740992 := by
  unfold wOf
  by_cases h : m = 9007199254740992
  · rw [if_pos h]
    omega
  · rw [if_neg h]
    have hL := log_lt h1 (by omega)
    have a : 2 ^ m.log2 ≤ m := Nat.log2_self_le (by omega)
    have b : m < 2 ^ (m.log2 + 1) := Nat.lt_log2_self
    have ha := Nat.mul_le_mul_right (2 ^ (52 - m.log2)) a
    have hb := Nat.mul_lt_mul_of_pos_right b (Nat.two_pow_pos (52 - m.log2))
    rw [← Nat.pow_add] at ha hb
    rw [show m.log2 + (52 - m.log2) = 52 by omega] at ha
    rw [show m.log2 + 1 + (52 - m.log2) = 53 by omega] at hb
    exact ⟨ha, hb⟩
theorem nearest_w {m : Nat} (h1 : 1 ≤ m) (h2 : m ≤ 9007199254740992) (E : Int) : Ieee.double.nearest false (wOf m) (E + m.log2 - 52) = Ieee.double.nearest false m E := by
  unfold wOf
  by_cases h : m = 9007199254740992
  · rw [if_pos h]
    subst h
    rw [log_top]
    have := nearest_shift 4503599627370496 1 (E + 1) (by decide)
    rw [show 4503599627370496 * 2 ^ 1 = 9007199254740992 by decide] at this
    rw [show E + ((53 : Nat) : Int) - 52 = E + 1 by omega, ← this]
    congr 1
    omega
  · rw [if_neg h]
    have hL := log_lt h1 (by omega)
    rw [← nearest_shift m (52 - m.log2) E (by omega)]
    congr 1
    omega
theorem w_log {m : Nat} (h1 : 1 ≤ m) (h2 : m ≤ 9007199254740992) : (wOf m).log2 = 52 := by
  have := wOf_bounds h1 h2
  exact log2_eq this.1 this.2
theorem log_le {m : Nat} (h1 : 1 ≤ m) (h2 : m ≤ 9007199254740992) : m.log2 ≤ 53 := by
  rcases Nat.lt_or_ge m 9007199254740992 with h | h
  · have := log_lt h1 h
    omega
  · rw [show m = 9007199254740992 by omega, log_top]
    exact Nat.le_refl _
/-- A normal number's bits. -/
theorem nearest_bits {m : Nat} (h1 : 1 ≤ m) (h2 : m ≤ 9007199254740992) (E : Int) (he : -1022 ≤ E + m.log2) (he2 : E + m.log2 ≤ 1023) :
    Ieee.double.nearest false m E = (E + m.log2 + 1022).toNat * 4503599627370496 + wOf m := by
  rw [← nearest_w h1 h2, nearest_held (L := 52) (w_log h1 h2) (by have := wOf_bounds h1 h2; omega) (Nat.le_refl _) (by omega) (by omega), Nat.sub_self, Nat.pow_zero, Nat.mul_one, show E + (m.log2 : Int) - 52 + ((52 : Nat) : Int) + 1022 = E + m.log2 + 1022 by omega]
/-- What math.Ldexp does: the exponent put in, times one, or times 2 to the -53. -/
theorem ld_mul {m : Nat} (h1 : 1 ≤ m) (h2 : m ≤ 9007199254740992) (E : Int) (c k t : Nat) (hc : c = k * 4503599627370496) (hk : 1 ≤ k) (hk2 : k ≤ 1023) (ht : 1 ≤ t) (ht2 : t ≤ 2046) (he : (t : Int) = E + m.log2 + 1023 + (1023 - k)) :
    Ieee.double.mul c (t * 4503599627370496 + (wOf m - 4503599627370496)) = some (Ieee.double.nearest false m E) := by
  have hw := wOf_bounds h1 h2
  rw [mul_rung (by unfold infR; omega) (by unfold infR; omega)]
  have e1 : mantOf c = 4503599627370496 := by unfold mantOf; rw [if_neg (by omega)]; omega
  have e2 : mantOf (t * 4503599627370496 + (wOf m - 4503599627370496)) = wOf m := by unfold mantOf; rw [if_neg (by omega)]; omega
  have e3 : kOf c = k - 1 := by unfold kOf; omega
  have e4 : kOf (t * 4503599627370496 + (wOf m - 4503599627370496)) = t - 1 := by unfold kOf; omega
  rw [e1, e2, e3, e4, Nat.mul_comm, ← nearest_w h1 h2]
  have := nearest_shift (wOf m) 52 (E + m.log2 - 52) (by omega)
  rw [show (2 : Nat) ^ 52 = 4503599627370496 by decide] at this
  rw [← this, show ((k - 1 : Nat) : Int) - 1074 + (((t - 1 : Nat) : Int) - 1074) = E + (m.log2 : Int) - 52 - ((52 : Nat) : Int) by omega]
/-- Too great a number. -/
theorem nearest_inf {m : Nat} (h1 : 1 ≤ m) (E : Int) (he : 1024 ≤ E + m.log2) : Ieee.double.nearest false m E = infR := by
  rw [nearest_eq m E h1 (E + m.log2 - 52) (by omega)]
  apply Nat.min_eq_right
  unfold infR
  have h : 4503599627370496 * 2 ^ ((E + (m.log2 : Int) - 52) - E).toNat ≤ m * 2 ^ (E - (E + (m.log2 : Int) - 52)).toNat := by
    refine Nat.le_trans ?_ (Nat.mul_le_mul_right _ (Nat.log2_self_le (show m ≠ 0 by omega)))
    rw [show (4503599627370496 : Nat) = 2 ^ 52 by decide, ← Nat.pow_add, ← Nat.pow_add]
    exact Nat.pow_le_pow_right (by decide) (by omega)
  obtain ⟨q, hq, c1, c2, c3⟩ := cut_even (m * 2 ^ (E - (E + (m.log2 : Int) - 52)).toNat) ((E + (m.log2 : Int) - 52) - E).toNat
  rw [hq]
  have hq52 : 4503599627370496 ≤ q := by
    have hG := Nat.two_pow_pos ((E + (m.log2 : Int) - 52) - E).toNat
    generalize 2 ^ ((E + (m.log2 : Int) - 52) - E).toNat = G at *
    rcases Nat.lt_or_ge q 4503599627370496 with h2 | h2
    · have := Nat.mul_le_mul_right G (show q + 1 ≤ 4503599627370496 from h2)
      rw [Nat.add_mul, Nat.one_mul] at this
      omega
    · exact h2
  omega
end Us
end Go.Proofs.YtelgobelbeabaaaGreatDoor
namespace Go.Proofs.YtelgobelbeabaaaGreatDoor
namespace Us

theorem in_rnd {r c : Nat} {j : Int} (hr : r < infR) : In r c j ↔ Rnd r (c * hiP j * tiny) (loQ j) := by
  unfold In Rnd dv
  constructor
  · intro h
    refine ⟨Nat.le_of_lt hr, ?_⟩
    split
    · rename_i hp; rw [if_pos hp] at h; exact ⟨h.1, fun _ => h.2⟩
    · rename_i hp; rw [if_neg hp] at h; exact h
  · rintro ⟨-, h⟩
    split
    · rename_i hp; rw [if_pos hp] at h; exact ⟨h.1, h.2 hr⟩
    · rename_i hp; rw [if_neg hp] at h; exact h
/-- Is a decimal no greater than a rung's number? -/
def Le (r c : Nat) (j : Int) : Prop := dv c j ≤ 2 * val r * loQ j
theorem le_ten (r c : Nat) (j : Int) : Le r (10 * c) j ↔ Le r c (j + 1) := by
  unfold Le
  rcases dv_ten c j with ⟨h1, h2⟩ | ⟨h1, h2⟩
  · rw [h1, h2]
  · rw [h1, h2, Nat.mul_left_comm]
    omega
theorem le_pow (r c : Nat) (j : Int) (k : Nat) : Le r (c * 10 ^ k) j ↔ Le r c (j + k) := by
  induction k generalizing c j with
  | zero => simp
  | succ k ih =>
    rw [Nat.pow_succ, ← Nat.mul_assoc, Nat.mul_comm _ 10, le_ten, ih]
    rw [show j + 1 + (k : Int) = j + ((k + 1 : Nat) : Int) by omega]
theorem Le.mono {r c d : Nat} {j : Int} (h : Le r d j) (hcd : c ≤ d) : Le r c j := Nat.le_trans (dv_le hcd j) h
theorem in_up {r c q : Nat} {j : Int} (h : In r c j) (hcq : c ≤ q) (hq : Le r q j) : In r q j := by
  have d := dv_le hcq j
  have e := Nat.mul_lt_mul_of_pos_right (lt_high r) (loQ_pos j)
  unfold Le at hq
  unfold In at *
  split at h <;> rename_i hp
  · rw [if_pos hp]
    omega
  · rw [if_neg hp]
    omega
theorem in_down {r c q : Nat} {j : Int} (h1 : 1 ≤ r) (h : In r c j) (hcq : q ≤ c) (hq : ¬ Le r q j) : In r q j := by
  have d := dv_le hcq j
  have e := Nat.mul_lt_mul_of_pos_right (low_lt r h1) (loQ_pos j)
  unfold Le at hq
  unfold In at *
  split at h <;> rename_i hp
  · rw [if_pos hp]
    omega
  · rw [if_neg hp]
    omega
theorem in_pos {r c : Nat} {j : Int} (h1 : 1 ≤ r) (h : In r c j) : 1 ≤ c := by
  rcases Nat.eq_zero_or_pos c with rfl | hc
  · have h0 : 0 < low2 r * loQ j := Nat.mul_pos (by
      unfold low2
      have := val_lt (show r - 1 < r by omega)
      omega) (loQ_pos j)
    have hz : dv 0 j = 0 := by simp [dv]
    unfold In at h
    rw [hz] at h
    split at h <;> omega
  · exact hc
theorem in_le_high {r c : Nat} {j : Int} (h : In r c j) : dv c j ≤ high2 r * loQ j := by
  unfold In at h
  split at h
  · exact h.2
  · exact Nat.le_of_lt h.2
/-- Neither of the two decimals about a rung's number rounds to it: then none of as many digits does. -/
theorem none_in {r q : Nat} {j : Int} (h1 : 1 ≤ r) (hq : Le r q j) (hq' : ¬ Le r (q + 1) j) (n1 : ¬ In r q j) (n2 : ¬ In r (q + 1) j) (c : Nat) : ¬ In r c j := by
  intro h
  rcases Nat.lt_or_ge q c with g | g
  · exact n2 (in_down h1 h g hq')
  · exact n1 (in_up h g hq)
theorem dv_mul (c : Nat) (j : Int) : dv c j = c * dv 1 j := by
  unfold dv
  rw [Nat.one_mul, Nat.mul_left_comm c 2, Nat.mul_assoc c]
theorem val_ge_ulp {r : Nat} (h1 : 1 ≤ r) : ulp r ≤ val r := by
  unfold val ulp
  split
  · rw [show r / 4503599627370496 - 1 = 0 by omega]
    exact h1
  · exact Nat.le_mul_of_pos_left _ (by omega)
def tenOK (r : Nat) (j : Int) : Bool := !(decide (1 ≤ r) && decide (dv 1 j ≤ 2 * r * loQ j) && decide (2 * r * loQ j < dv 10 j) && decide (dv 10 j ≤ (2 * r + 1) * loQ j) && decide (2 * (2 * r * loQ j) ≤ dv 9 j + dv 10 j))
theorem ten_small : (List.range 10).all (fun r => tenOK r (-324) && tenOK r (-323)) = true := by decide +kernel
theorem ten_said {r : Nat} {j : Int} (h : tenOK r j = true) (h1 : 1 ≤ r) (h2 : dv 1 j ≤ 2 * r * loQ j) (h3 : 2 * r * loQ j < dv 10 j) (h4 : dv 10 j ≤ (2 * r + 1) * loQ j) (h5 : 2 * (2 * r * loQ j) ≤ dv 9 j + dv 10 j) : False := by
  unfold tenOK at h
  rw [decide_eq_true h1, decide_eq_true h2, decide_eq_true h3, decide_eq_true h4, decide_eq_true h5] at h
  exact absurd h (by decide)
theorem ten_pows (a b c : Nat) (h : a + b ≤ c) : 10 ^ a * 10 ^ b ≤ 10 ^ c := by
  rw [← Nat.pow_add]
  exact Nat.pow_le_pow_right (by decide) h
theorem ten_pows' (a b c : Nat) (h : c ≤ a + b) : 10 ^ c ≤ 10 ^ a * 10 ^ b := by
  rw [← Nat.pow_add]
  exact Nat.pow_le_pow_right (by decide) h
theorem tiny_edges : 9 * 10 ^ 161 * 10 ^ 161 < tiny ∧ 10 * tiny < 10 ^ 163 * 10 ^ 162 := by decide +kernel
/-- Where a rung's number is no nearer to ten than to nine of a decimal place, ten does not round to it. -/
theorem no_ten {r : Nat} {j : Int} (h1 : 1 ≤ r) (hl : Le r 1 j) (hl' : ¬ Le r 10 j) (h9 : 2 * (2 * val r * loQ j) ≤ dv 9 j + dv 10 j) : ¬ In r 10 j := by
  intro hi
  have hh := in_le_high hi
  have hv := val_succ r
  have hu := val_ge_ulp h1
  have hQ := loQ_pos j
  unfold Le at hl hl'
  have hhe : high2 r * loQ j = 2 * val r * loQ j + ulp r * loQ j := by rw [high2, hv, ← Nat.add_mul]; congr 1; omega
  rw [hhe] at hh
  have e9 := dv_mul 9 j
  have e10 := dv_mul 10 j
  have hlt : 2 * val r * loQ j < 20 * ulp r * loQ j := by
    rw [Nat.mul_assoc 20]
    omega
  have hv10 : val r < 10 * ulp r := by
    have := Nat.lt_of_mul_lt_mul_right hlt
    omega
  have hr10 : r < 10 := by
    unfold val ulp at hv10
    split at hv10
    · rw [show r / 4503599627370496 - 1 = 0 by omega] at hv10
      simpa using hv10
    · have := Nat.lt_of_mul_lt_mul_right hv10
      omega
  have hvr : val r = r := by unfold val; rw [if_pos (by omega)]
  have hur : ulp r = 1 := by unfold ulp; rw [show r / 4503599627370496 - 1 = 0 by omega, Nat.pow_zero]
  rw [hvr, hur] at hh
  rw [hvr] at hl hl' h9
  have hhn : dv 10 j ≤ (2 * r + 1) * loQ j := by rw [Nat.add_mul]; exact hh
  obtain ⟨t1, t2⟩ := tiny_edges
  have hj1 : -325 < j := by
    rcases Int.lt_or_le (-325) j with g | g
    · exact g
    · exfalso
      have hp : hiP j = 1 := by unfold hiP; rw [show j.toNat = 0 by omega, Nat.pow_zero]
      have hq : 10 ^ 163 * 10 ^ 162 ≤ loQ j := by
        unfold loQ
        exact ten_pows _ _ _ (by omega)
      have hd : dv 10 j = 20 * tiny := by unfold dv; rw [hp]; omega
      rw [hd] at hl'
      have : 2 * 1 * loQ j ≤ 2 * r * loQ j := Nat.mul_le_mul_right _ (by omega)
      generalize 10 ^ 163 * 10 ^ 162 = X at *
      generalize tiny = T at *
      omega
  have hj2 : j < -322 := by
    rcases Int.lt_or_le j (-322) with g | g
    · exact g
    · exfalso
      have hp := hiP_pos j
      have hq : loQ j ≤ 10 ^ 161 * 10 ^ 161 := by
        unfold loQ
        exact ten_pows' _ _ _ (by omega)
      have hd : 2 * tiny ≤ dv 1 j := by
        unfold dv
        rw [Nat.one_mul]
        exact Nat.mul_le_mul_left 2 (Nat.le_mul_of_pos_left _ hp)
      have : 2 * r * loQ j ≤ 18 * loQ j := Nat.mul_le_mul_right _ (by omega)
      rw [Nat.mul_assoc] at t1
      generalize 10 ^ 161 * 10 ^ 161 = X at *
      generalize tiny = T at *
      omega
  have hj : j = -324 ∨ j = -323 := by omega
  rcases hj with rfl | rfl
  · exact ten_said (Bool.and_eq_true_iff.1 (List.all_eq_true.1 ten_small r (List.mem_range.2 hr10))).1 h1 hl (by omega) hhn h9
  · exact ten_said (Bool.and_eq_true_iff.1 (List.all_eq_true.1 ten_small r (List.mem_range.2 hr10))).2 h1 hl (by omega) hhn h9
/-- No shorter decimal rounds to a rung: of what is said of each place above. -/
theorem top_of {r : Nat} {n : Int} {k : Nat} (h1 : 1 ≤ r) (hn1 : Le r 1 (n - 1)) (hn2 : ¬ Le r 1 n) (hno : ∀ k' : Nat, 1 ≤ k' → k' < k → ∀ c, ¬ In r c (n - k')) (hk : 1 ≤ k)
    (h9 : k = 1 → 2 * (2 * val r * loQ (n - 1)) ≤ dv 9 (n - 1) + dv 10 (n - 1)) (c' : Nat) (j' : Int) (h : In r c' j') : j' ≤ n - k := by
  rcases Int.lt_or_le (n - k) j' with g | g
  · exfalso
    rcases Int.lt_or_le (n - 1) j' with g2 | g2
    · obtain ⟨t, ht⟩ : ∃ t : Nat, j' = n - 1 + 1 + (t : Int) := ⟨(j' - n).toNat, by omega⟩
      rw [ht] at h
      have h2 := (in_ten r _ _).2 ((in_pow r c' (n - 1 + 1) t).2 h)
      rcases Nat.lt_or_ge 1 k with g3 | g3
      · exact hno 1 (by omega) g3 _ (by simpa using h2)
      · have hn10 : ¬ Le r 10 (n - 1) := by
          intro hc
          have := (le_ten r 1 (n - 1)).1 hc
          rw [show n - 1 + 1 = n by omega] at this
          exact hn2 this
        have hc1 : 1 ≤ c' * 10 ^ t := Nat.mul_pos (in_pos h1 h) (Nat.pow_pos (by decide))
        exact no_ten h1 hn1 hn10 (h9 (by omega)) (in_down h1 h2 (by omega) hn10)
    · have hk' : (n - j').toNat < k := by omega
      refine hno (n - j').toNat (by omega) hk' c' ?_
      rw [show n - (((n - j').toNat : Nat) : Int) = j' by omega]
      exact h
  · exact g
theorem dst_below {a x : Nat} (h : a ≤ x) : dst a x = x - a := by unfold dst; omega
theorem dst_above {a x : Nat} (h : x ≤ a) : dst a x = a - x := by unfold dst; omega
section
variable {r q : Nat} {n : Int} {k : Nat} (h1 : 1 ≤ r) (hn1 : Le r 1 (n - 1)) (hn2 : ¬ Le r 1 n) (hno : ∀ k' : Nat, 1 ≤ k' → k' < k → ∀ c, ¬ In r c (n - k')) (hk : 1 ≤ k)
  (hq : Le r q (n - k)) (hq' : ¬ Le r (q + 1) (n - k))
include h1 hn1 hn2 hno hk hq hq'
omit h1 hno in
/-- The quotient has so many digits. -/
theorem quo_digits : 10 ^ (k - 1) ≤ q ∧ q < 10 ^ k := by
  have a : Le r (1 * 10 ^ (k - 1)) (n - k) := (le_pow r 1 (n - k) (k - 1)).2 (by rw [show n - (k : Int) + ((k - 1 : Nat) : Int) = n - 1 by omega]; exact hn1)
  have b : ¬ Le r (1 * 10 ^ k) (n - k) := fun h => hn2 (by
    have := (le_pow r 1 (n - k) k).1 h
    rw [show n - (k : Int) + (k : Int) = n by omega] at this
    exact this)
  rw [Nat.one_mul] at a b
  constructor
  · rcases Nat.lt_or_ge q (10 ^ (k - 1)) with g | g
    · exact (hq' (a.mono g)).elim
    · exact g
  · rcases Nat.lt_or_ge q (10 ^ k) with g | g
    · exact g
    · exact (b (hq.mono g)).elim
/-- The lower one of the two. -/
theorem dig_low (hin : In r q (n - k)) (hc : ¬ In r (q + 1) (n - k) ∨ 2 * (2 * val r * loQ (n - k)) < dv q (n - k) + dv (q + 1) (n - k) ∨ (2 * (2 * val r * loQ (n - k)) = dv q (n - k) + dv (q + 1) (n - k) ∧ q % 2 = 0)) : Short r q (n - k) := by
  have hqd := quo_digits hn1 hn2 hk hq hq'
  have hle := hq
  have hgt := hq'
  unfold Le at hle hgt
  have htop : ∀ c' j', In r c' j' → j' ≤ n - k := by
    intro c' j' hi
    refine Classical.byContradiction fun hcon => ?_
    rcases Nat.lt_or_ge 1 k with g3 | g3
    · exact hcon (top_of h1 hn1 hn2 hno hk (by omega) c' j' hi)
    · have hk1 : k = 1 := by omega
      subst hk1
      have hin' : In r (q + 1) (n - 1) ∨ ¬ In r (q + 1) (n - 1) := Classical.em _
      rcases hin' with g | g
      · refine hcon (top_of h1 hn1 hn2 hno hk (fun _ => ?_) c' j' hi)
        have d1 := dv_le (show q ≤ 9 by omega) (n - 1)
        have d2 := dv_le (show q + 1 ≤ 10 by omega) (n - 1)
        have hc' : ¬ In r (q + 1) (n - ((1 : Nat) : Int)) ∨ 2 * (2 * val r * loQ (n - 1)) < dv q (n - 1) + dv (q + 1) (n - 1) ∨ (2 * (2 * val r * loQ (n - 1)) = dv q (n - 1) + dv (q + 1) (n - 1) ∧ q % 2 = 0) := hc
        rcases hc' with g2 | g2 | g2
        · exact (g2 g).elim
        · omega
        · omega
      · obtain ⟨t, ht⟩ : ∃ t : Nat, j' = n - 1 + 1 + (t : Int) := ⟨(j' - n).toNat, by
          have hcon' : ¬ j' ≤ n - ((1 : Nat) : Int) := hcon
          omega⟩
        rw [ht] at hi
        have h2 := (in_ten r _ _).2 ((in_pow r c' (n - 1 + 1) t).2 hi)
        have hc1 : 1 ≤ c' * 10 ^ t := Nat.mul_pos (in_pos h1 hi) (Nat.pow_pos (by decide))
        exact g (in_down h1 h2 (by omega) hq')
  refine ⟨hin, htop, fun c' hi => ?_, fun c' hi hne heq => ?_⟩
  · rcases Nat.lt_or_ge q c' with g | g
    · have hb := dv_le (show q + 1 ≤ c' from g) (n - k)
      have hiq := in_down h1 hi g hq'
      rw [dst_below hle, dst_above (by omega)]
      rcases hc with g2 | g2 | g2
      · exact (g2 hiq).elim
      · omega
      · omega
    · have hb := dv_le g (n - k)
      rw [dst_below hle, dst_below (by omega)]
      omega
  · rcases Nat.lt_or_ge q c' with g | g
    · have hb := dv_le (show q + 1 ≤ c' from g) (n - k)
      have hiq := in_down h1 hi g hq'
      rw [dst_below hle, dst_above (by omega)] at heq
      rcases hc with g2 | g2 | g2
      · exact (g2 hiq).elim
      · omega
      · exact g2.2
    · have hb := dv_le (show c' + 1 ≤ q by omega) (n - k)
      rw [dv_succ] at hb
      have hp := dv1_pos (n - k)
      rw [dst_below hle, dst_below (by omega)] at heq
      omega
/-- The upper one of the two, of as many digits. -/
theorem dig_high (hin : In r (q + 1) (n - k)) (hc : ¬ In r q (n - k) ∨ dv q (n - k) + dv (q + 1) (n - k) < 2 * (2 * val r * loQ (n - k)) ∨ (2 * (2 * val r * loQ (n - k)) = dv q (n - k) + dv (q + 1) (n - k) ∧ q % 2 = 1)) (hlt : q + 1 < 10 ^ k) : Short r (q + 1) (n - k) := by
  have hle := hq
  have hgt := hq'
  unfold Le at hle hgt
  have htop : ∀ c' j', In r c' j' → j' ≤ n - k := by
    refine top_of h1 hn1 hn2 hno hk (fun hk1 => ?_)
    subst hk1
    have d1 := dv_le (show q + 1 ≤ 9 by omega) (n - 1)
    have d2 := dv_le (show 9 ≤ 10 by omega) (n - 1)
    have hgt' : ¬ dv (q + 1) (n - 1) ≤ 2 * val r * loQ (n - 1) := hgt
    omega
  refine ⟨hin, htop, fun c' hi => ?_, fun c' hi hne heq => ?_⟩
  · rcases Nat.lt_or_ge q c' with g | g
    · have hb := dv_le (show q + 1 ≤ c' from g) (n - k)
      rw [dst_above (by omega), dst_above (by omega)]
      omega
    · have hb := dv_le g (n - k)
      have hiq := in_up hi g hq
      rw [dst_above (by omega), dst_below (by omega)]
      rcases hc with g2 | g2 | g2
      · exact (g2 hiq).elim
      · omega
      · omega
  · rcases Nat.lt_or_ge q c' with g | g
    · have hb := dv_le (show q + 1 + 1 ≤ c' by omega) (n - k)
      rw [dv_succ (q + 1)] at hb
      have hp := dv1_pos (n - k)
      rw [dst_above (by omega), dst_above (by omega)] at heq
      omega
    · have hb := dv_le g (n - k)
      have hiq := in_up hi g hq
      rw [dst_above (by omega), dst_below (by omega)] at heq
      rcases hc with g2 | g2 | g2
      · exact (g2 hiq).elim
      · omega
      · omega
/-- The upper one of the two, where it has a digit more: then it is ten of the first place. -/
theorem dig_top (hin : In r (q + 1) (n - k)) (hge : 10 ^ k ≤ q + 1) : k = 1 ∧ q = 9 ∧ Short r 1 n := by
  have hqd := quo_digits hn1 hn2 hk hq hq'
  have hk1 : k = 1 := by
    rcases Nat.lt_or_ge 1 k with g3 | g3
    · exfalso
      refine hno 1 (by omega) g3 10 ?_
      have h10 : q + 1 = 10 * 10 ^ (k - 1) := by
        have : 10 ^ k = 10 * 10 ^ (k - 1) := by rw [← Nat.pow_succ', show (k - 1).succ = k by omega]
        omega
      rw [h10, in_pow, show n - (k : Int) + ((k - 1 : Nat) : Int) = n - ((1 : Nat) : Int) by omega] at hin
      exact hin
    · omega
  subst hk1
  have hq9 : q = 9 := by omega
  subst hq9
  refine ⟨rfl, rfl, ?_⟩
  have h10 : In r 1 n := by
    have h : In r (10 * 1) (n - 1) := hin
    rw [in_ten, show n - 1 + 1 = n by omega] at h
    exact h
  have hgt := hn2
  unfold Le at hgt
  refine ⟨h10, fun c' j' hi => ?_, fun c' hi => ?_, fun c' hi hne heq => ?_⟩
  · rcases Int.lt_or_le n j' with g | g
    · exfalso
      obtain ⟨t, ht⟩ : ∃ t : Nat, j' = n + 1 + (t : Int) := ⟨(j' - n - 1).toNat, by omega⟩
      rw [ht] at hi
      have h2 := (in_ten r _ _).2 ((in_pow r c' (n + 1) t).2 hi)
      have hc1 : 1 ≤ c' * 10 ^ t := Nat.mul_pos (in_pos h1 hi) (Nat.pow_pos (by decide))
      have hn10 : ¬ Le r 10 n := fun h => hn2 (h.mono (by decide))
      have h3 := in_le_high (in_down h1 h2 (by omega) hn10)
      have e10 := dv_mul 10 n
      have hhe : high2 r * loQ n = 2 * val r * loQ n + ulp r * loQ n := by rw [high2, val_succ, ← Nat.add_mul]; congr 1; omega
      have hu := Nat.mul_le_mul_right (loQ n) (val_ge_ulp h1)
      rw [Nat.mul_assoc] at hhe hgt
      omega
    · exact g
  · have hc1 := in_pos h1 hi
    have hb := dv_le hc1 n
    rw [dst_above (by omega), dst_above (by omega)]
    omega
  · have hc1 := in_pos h1 hi
    have hb := dv_le (show 1 + 1 ≤ c' by omega) n
    rw [dv_succ 1] at hb
    have hp := dv1_pos n
    rw [dst_above (by omega), dst_above (by omega)] at heq
    omega
end
/-- Where the shortest decimal is reached, one of the two rounds to the rung. -/
theorem dig_ends {r q c0 : Nat} {n j0 : Int} {k : Nat} (h1 : 1 ≤ r) (hq : Le r q (n - k)) (hq' : ¬ Le r (q + 1) (n - k)) (hs : In r c0 j0) (hk : n - k ≤ j0) : In r q (n - k) ∨ In r (q + 1) (n - k) := by
  refine Classical.byContradiction fun hcon => ?_
  have a : ¬ In r q (n - k) := fun h => hcon (.inl h)
  have b : ¬ In r (q + 1) (n - k) := fun h => hcon (.inr h)
  refine none_in h1 hq hq' a b (c0 * 10 ^ (j0 - (n - k)).toNat) ?_
  rw [in_pow, show n - (k : Int) + (((j0 - (n - k)).toNat : Nat) : Int) = j0 by omega]
  exact hs
end Us
end Go.Proofs.YtelgobelbeabaaaGreatDoor
