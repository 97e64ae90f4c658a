/-
  Plain laws: the lowest bit of a number, and how many noughts stand behind it (de Bruijn's way). No program in sight. Plain laws on what math.Frexp leaves: the 53 digits as a whole number, and that number as an integer. No program in sight. Contracts of math/bits.TrailingZeros64, math.Frexp, bignum.Parts. Conditions: de Bruijn's table lies where it lies; the float is a number that is not below nought. The contracts of bignum at named numbers: what a walk of numtext calls. Conditions: the rows are no longer than may be.
-/
import Derived.Test.YtdpbpdhamekcdaaGreatDoorBaM5
import Derived.Test.YtdpbpdhamekcdaaGreatDoorBaM2
import Derived.Laws.FloatArith
import Derived.Test.YtdpbpdhamekcdaaGreatDoorFxM25
import Derived.Test.YtdpbpdhamekcdaaGreatDoorBaM7
import Derived.Lib.AppendStr
namespace Go.Proofs.YtdpbpdhamekcdaaGreatDoor
namespace Us
theorem low_and {z k w : Nat} (hk : k < 2 ^ w) : (2 ^ z * (2 * k + 1)) &&& (2 ^ z * (2 * (2 ^ w - (k + 1)) + 1)) = 2 ^ z := by
  apply Nat.eq_of_testBit_eq
  intro i
  rw [Nat.testBit_and, Nat.testBit_two_pow_mul, Nat.testBit_two_pow_mul, Nat.testBit_two_pow]
  by_cases h : z ≤ i
  · obtain ⟨t, rfl⟩ : ∃ t, i = z + t := ⟨i - z, by omega⟩
    rw [Nat.add_sub_cancel_left]
    cases t with
    | zero => simp
    | succ t =>
      have e : ∀ x : Nat, (2 * x + 1).testBit (t + 1) = x.testBit t := fun x => by
        rw [Nat.testBit_succ]
        congr 1
        omega
      rw [e, e, Nat.testBit_two_pow_sub_succ hk]
      simp
      intro h
      simp [h]
  · have : ¬ z = i := by omega
    simp [h, this]
theorem neg_low {z k : Nat} (hz : z < 64) (hn : 2 ^ z * (2 * k + 1) < 18446744073709551616) : k < 2 ^ (63 - z) ∧ 18446744073709551616 - 2 ^ z * (2 * k + 1) = 2 ^ z * (2 * (2 ^ (63 - z) - (k + 1)) + 1) := by
  have e : (18446744073709551616 : Nat) = 2 ^ z * (2 * 2 ^ (63 - z)) := by
    rw [← Nat.pow_succ', ← Nat.pow_add, show z + (63 - z + 1) = 64 by omega]
  have hk : k < 2 ^ (63 - z) := by
    rw [e] at hn
    have := Nat.lt_of_mul_lt_mul_left hn
    omega
  refine ⟨hk, ?_⟩
  rw [e, ← Nat.mul_sub]
  congr 1
  omega
/-- x & -x. -/
theorem and_neg {n z k : Nat} (hn : n = 2 ^ z * (2 * k + 1)) (hl : n < 18446744073709551616) : z < 64 ∧ Go.bits .and .u64 (n : Int) (18446744073709551616 - (n : Int)) = ((2 ^ z : Nat) : Int) := by
  have hz : z < 64 := by
    rcases Nat.lt_or_ge z 64 with h | h
    · exact h
    · have a : 2 ^ 64 ≤ 2 ^ z := Nat.pow_le_pow_right (by decide) h
      have b : 2 ^ z ≤ 2 ^ z * (2 * k + 1) := Nat.le_mul_of_pos_right _ (by omega)
      rw [show (2 : Nat) ^ 64 = 18446744073709551616 by decide] at a
      omega
  refine ⟨hz, ?_⟩
  have hn0 : 0 < n := by rw [hn]; exact Nat.mul_pos (Nat.two_pow_pos z) (by omega)
  obtain ⟨hk, he⟩ := neg_low hz (by rw [← hn]; exact hl)
  rw [← hn] at he
  have e2 : (18446744073709551616 - (n : Int)) = ((18446744073709551616 - n : Nat) : Int) := by omega
  have h3 := low_and (z := z) hk
  rw [← hn, ← he] at h3
  have hlt : 2 ^ z < 18446744073709551616 := by
    have : 2 ^ z ≤ n := by rw [hn]; exact Nat.le_mul_of_pos_right _ (by omega)
    omega
  have e : (BitVec.ofInt 64 (n : Int) &&& BitVec.ofInt 64 ((18446744073709551616 - n : Nat) : Int)).toNat = 2 ^ z := by
    rw [BitVec.toNat_and, BitVec.ofInt_natCast, BitVec.ofInt_natCast, BitVec.toNat_ofNat, BitVec.toNat_ofNat, Nat.mod_eq_of_lt (by omega), Nat.mod_eq_of_lt (by omega)]
    exact h3
  rw [e2]
  show Go.IntKind.u64.wrap ((BitVec.ofInt 64 (n : Int) &&& BitVec.ofInt 64 ((18446744073709551616 - n : Nat) : Int)).toNat : Int) = _
  rw [e, Nv.wu64]
  omega
theorem odd_part {n : Nat} (h : 0 < n) : ∃ z k, n = 2 ^ z * (2 * k + 1) := by
  induction n using Nat.strongRecOn with
  | _ n ih =>
    by_cases h2 : n % 2 = 1
    · exact ⟨0, n / 2, by simp; omega⟩
    · obtain ⟨z, k, e⟩ := ih (n / 2) (by omega) (by omega)
      refine ⟨z + 1, k, ?_⟩
      rw [Nat.pow_succ, Nat.mul_right_comm, ← e]
      omega
theorem bruijn_all : (List.range 64).all (fun z => 2 ^ z * 285870213051353865 % 18446744073709551616 / 2 ^ 58 < 64) = true := by decide +kernel
end Us
end Go.Proofs.YtdpbpdhamekcdaaGreatDoor
namespace Go.Proofs.YtdpbpdhamekcdaaGreatDoor
namespace Us
/-- (1 + v / 2^52) / 2 times 2^53. -/
theorem frac_mul {v : Nat} (hv : v < 4503599627370496) : Ieee.double.mul (1022 * 4503599627370496 + v) 4845873199050653696 = some (1074 * 4503599627370496 + (4503599627370496 + v)) := by
  rw [mul_rung (by unfold infR; omega) (by unfold infR; omega)]
  have e1 : mantOf (1022 * 4503599627370496 + v) = 4503599627370496 + v := by unfold mantOf; rw [if_neg (by omega)]; omega
  have e2 : mantOf 4845873199050653696 = 4503599627370496 := by decide
  have e3 : kOf (1022 * 4503599627370496 + v) = 1021 := by unfold kOf; omega
  have e4 : kOf 4845873199050653696 = 1075 := by decide
  rw [e1, e2, e3, e4]
  have hs := nearest_shift (4503599627370496 + v) 52 0 (by omega)
  rw [show (2 : Nat) ^ 52 = 4503599627370496 by decide] at hs
  rw [show ((1021 : Nat) : Int) - 1074 + (((1075 : Nat) : Int) - 1074) = 0 - ((52 : Nat) : Int) by decide, hs]
  have hl : (4503599627370496 + v).log2 = 52 := log2_eq (by omega) (by omega)
  have hw : wOf (4503599627370496 + v) = 4503599627370496 + v := by
    unfold wOf
    rw [if_neg (by omega), hl, Nat.sub_self, Nat.pow_zero, Nat.mul_one]
  rw [nearest_bits (by omega) (by omega) 0 (by omega) (by omega), hl, hw]
  rfl
theorem to_int {m : Nat} (h1 : 4503599627370496 ≤ m) (h2 : m < 9007199254740992) : floatToIntVal .f64 (1074 * 4503599627370496 + m) .u64 = some (m : Int) := by
  have hr := read_rung (r := 1074 * 4503599627370496 + m) (by unfold infR; omega)
  have e1 : mantOf (1074 * 4503599627370496 + m) = m := by unfold mantOf; rw [if_neg (by omega)]; omega
  have e2 : kOf (1074 * 4503599627370496 + m) = 1074 := by unfold kOf; omega
  rw [e1, e2] at hr
  have ht : ((FloatKind.f64.decode (1074 * 4503599627370496 + m)).toInt .zero) = some (m : Int) := by
    show ((Ieee.double.read (1074 * 4503599627370496 + m)).toInt .zero) = _
    rw [hr]
    show some (Ieee.signed false (Ieee.Toward.zero.cut false (m <<< ((1074 : Nat) - 1074 : Int).toNat) (-((1074 : Nat) - 1074 : Int)).toNat) 0) = _
    rw [signed_eq]
    have : Ieee.Toward.zero.cut false (m <<< ((1074 : Nat) - 1074 : Int).toNat) (-((1074 : Nat) - 1074 : Int)).toNat = m := by
      simp [Ieee.Toward.cut]
    rw [this, Nat.pow_zero, Nat.mul_one]
  unfold floatToIntVal
  rw [ht]
  have hmin : IntKind.u64.min = 0 := by decide
  have hmax : IntKind.u64.max = 18446744073709551615 := by decide
  simp only []
  rw [hmin, hmax, if_pos (by omega)]
/-- A subnormal number made normal. -/
theorem sub_mul {r : Nat} (h1 : 1 ≤ r) (h2 : r < 4503599627370496) : Ieee.double.mul r 4841369599423283200 = some (r.log2 * 4503599627370496 + wOf r) ∧ r.log2 < 52 := by
  have hL : r.log2 < 52 := (Nat.log2_lt (show r ≠ 0 by omega)).2 (by rw [show (2 : Nat) ^ 52 = 4503599627370496 by decide]; exact h2)
  refine ⟨?_, hL⟩
  rw [mul_rung (by unfold infR; omega) (by unfold infR; omega)]
  have e1 : mantOf r = r := by unfold mantOf; rw [if_pos h2]
  have e2 : mantOf 4841369599423283200 = 4503599627370496 := by decide
  have e3 : kOf r = 0 := by unfold kOf; omega
  have e4 : kOf 4841369599423283200 = 1074 := by decide
  rw [e1, e2, e3, e4]
  have hs := nearest_shift r 52 (-1022) (by omega)
  rw [show (2 : Nat) ^ 52 = 4503599627370496 by decide] at hs
  rw [show ((0 : Nat) : Int) - 1074 + (((1074 : Nat) : Int) - 1074) = -1022 - ((52 : Nat) : Int) by decide, hs, nearest_bits h1 (by omega) (-1022) (by omega) (by omega), show ((-1022 : Int) + (r.log2 : Int) + 1022).toNat = r.log2 by omega]
/-- What Parts tells of a number: from the odd part of its 53 digits. -/
theorem parts_norm {r m z : Nat} (h1 : 4503599627370496 ≤ r) (hm : 4503599627370496 + r % 4503599627370496 = 2 ^ z * m) : mantOf r = m * 2 ^ z ∧ (kOf r : Int) - 1074 + z = (r / 4503599627370496 : Nat) - 1075 + z := by
  refine ⟨?_, ?_⟩
  · unfold mantOf
    rw [if_neg (by omega), hm, Nat.mul_comm]
  · unfold kOf
    omega
theorem parts_sub {r m z : Nat} (h1 : 1 ≤ r) (h2 : r < 4503599627370496) (hm : wOf r = 2 ^ z * (2 * m + 1)) : ∃ t : Nat, mantOf r = (2 * m + 1) * 2 ^ t ∧ (kOf r : Int) - 1074 + t = (r.log2 : Int) - 1126 + z := by
  have hL : r.log2 < 52 := (sub_mul h1 h2).2
  have hw : wOf r = r * 2 ^ (52 - r.log2) := by unfold wOf; rw [if_neg (by omega)]
  obtain ⟨s, hs⟩ : ∃ s, 52 - r.log2 = s := ⟨_, rfl⟩
  rw [hw, hs] at hm
  have hsz : s ≤ z := by
    rcases Nat.lt_or_ge z s with g | g
    · obtain ⟨d, rfl⟩ : ∃ d, s = z + (d + 1) := ⟨s - z - 1, by omega⟩
      rw [Nat.pow_add, show r * (2 ^ z * 2 ^ (d + 1)) = 2 ^ z * (r * 2 ^ (d + 1)) by ac_rfl] at hm
      have := Nat.eq_of_mul_eq_mul_left (Nat.two_pow_pos z) hm
      rw [Nat.pow_succ, ← Nat.mul_assoc] at this
      omega
    · exact g
  obtain ⟨t, rfl⟩ : ∃ t, z = s + t := ⟨z - s, by omega⟩
  refine ⟨t, ?_, ?_⟩
  · unfold mantOf
    rw [if_pos h2]
    rw [Nat.pow_add, Nat.mul_assoc, Nat.mul_comm] at hm
    have := Nat.eq_of_mul_eq_mul_left (Nat.two_pow_pos s) hm
    rw [this, Nat.mul_comm]
  · unfold kOf
    omega
end Us
end Go.Proofs.YtdpbpdhamekcdaaGreatDoor
namespace Go.Proofs.YtdpbpdhamekcdaaGreatDoor
open Go.RowKit
namespace Us
open Nv
attribute [local go_sem] run_Float64bits run_frombits

/-- A place in de Bruijn's table. -/
def bIx (z : Nat) : Nat := 2 ^ z * 285870213051353865 % 18446744073709551616 / 288230376151711744
def Tz (w : World) : Prop := ∀ z : Nat, z < 64 → w.cell? ⟨1, bIx z, none⟩ = some (.int .u8 (z : Int))
theorem Tz.keep {w w' : World} {b : Nat} (h : Tz w) (hb : Below b w w') (hs : b = w.heap.size) : Tz w' := fun z hz => below_keep (hs ▸ hb) (h z hz)
theorem bIx_lt {z : Nat} (h : z < 64) : bIx z < 64 := by
  have := List.all_eq_true.1 bruijn_all z (List.mem_range.2 h)
  unfold bIx
  simpa using this
/-- A number times de Bruijn's. -/
def mulB (P : Int) : Int := IntKind.u64.wrap (P * 285870213051353865)
theorem mulB_eq (P : Int) : IntKind.u64.wrap (P * 285870213051353865) = mulB P := rfl
theorem mulB_ix (P : Nat) : mulB (P : Int) / 288230376151711744 = ((P * 285870213051353865 % 18446744073709551616 / 288230376151711744 : Nat) : Int) := by
  unfold mulB
  rw [wu64]
  omega
set_option maxRecDepth 100000 in
theorem bits_Tz64 {n z k : Nat} (hn : n = 2 ^ z * (2 * k + 1)) (hl : n < 18446744073709551616) {w : World} (hT : Tz w) : Calls Tryz.prog 131 #[.int .u64 (n : Int)] w fun x w' => x = .returned (.int .i64 (z : Int)) ∧ w' = w := by
  obtain ⟨hz, ha⟩ := and_neg hn hl
  have hn0 : 0 < n := by rw [hn]; exact Nat.mul_pos (Nat.two_pow_pos z) (by omega)
  have hc := hT z hz
  have hi := bIx_lt hz
  have hneg : IntKind.u64.wrap (-(n : Int)) = 18446744073709551616 - (n : Int) := by rw [wu64]; omega
  rw [← hneg] at ha
  have hix : ∀ x : Int, x = ((2 ^ z : Nat) : Int) → mulB x / 288230376151711744 = ((bIx z : Nat) : Int) := fun x hx => by rw [hx]; exact mulB_ix (2 ^ z)
  have hmb := mulB_eq
  replace ha : ∀ m : Int, m = IntKind.u64.wrap (-(n : Int)) → bits .and .u64 (n : Int) m = ((2 ^ z : Nat) : Int) := fun m hm => by rw [hm]; exact ha
  clear hn hneg hT
  generalize 2 ^ z = P at *
  obtain ⟨b, hb⟩ : ∃ b : Int, ((bIx z : Nat) : Int) = b := ⟨_, rfl⟩
  have hb0 : 0 ≤ b ∧ b < 64 := by omega
  rw [hb] at hix
  rw [show bIx z = b.toNat by omega] at hc
  clear hb hi
  generalize mulB = f at *
  have hnz : ((n : Int) == 0) = false := by simp; omega
  go_enter Tryz.func131, Tryz.ntmps131
  go_wp2_with fail
  go_ret
  exact ⟨rfl, rfl⟩
theorem or_half {v : Nat} (h : v < 4503599627370496) : bits .or .u64 (v : Int) 4602678819172646912 = ((1022 * 4503599627370496 + v : Nat) : Int) := by
  have := or_exp (a := (v : Int)) (t := 1022) (by omega) (by omega) (by decide) (by decide)
  rw [show (1022 : Int) * 4503599627370496 = 4602678819172646912 by decide] at this
  rw [this]
  omega
theorem math_normalize_sub {f g : Nat} {w : World} (h2 : f < 4503599627370496) (hm : Ieee.double.mul f 4841369599423283200 = some g) : Calls Tryz.prog 237 #[.float .f64 f] w fun e w' => e = .returned (.tuple #[.float .f64 g, .int .i64 (-52)]) ∧ w' = w := by
  have o2 : (FloatKind.f64.format.order f 4503599627370496 == some .lt) = true := by
    rw [show FloatKind.f64.format.order f 4503599627370496 = _ from order_rung (show f < infR by unfold infR; omega) (show 4503599627370496 < infR by decide), Nat.compare_eq_lt.2 h2]
    rfl
  have hr := run_fmul hm
  go_enter Tryz.func237, Tryz.ntmps237
  go_wp2_with (go_at_call 61; refine (math_Abs (by omega)).mono ?_; rintro e w' ⟨rfl, rfl⟩)
  go_ret2
  exact ⟨rfl, rfl⟩
set_option maxRecDepth 100000 in
/-- math.Frexp of a number above nought: f is what normalize tells, k what it takes off. -/
theorem math_Frexp {r f : Nat} {k : Int} (h1 : 1 ≤ r) (h2 : r < infR) (hf : f < infR) (hk : -60 ≤ k ∧ k ≤ 60) {w : World} (hN : Calls Tryz.prog 237 #[.float .f64 r] w fun e w' => e = .returned (.tuple #[.float .f64 f, .int .i64 k]) ∧ w' = w) :
    Calls Tryz.prog 130 #[.float .f64 r] w fun e w' => e = .returned (.tuple #[.float .f64 (1022 * 4503599627370496 + f % 4503599627370496 : Nat), .int .i64 (k + ((f / 4503599627370496 : Nat) - 1022 : Int))]) ∧ w' = w := by
  have o1 : FloatKind.f64.format.order r 0 = some .gt := (order_rung h2 (by decide)).trans (by rw [Nat.compare_eq_gt.2 (by omega)])
  have o3 : FloatKind.f64.format.order r r = some .eq := (order_rung h2 h2).trans (by rw [Nat.compare_eq_eq.2 rfl])
  have hnan : nanB r = false := by unfold nanB; rw [o3]; rfl
  have hI := Far.mk (fun W => math_IsInf (w := W) h2)
  have hnot := andnot_exp (f := f) (by unfold infR at hf; omega)
  obtain ⟨v, hv⟩ : ∃ v, f % 4503599627370496 = v := ⟨_, rfl⟩
  obtain ⟨b, hb⟩ : ∃ v, f / 4503599627370496 = v := ⟨_, rfl⟩
  have hv2 : v < 4503599627370496 := by omega
  have hb2 : b < 2048 := by unfold infR at hf; omega
  rw [hv] at hnot
  rw [hv, hb]
  have hdiv : (f : Int) / 4503599627370496 = (b : Int) := by omega
  have hand : bits .and .u64 (b : Int) 2047 = (b : Int) := by
    have h := bits_mask .u64 64 (by decide) (fun n h1 h2 => wrapU64_eq h1 (by omega)) 11 (by decide) (b : Int) (by omega) (by omega)
    rw [show ((2 : Int) ^ 11 - 1) = 2047 by decide, show ((2 : Int) ^ 11) = 2048 by decide] at h
    rw [h]
    omega
  have hor := or_half hv2
  have hff : ((1022 * 4503599627370496 + v : Nat) : Int).toNat = 1022 * 4503599627370496 + v := Int.toNat_natCast _
  obtain ⟨g, hg⟩ : ∃ g, 1022 * 4503599627370496 + v = g := ⟨_, rfl⟩
  rw [hg] at hor hff ⊢
  replace hN := Far.mk hN
  clear hv hb h1 h2 hf hg
  have hX : Far (Calls Tryz.prog 192 #[.float .f64 r] w fun e w' => e = .returned (.tuple #[.float .f64 g, .int .i64 (k + ((b : Int) - 1022))]) ∧ w' = w) := ⟨by
    go_enter Tryz.func192, Tryz.ntmps192
    go_wp2_with (first
      | (go_at_call 23; go_must (with_reducible refine (hI.out _).mono ?_); rintro e w' ⟨rfl, hw⟩; replace hw := hw.symm; subst hw)
      | (go_at_call 20; refine (math_IsNaN r _).mono ?_; rintro e w' ⟨rfl, hw⟩; subst hw; rw [hnan])
      | (go_at_call 237; go_must (with_reducible refine hN.out.mono ?_); rintro e w' ⟨rfl, hw⟩; replace hw := hw.symm; subst hw))
    go_ret2
    refine ⟨?_, rfl⟩
    rw [show k + ((b : Int) - 1022) = k + ((b : Int) - 1023 + 1) by omega]
    rfl⟩
  go_enter Tryz.func130, Tryz.ntmps130
  go_wp2_with fail
  with_reducible refine hX.out.mono ?_
  rintro e w' ⟨rfl, hw⟩
  replace hw := hw.symm
  subst hw
  go_wp2_with fail
  go_ret2
  exact ⟨rfl, rfl⟩
/-- What Parts tells of a number above nought. -/
def PartsQ (r : Nat) (w : World) (x : Ending) (w' : World) : Prop := ∃ (m t : Nat) (A : Option Addr) (c : Nat), x = .returned (.tuple #[.slice A (Nv.words m).length c, .int .i64 ((kOf r : Int) - 1074 + (t : Int)), .int .i64 0]) ∧ mantOf r = m * 2 ^ t ∧ Rd w' A c (Nv.words m) ∧ Below w.heap.size w w'
set_option maxRecDepth 100000 in
theorem bn_Parts_of {r m z M t : Nat} {E : Int} (h1 : 1 ≤ r) (h2 : r < infR) (hM : M = 2 ^ z * (2 * m + 1)) (hM1 : 4503599627370496 ≤ M) (hM2 : M < 9007199254740992) (hmt : mantOf r = (2 * m + 1) * 2 ^ t) (hE : E - 53 + z = (kOf r : Int) - 1074 + t) (hEb : -2000 ≤ E ∧ E ≤ 2000) {w : World} (hT : Tz w)
    (hF : Calls Tryz.prog 130 #[.float .f64 r] w fun e w' => e = .returned (.tuple #[.float .f64 (1022 * 4503599627370496 + (M - 4503599627370496) : Nat), .int .i64 E]) ∧ w' = w) : Calls Tryz.prog 78 #[.float .f64 r] w (PartsQ r w) := by
  have o1 : FloatKind.f64.format.order r 0 = some .gt := (order_rung h2 (by decide)).trans (by rw [Nat.compare_eq_gt.2 (by omega)])
  have o3 : FloatKind.f64.format.order r r = some .eq := (order_rung h2 h2).trans (by rw [Nat.compare_eq_eq.2 rfl])
  have hnan : nanB r = false := by unfold nanB; rw [o3]; rfl
  have hI := Far.mk (fun W => math_IsInf (w := W) h2)
  have hmul := run_fmul (frac_mul (v := M - 4503599627370496) (by omega))
  rw [show 4503599627370496 + (M - 4503599627370496) = M by omega] at hmul
  have hcv := to_int hM1 hM2
  obtain ⟨g, hg⟩ : ∃ g, 1022 * 4503599627370496 + (M - 4503599627370496) = g := ⟨_, rfl⟩
  obtain ⟨p, hp⟩ : ∃ g, 1074 * 4503599627370496 + M = g := ⟨_, rfl⟩
  rw [hg] at hF hmul
  rw [hp] at hmul hcv
  have hcr : ∀ W, (convert 24 62 (.float .f64 p)).run Tryz.prog W = .ok (.int .u64 (M : Int)) W := fun W => run_convert_float_int (P := Tryz.prog) (w := W) 24 62 .f64 .u64 p (M : Int) (by rw [Tryz.underlying24]; rfl) Tryz.underlying62 hcv
  have hTz := bits_Tz64 hM (by omega) hT
  have hz : z < 64 := (and_neg hM (by omega)).1
  have hdv : M / 2 ^ z = 2 * m + 1 := by rw [hM, Nat.mul_div_cancel_left _ (Nat.two_pow_pos z)]
  have hml : 2 * m + 1 < 18446744073709551616 := by
    have : 2 * m + 1 ≤ M := by rw [hM]; exact Nat.le_mul_of_pos_left _ (Nat.two_pow_pos z)
    omega
  have hdi : (M : Int) / 2 ^ z = ((2 * m + 1 : Nat) : Int) := by
    rw [← hdv, Int.natCast_ediv, Int.natCast_pow]
    rfl
  have hO := bn_Of (x := ((2 * m + 1 : Nat) : Int)) (by omega) (by omega) w
  rw [Int.toNat_natCast] at hO
  replace hO := Far.mk hO
  replace hF := Far.mk hF
  replace hTz := Far.mk hTz
  replace hmt := Far.mk hmt
  obtain ⟨q, hq⟩ : ∃ q, 2 * m + 1 = q := ⟨_, rfl⟩
  rw [hq] at hO hdi hmt
  have hEE : (kOf r : Int) - 1074 + t = E - 53 + z := hE.symm
  unfold PartsQ
  replace hEE := Far.mk hEE
  obtain ⟨K, hK⟩ : ∃ K, (kOf r : Int) - 1074 = K := ⟨_, rfl⟩
  rw [hK] at hEE
  simp only [hK]
  clear hM hg hp hT hdv hml hM1 hM2 hq h1 h2 hE hK
  go_enter Tryz.func78, Tryz.ntmps78
  go_wp2_with (first
      | (go_at_call 23; go_must (with_reducible refine (hI.out _).mono ?_); rintro e w' ⟨rfl, hw⟩; replace hw := hw.symm; subst hw)
      | (go_at_call 20; refine (math_IsNaN r _).mono ?_; rintro e w' ⟨rfl, hw⟩; subst hw; rw [hnan])
      | (go_at_call 130; go_must (with_reducible refine hF.out.mono ?_); rintro e w' ⟨rfl, hw⟩; replace hw := hw.symm; subst hw)
      | (go_at_call 131; go_must (with_reducible refine hTz.out.mono ?_); rintro e w' ⟨rfl, hw⟩; replace hw := hw.symm; subst hw)
      | (go_at_call 132; go_must (with_reducible refine hO.out.mono ?_); rintro e w3 ⟨A3, c3, rfl, hR3, hb3⟩))
  go_ret3
  exact ⟨q, t, A3, c3, by rw [hEE.out]; rfl, hmt.out, hR3, hb3⟩
theorem bn_Parts {r : Nat} (h1 : 1 ≤ r) (h2 : r < infR) {w : World} (hT : Tz w) : Calls Tryz.prog 78 #[.float .f64 r] w (PartsQ r w) := by
  rcases Nat.lt_or_ge r 4503599627370496 with g | g
  · obtain ⟨hm, hL⟩ := sub_mul h1 g
    have hwb := wOf_bounds h1 (by omega)
    obtain ⟨z, k, hz⟩ := odd_part (n := wOf r) (by omega)
    obtain ⟨t, ht1, ht2⟩ := parts_sub h1 g hz
    have hfl : r.log2 * 4503599627370496 + wOf r < infR := by unfold infR; omega
    have hF := math_Frexp (w := w) h1 h2 hfl (by decide) (math_normalize_sub g hm)
    have e1 : (r.log2 * 4503599627370496 + wOf r) % 4503599627370496 = wOf r - 4503599627370496 := by omega
    have e2 : (r.log2 * 4503599627370496 + wOf r) / 4503599627370496 = r.log2 + 1 := by omega
    rw [e1, e2] at hF
    exact bn_Parts_of h1 h2 hz hwb.1 hwb.2 ht1 (by omega) (by omega) hT hF
  · obtain ⟨z, k, hz⟩ := odd_part (n := 4503599627370496 + r % 4503599627370496) (by omega)
    obtain ⟨ht1, ht2⟩ := parts_norm g hz
    have hF := math_Frexp (w := w) h1 h2 h2 (by decide) (math_normalize h2 g)
    have e1 : r % 4503599627370496 = 4503599627370496 + r % 4503599627370496 - 4503599627370496 := by omega
    rw [e1] at hF
    exact bn_Parts_of h1 h2 hz (by omega) (by omega) ht1 (by omega) (by unfold infR at h2; omega) hT hF
end Us
end Go.Proofs.YtdpbpdhamekcdaaGreatDoor
namespace Go.Proofs.YtdpbpdhamekcdaaGreatDoor
open Go.RowKit
namespace Nv

/-- What a function of the program's words tells beside a code. -/
def GivesE (w : World) (N : Nat) (x : Ending) (w' : World) : Prop := ∃ A c, x = .returned (.tuple #[.slice A (words N).length c, .int .i64 0]) ∧ Rd w' A c (words N) ∧ Below w.heap.size w w'
theorem bMul {W : World} {N M : Nat} {A B : Option Addr} {c d : Nat} (hR : Rd W A c (words N)) (hs : (words N).length ≤ 1024) (hR2 : Rd W B d (words M)) (hs2 : (words M).length ≤ 1024) (hm : (words (N * M)).length ≤ 1024) :
    Calls Tryz.prog 145 #[.slice A (words N).length c, .slice B (words M).length d] W (GivesE W (N * M)) := by
  have h := bn_Mul rfl rfl hR (isW_words N) hs hR2 (isW_words M) hs2 (by rw [nv_words, nv_words]; exact hm)
  rw [nv_words, nv_words] at h
  exact h
theorem bSub {W : World} {N M : Nat} {A B : Option Addr} {c d : Nat} (hR : Rd W A c (words N)) (hs : (words N).length ≤ 1024) (hR2 : Rd W B d (words M)) (hs2 : (words M).length ≤ 1024) (hm : M ≤ N) :
    Calls Tryz.prog 81 #[.slice A (words N).length c, .slice B (words M).length d] W fun x w' => ∃ g c', x = .returned (.tuple #[.slice (some ⟨g, 0, none⟩) (words (N - M)).length c', .int .i64 0]) ∧ W.heap.size ≤ g ∧ Rd w' (some ⟨g, 0, none⟩) c' (words (N - M)) ∧ Below W.heap.size W w' := by
  have h := bn_Sub rfl rfl hR (isW_words N) hs hR2 (isW_words M) hs2 (by rw [nv_words, nv_words]; exact hm)
  rw [nv_words, nv_words] at h
  exact h
theorem bShl {W : World} {N k : Nat} {K : Int} {A : Option Addr} {c : Nat} (hK : K = (k : Int)) (hR : Rd W A c (words N)) (hs : (words N).length ≤ 1024) (hk : k ≤ 32768) (hm : (words (N * 2 ^ k)).length ≤ 1024) :
    Calls Tryz.prog 79 #[.slice A (words N).length c, .int .i64 K] W (GivesE W (N * 2 ^ k)) := by
  have h := bn_Shl hK rfl hR (isW_words N) hs hk (by rw [nv_words]; exact hm)
  rw [nv_words] at h
  exact h
theorem bShr {W : World} {N k : Nat} {K : Int} {A : Option Addr} {c : Nat} (hK : K = (k : Int)) (hR : Rd W A c (words N)) (hs : (words N).length ≤ 100000) (hk : k ≤ 4000000) :
    Calls Tryz.prog 80 #[.slice A (words N).length c, .int .i64 K] W fun x w' => ∃ A' c' b, x = .returned (.tuple #[.slice A' (words (N / 2 ^ k)).length c', .bool b]) ∧ Rd w' A' c' (words (N / 2 ^ k)) ∧ Below W.heap.size W w' := by
  have h := bn_Shr hK rfl hR (isW_words N) hs hk
  rw [nv_words] at h
  exact h
theorem bText {W : World} {N r : Nat} {R : Int} {A : Option Addr} {c : Nat} (hR : Rd W A c (words N)) (hs : (words N).length ≤ 1024) (hRr : R = (r : Int)) (h2 : 2 ≤ r) (h36 : r ≤ 36) :
    Calls Tryz.prog 82 #[.slice A (words N).length c, .int .i64 R] W fun e w' => e = .returned (.tuple #[.string (S (digs r N)), .int .i64 0]) ∧ Below W.heap.size W w' := by
  have h := bn_Text rfl hR (isW_words N) hs hRr h2 h36
  rw [nv_words] at h
  exact h
theorem bCmp {W : World} {N M : Nat} {A B : Option Addr} {c d : Nat} (hR : Rd W A c (words N)) (hs : (words N).length ≤ 100000) (hR2 : Rd W B d (words M)) (hs2 : (words M).length ≤ 100000) :
    Calls Tryz.prog 141 #[.slice A (words N).length c, .slice B (words M).length d] W fun e w' => e = .returned (.int .i64 (cmpN N M)) ∧ ∃ q, w' = W.drewN q := by
  have h := bn_Cmp rfl rfl hR (isW_words N) hs hR2 (isW_words M) hs2
  rw [nv_words, nv_words] at h
  exact h
theorem B8.len {w : World} {base : Nat} {v : Value} {l : List UInt8} (h : B8 w base v l) : ∃ A c, v = .slice A l.length c := by
  rcases h.2 with ⟨rfl, h0⟩ | ⟨g, cap, cur, rfl, hg, hh, hnc, r⟩
  · exact ⟨none, 0, by rw [h0]⟩
  · exact ⟨_, cap, rfl⟩
/-- append(v, text...). -/
theorem append_text {w : World} {ops : Array Oper} {rest : List Oper} {o : Oper} {a : Act} {Q : Exit → Act → World → Prop} (hgd : o.guard = none) (s x : Operand)
    (ho : o.op = .call { callee := .builtin .append, args := #[s, x], argTypes := #[51, 9] }) (base : Nat) {v : Value} {xs l : List UInt8}
    (hs : a.eval s = v) (hown : B8 w base v xs) (hx : a.eval x = .string (S l)) (hlen : xs.length + l.length ≤ 4000000) (hbase : base ≤ w.heap.size)
    (h : ∀ v' w', B8 w' base v' (xs ++ l) → w.grownBy w' v.ownBlock → wpList Tryz.prog ops Q rest (a.put o.dst v') w') : wpList Tryz.prog ops Q (o :: rest) a w := by
  obtain ⟨i0, hi, hz0, hz1, hz2⟩ := info_parts info_byte
  refine Lib.wpList_append_own_string w hgd s x 51 9 ho base 5 i0 Tryz.underlying51 Tryz.underlying9 hi hz0 hz1 hz2 v xs.length (bv xs) hs hown (S l) hx (by rw [S_size]; unfold maxLen; omega) (by rw [S_size]; omega) hbase fun v' w' h2 h3 _ => h v' w' ?_ h3
  rw [S_size] at h2
  unfold B8
  rw [List.length_append, bv_append]
  exact h2
end Nv
end Go.Proofs.YtdpbpdhamekcdaaGreatDoor
