/-
  A contract of internal/strconv.parseFloat64: what it tells of a number of 64 bits at most and a power of ten. Conditions: the tables lie where they lie; the mantissa that it reckons is one. A contract of internal/strconv.atof64exact: where it tells a float, that is the rounded number. Conditions: the laid variables of strconv have their values. What strconv's atof64, parseFloatPrefix and ParseFloat tell of a text whose digits and exponent readFloat tells. Conditions: the laid variables of strconv have their values; strconv's product is sharp there. The shelf's contracts that this claim's walks use, laid at this program by the kit's own commands (lay-shelf, lay-plain), cut to what is used. No condition of its own. What strconv.ParseFloat tells of a text whose digits and exponent readFloat tells. Conditions: the laid variables of strconv have their values; strconv's product is sharp there.
-/
import Derived.Test.YtdpbpdhamekcdaaGreatDoorBaM15
import Derived.Test.YtdpbpdhamekcdaaGreatDoorBaM4
import Derived.Test.YtdpbpdhamekcdaaGreatDoorBaM13
import Derived.Test.YtdpbpdhamekcdaaGreatDoorBaM7
import Derived.Shelf.Strings.Builder1
import Derived.Shelf.Strings.Builder2
import Derived.Shelf.Strings.Trim
import Derived.Shelf.Small.Utf8
import Derived.Shelf.Small.Bits
import Derived.Shelf.Small.Strs
import Derived.Shelf.Strings.BuilderF
import Derived.Shelf.Utf8.RuneCount
import Derived.Shelf.Strconv.Atoi
import Derived.Shelf.Strconv.Itoa0
import Derived.Shelf.Strconv.Itoa1
import Derived.Shelf.LaysM
import Derived.Shelf.Strconv.Itoa2
import Derived.Shelf.Strconv.Itoa3
import Derived.Shelf.Strconv.Clone
import Derived.Shelf.Strconv.RangeError
import Derived.Shelf.LaysC
import Derived.Shelf.Strconv.ToErrorRange
import Derived.Shelf.Strings.Search1
import Derived.Shelf.Strings.Search2
import Derived.Shelf.Strings.Search3
import Derived.Shelf.Strings.Cut
import Derived.Shelf.Strings.Count
import Derived.Shelf.Strings.Shaped
import Derived.Shelf.Strings.Prefix
import Derived.Shelf.Strings.Split
import Derived.Shelf.Strings.Replace
import Derived.Shelf.Strings.SplitShaped
import Derived.Shelf.Unicode.Decode
import Derived.Shelf.Strings.Runes
import Derived.Shelf.Strings.RuneCount
import Derived.Shelf.Strings.IndexAny
import Derived.Shelf.Strings.AsciiSet
import Derived.Shelf.Strings.IndexAnyAll
import Derived.Shelf.Bits.Mul64
import Derived.Shelf.Strings.Repeat
import Derived.Shelf.Unicode.DecodeSlow
import Derived.Shelf.Unicode.DecodeAny
import Derived.Shelf.Unicode.DecodeLast
import Derived.Shelf.SlicesE.Clone
import Derived.Test.YtdpbpdhamekcdaaGreatDoorProg
namespace Go.Proofs.YtdpbpdhamekcdaaGreatDoor
open Go.RowKit
namespace Us
open Nv
theorem and_sign0 {m : Nat} (h : m < 9223372036854775808) : bits .and .u64 (m : Int) 9223372036854775808 = 0 := by
  have e : m &&& 9223372036854775808 = 0 := by
    have h63 : (9223372036854775808 : Nat) = 2 ^ 63 := by decide
    apply Nat.eq_of_testBit_eq
    intro i
    rw [Nat.testBit_and, h63, Nat.testBit_two_pow, Nat.zero_testBit]
    by_cases hi : 63 = i
    · subst hi
      rw [Nat.testBit_lt_two_pow (by rw [← h63]; exact h)]
      rfl
    · rw [decide_eq_false hi, Bool.and_false]
  have e2 : (BitVec.ofInt 64 (m : Int) &&& BitVec.ofInt 64 9223372036854775808).toNat = m &&& 9223372036854775808 := by
    rw [BitVec.toNat_and, BitVec.ofInt_natCast, BitVec.toNat_ofNat, Nat.mod_eq_of_lt (by omega)]
    rfl
  show IntKind.u64.wrap ((BitVec.ofInt 64 (m : Int) &&& BitVec.ofInt 64 9223372036854775808).toNat : Int) = _
  rw [e2, e]
  rfl
/-- No error, or the one that a number is out of range. -/
def ErrV (e : Value) : Prop := e = .nilIface ∨ e = .iface 176 (.int .i64 1)
attribute [local go_sem] run_frombits2
set_option maxRecDepth 100000 in
theorem sc_pack_inf {m : Nat} {e : Int} {w : World} (h1 : 4503599627370496 ≤ m) (h2 : m < 9007199254740992) (he : 972 ≤ e) :
    Calls Tryz.prog 316 #[.int .u64 (m : Int), .int .i64 e] w fun x w' => (∃ v, ErrV v ∧ x = .returned (.tuple #[.float .f64 infR, v])) ∧ w' = w := by
  have ha := and_52 h2
  rw [if_neg (by omega)] at ha
  have hb := and_sign0 (m := m) (by omega)
  clear h1 h2
  go_enter Tryz.func316, Tryz.ntmps316
  go_wp2_with fail
  go_ret2
  exact ⟨⟨_, .inr rfl, rfl⟩, rfl⟩
/-- What parseFloat64 tells. -/
def ParQ (d b : Nat) (p : Int) (w : World) (x : Ending) (w' : World) : Prop := ∃ e, ErrV e ∧ x = .returned (.tuple #[.float .f64 (goPar d b p), e]) ∧ Below w.heap.size w w'
theorem sc_bool2i0 (w : World) : Calls Tryz.prog 288 #[.bool false] w fun e w' => e = .returned (.int .i64 0) ∧ w' = w := sc_bool2i false w
/-- Packing what was reckoned. -/
theorem sc_pack_all {m k : Nat} {E : Int} {w : World} (h2 : m < 9007199254740992) (hk : 1075 + E = ((k + 1 : Nat) : Int)) :
    Calls Tryz.prog 316 #[.int .u64 (m : Int), .int .i64 E] w fun x w' => (∃ e, ErrV e ∧ x = .returned (.tuple #[.float .f64 (if infR ≤ rungOf m k then infR else rungOf m k), e])) ∧ w' = w := by
  unfold rungOf
  by_cases h1 : m < 4503599627370496
  · rw [if_pos h1, if_neg (by unfold infR; omega)]
    refine (sc_pack_small h1 w).mono ?_
    rintro x w' ⟨rfl, rfl⟩
    exact ⟨⟨_, .inl rfl, rfl⟩, rfl⟩
  · rw [if_neg h1]
    by_cases h3 : k + 1 ≤ 2046
    · rw [if_neg (by unfold infR; omega)]
      refine (sc_pack (by omega) h2 hk (by omega) h3 w).mono ?_
      rintro x w' ⟨rfl, rfl⟩
      exact ⟨⟨_, .inl rfl, rfl⟩, rfl⟩
    · rw [if_pos (by unfold infR; omega)]
      exact sc_pack_inf (by omega) h2 (by omega)
set_option maxRecDepth 100000 in
set_option maxHeartbeats 4000000 in
theorem sc_par {w : World} {d b : Nat} {p : Int} (hP : P10 w) (h1 : -345 ≤ p) (h2 : p ≤ 310) (hb1 : 1 ≤ b) (hb2 : b ≤ 64) (hd1 : 2 ^ (b - 1) ≤ d) (hd : d < 2 ^ b)
    (hm : parS b p < 64 → (parM (uscaleN (d * 2 ^ (64 - b)) (rowAt p).1 (rowAt p).2 (parS b p).toNat)).1 < 9007199254740992) :
    Calls Tryz.prog 287 #[.int .u64 (d : Int), .int .i64 p, .int .u64 0] w (ParQ d b p w) := by
  obtain ⟨l1, l2, e1, e2, s1, s2, hs⟩ := par_ranges b p hb1 hb2 h1 h2
  obtain ⟨w1, w2, w3⟩ := par_words h1 h2
  obtain ⟨x1, x2⟩ := par_x hb1 hb2 hd1 hd
  have hlog := log2_of hb1 hd1 hd
  have hd64 : d < 18446744073709551616 := by
    refine Nat.lt_of_lt_of_le hd ?_
    exact Nat.le_trans (Nat.pow_le_pow_right (by decide) hb2) (by decide)
  have hd0 : 1 ≤ d := Nat.le_trans (Nat.two_pow_pos _) hd1
  obtain ⟨k, hk⟩ : ∃ k, 64 - b = k := ⟨_, rfl⟩
  have hbl : Lib.bitLen d = d.log2 + 1 := bitLenAux_eq 64 _ (by omega) (by rw [show (2 : Nat) ^ 64 = 18446744073709551616 by decide]; omega)
  have hL64 : Far (∀ (W : World), Calls Tryz.prog 260 #[.int .u64 (d : Int)] W fun e w' => e = .returned (.int .i64 (64 - (k : Int))) ∧ w' = W) := ⟨fun W => by
    refine (bits_Len64 (d : Int) W (by omega) (by omega)).mono ?_
    rintro e w' ⟨rfl, hw⟩
    refine ⟨?_, hw⟩
    rw [Int.toNat_natCast, hbl]
    congr 2
    omega⟩
  have hl2 : Far (∀ W, Calls Tryz.prog 296 #[.int .i64 p] W fun e w' => e = .returned (.int .i64 (lpOf p)) ∧ w' = W) := ⟨fun W => sc_log2 p (by omega) W⟩
  obtain ⟨s, hs0⟩ : ∃ s : Nat, parS b p = (s : Int) := ⟨(parS b p).toNat, by omega⟩
  have hsz : 14 < w.heap.size := P10.lt hP
  have hP2 := hP.keep ((Below.refl w.heap.size w).alloc (Nat.le_refl _) (.cells #[.int .u64 0, .int .u64 0, .int .i64 0] 260))
  have hPre := Far.mk (fun (E : Int) (hEE : E = parE b p - (64 - (b : Int))) (hH : HasB (w.alloc (.cells #[.int .u64 0, .int .u64 0, .int .i64 0] 260)) w.heap.size #[.int .u64 0, .int .u64 0, .int .i64 0] 260) => sc_prescale (i := (p + 348).toNat) (s := s) hP2 hH (Nat.ne_of_gt hsz) (show p = ((p + 348).toNat : Int) - 348 by omega) (by omega) (show -2000 ≤ E ∧ E ≤ 2000 by omega) (by rw [hEE, hs, hs0]))
  have hGd : goPar d b p = if 64 ≤ parS b p then 0 else if infR ≤ parR d b p then infR else parR d b p := rfl
  have hRd : parR d b p = rungOf (parM (uscaleN (d * 2 ^ (64 - b)) (rowAt p).1 (rowAt p).2 (parS b p).toNat)).1 ((1074 - parE b p).toNat + (parM (uscaleN (d * 2 ^ (64 - b)) (rowAt p).1 (rowAt p).2 (parS b p).toNat)).2) := rfl
  have hpe : parE b p = min 1074 (53 - (b : Int) - lpOf p) := rfl
  have hps : parS b p = 61 - (b : Int) - lpOf p - parE b p := rfl
  have hsh : IntKind.u64.wrap ((d : Int) * 2 ^ k) = ((d * 2 ^ (64 - b) : Nat) : Int) := by
    have e : (d : Int) * 2 ^ k = ((d * 2 ^ (64 - b) : Nat) : Int) := by
      rw [hk, Int.natCast_mul, Int.natCast_pow]
      rfl
    rw [e, wrapU64_eq (by omega) (by omega)]
  have hU := Far.mk (fun (W : World) (bb : Nat) (hS : Sc W bb (rowAt p).1 (rowAt p).2 s) (h64 : s < 64) => sc_uscale hS x2 w2 w3 h64 (by
    rw [Nat.le_div_iff_mul_le (by decide)]
    have := Nat.mul_le_mul x1 w1
    omega))
  unfold ParQ
  rw [hs0] at hGd hRd hm hps
  rw [Int.toNat_natCast] at hRd hm
  obtain ⟨U, hUe⟩ : ∃ U, uscaleN (d * 2 ^ (64 - b)) (rowAt p).1 (rowAt p).2 s = U := ⟨_, rfl⟩
  rw [hUe] at hU hRd hm
  have hUb : U < 2305843009213693952 := by
    rw [← hUe]
    exact (uscale_rng x2 (by omega) ⟨w1, w2⟩ w3 (by omega)).2
  obtain ⟨x, hx⟩ : ∃ x, d * 2 ^ (64 - b) = x := ⟨_, rfl⟩
  rw [hx] at hsh hU
  have hk63 : k ≤ 63 := by omega
  rw [show k = 64 - (64 - k) by omega] at hsh
  obtain ⟨G, hG⟩ : ∃ G, goPar d b p = G := ⟨_, rfl⟩
  rw [hG] at hGd ⊢
  have hb64 : (b : Int) = 64 - k := by omega
  clear hx hUe hP2 hP hlog hd1 hd hd0 hbl w1 w2 w3 x1 x2 hG
  by_cases h64 : 64 ≤ s
  · obtain rfl : G = 0 := by
      rw [hGd, if_pos (by omega)]
    clear hm hU hRd hGd
    replace hs := Far.mk hs
    replace hs0 := Far.mk hs0
    replace hpe := Far.mk hpe
    replace hps := Far.mk hps
    replace hb64 := Far.mk hb64
    go_enter Tryz.func287, Tryz.ntmps287
    go_wp2_with fail
    with_reducible refine (hL64.out _).mono ?_
    rintro e w' ⟨rfl, hw⟩
    replace hw := hw.symm
    subst hw
    go_wp2_with fail
    with_reducible refine (hl2.out _).mono ?_
    rintro e w' ⟨rfl, hw⟩
    replace hw := hw.symm
    subst hw
    go_wp2_with fail
    with_reducible refine (hPre.out _ ?_ (HasB.new _ _ _)).mono ?_
    · have := hpe.out
      have := hb64.out
      omega
    rintro x4 w4 ⟨rfl, hS, hb4⟩
    have hbw : Below w.heap.size w w4 := ((Below.refl w.heap.size w).alloc (Nat.le_refl _) _).trans hb4
    have q2 : w4.cell? ⟨w.heap.size, 2, none⟩ = some (.int .i64 (s : Nat)) := HasB.cell hS 2
    clear hb4 hPre
    clear hS
    go_wp2_with fail
    go_ret2
    exact ⟨_, by first | exact hv9 | exact .inl rfl, rfl, hbw⟩
  · have h64' : s < 64 := by omega
    have hm := hm (by omega)
    rw [if_neg (by omega), hRd] at hGd
    have hU := Far.mk (fun W bb hS => hU.out W bb hS h64')
    have hand : bits .and .u64 (U : Int) 1 = ((U % 2 : Nat) : Int) := and_one64 (by omega)
    clear hRd
    unfold parM at hm hGd
    by_cases gU : 36028797018963966 ≤ U
    · have gi : (36028797018963966 : Int) ≤ (U : Int) := by omega
      rw [if_pos gU] at hm hGd
      have hor : bits .or .u64 ((U : Int) / 2) ((U : Int) % 2) = ((halfU U : Nat) : Int) := by
        rw [show (U : Int) % 2 = ((U % 2 : Nat) : Int) by omega, show (U : Int) / 2 = ((U / 2 : Nat) : Int) by omega, or_u64 (by omega) (by omega), half_or]
      have hub : halfU U < 4000000000000000000 := by unfold halfU; split <;> omega
      obtain ⟨u, hu⟩ : ∃ u, halfU U = u := ⟨_, rfl⟩
      rw [hu] at hor hm hGd hub
      have hor0 : bits .or .u64 0 ((rnd4 u : Nat) : Int) = ((rnd4 u : Nat) : Int) := by
        have := or_u64 (a := 0) (b := rnd4 u) (by decide) (by omega)
        rwa [Nat.zero_or] at this
      have hRo : Far (∀ W, Calls Tryz.prog 301 #[.int .u64 (u : Int)] W fun e w' => e = .returned (.int .u64 ((rnd4 u : Nat) : Int)) ∧ w' = W) := ⟨fun W => sc_round u (by omega) W⟩
      obtain ⟨m, hme⟩ : ∃ m, rnd4 u = m := ⟨_, rfl⟩
      rw [hme] at hor0 hRo
      rw [show (rnd4 u, 1).1 = m from hme, show (rnd4 u, 1).2 = 1 from rfl] at hGd
      rw [show (rnd4 u, 1).1 = m from hme] at hm
      have hPk := Far.mk (fun (E : Int) (hE : 1075 + E = ((1074 - parE b p).toNat + 1 + 1 : Nat)) (W : World) => (show Calls Tryz.prog 316 #[.int .u64 (m : Int), .int .i64 E] W fun x w' => (∃ e, ErrV e ∧ x = .returned (.tuple #[.float .f64 G, e])) ∧ w' = W by rw [hGd]; exact sc_pack_all hm hE))
      clear hu hme gU hm hGd
      replace hs := Far.mk hs
      replace hs0 := Far.mk hs0
      replace hpe := Far.mk hpe
      replace hps := Far.mk hps
      replace hb64 := Far.mk hb64
      go_enter Tryz.func287, Tryz.ntmps287
      go_wp2_with fail
      with_reducible refine (hL64.out _).mono ?_
      rintro e w' ⟨rfl, hw⟩
      replace hw := hw.symm
      subst hw
      go_wp2_with fail
      with_reducible refine (hl2.out _).mono ?_
      rintro e w' ⟨rfl, hw⟩
      replace hw := hw.symm
      subst hw
      go_wp2_with fail
      with_reducible refine (hPre.out _ ?_ (HasB.new _ _ _)).mono ?_
      · have := hpe.out
        have := hb64.out
        omega
      rintro x4 w4 ⟨rfl, hS, hb4⟩
      have hbw : Below w.heap.size w w4 := ((Below.refl w.heap.size w).alloc (Nat.le_refl _) _).trans hb4
      have q2 : w4.cell? ⟨w.heap.size, 2, none⟩ = some (.int .i64 (s : Nat)) := HasB.cell hS 2
      clear hb4 hPre
      go_wp2_with fail
      with_reducible refine (hU.out _ _ hS).mono ?_
      rintro x5 w5 ⟨rfl, n5, rfl⟩
      replace hbw := below_drawn (n := n5) hbw
      generalize w4.drewN n5 = w5 at *
      go_wp2_with fail
      with_reducible refine (sc_unmin _).mono ?_
      rintro x6 w' ⟨rfl, hw⟩
      replace hw := hw.symm
      subst hw
      go_wp2_with fail
      with_reducible refine (sc_bool2i _ _).mono ?_
      rintro x7 w' ⟨rfl, hw⟩
      replace hw := hw.symm
      subst hw
      go_wp2_with fail
      with_reducible refine (hRo.out _).mono ?_
      rintro x8 w' ⟨rfl, hw⟩
      replace hw := hw.symm
      subst hw
      go_wp2_with fail
      with_reducible refine (hPk.out _ ?_ _).mono ?_
      · have := hpe.out
        have := hb64.out
        omega
      rintro x9 w' ⟨⟨v9, hv9, rfl⟩, hw⟩
      replace hw := hw.symm
      subst hw
      go_wp2_with fail
      go_ret2
      exact ⟨_, by first | exact hv9 | exact .inl rfl, rfl, hbw⟩
    · have gi : (U : Int) < 36028797018963966 := by omega
      rw [if_neg gU] at hm hGd
      have hor : bits .or .u64 (U : Int) ((U : Int) % 2) = ((U : Nat) : Int) := by
        rw [show (U : Int) % 2 = ((U % 2 : Nat) : Int) by omega, or_u64 (by omega) (by omega), self_or]
      have hor0 : bits .or .u64 0 ((rnd4 U : Nat) : Int) = ((rnd4 U : Nat) : Int) := by
        have := or_u64 (a := 0) (b := rnd4 U) (by decide) (by unfold rnd4; omega)
        rwa [Nat.zero_or] at this
      have hRo : Far (∀ W, Calls Tryz.prog 301 #[.int .u64 (U : Int)] W fun e w' => e = .returned (.int .u64 ((rnd4 U : Nat) : Int)) ∧ w' = W) := ⟨fun W => sc_round U (by omega) W⟩
      obtain ⟨m, hme⟩ : ∃ m, rnd4 U = m := ⟨_, rfl⟩
      rw [hme] at hor0 hRo
      rw [show (rnd4 U, 0).1 = m from hme, show (rnd4 U, 0).2 = 0 from rfl] at hGd
      rw [show (rnd4 U, 0).1 = m from hme] at hm
      have hPk := Far.mk (fun (E : Int) (hE : 1075 + E = ((1074 - parE b p).toNat + 0 + 1 : Nat)) (W : World) => (show Calls Tryz.prog 316 #[.int .u64 (m : Int), .int .i64 E] W fun x w' => (∃ e, ErrV e ∧ x = .returned (.tuple #[.float .f64 G, e])) ∧ w' = W by rw [hGd]; exact sc_pack_all hm hE))
      clear hme gU hm hGd
      have gd : decide ((36028797018963966 : Int) ≤ (U : Int)) = false := decide_eq_false (by omega)
      replace gd := Far.mk gd
      clear gi
      replace hor := Far.mk hor
      replace hs := Far.mk hs
      replace hs0 := Far.mk hs0
      replace hpe := Far.mk hpe
      replace hps := Far.mk hps
      replace hb64 := Far.mk hb64
      go_enter Tryz.func287, Tryz.ntmps287
      go_wp2_with fail
      with_reducible refine (hL64.out _).mono ?_
      rintro e w' ⟨rfl, hw⟩
      replace hw := hw.symm
      subst hw
      go_wp2_with fail
      with_reducible refine (hl2.out _).mono ?_
      rintro e w' ⟨rfl, hw⟩
      replace hw := hw.symm
      subst hw
      go_wp2_with fail
      with_reducible refine (hPre.out _ ?_ (HasB.new _ _ _)).mono ?_
      · have := hpe.out
        have := hb64.out
        omega
      rintro x4 w4 ⟨rfl, hS, hb4⟩
      have hbw : Below w.heap.size w w4 := ((Below.refl w.heap.size w).alloc (Nat.le_refl _) _).trans hb4
      have q2 : w4.cell? ⟨w.heap.size, 2, none⟩ = some (.int .i64 (s : Nat)) := HasB.cell hS 2
      clear hb4 hPre
      go_wp2_with fail
      with_reducible refine (hU.out _ _ hS).mono ?_
      rintro x5 w5 ⟨rfl, n5, rfl⟩
      replace hbw := below_drawn (n := n5) hbw
      generalize w4.drewN n5 = w5 at *
      go_wp2_with fail
      with_reducible refine (sc_unmin _).mono ?_
      rintro x6 w' ⟨rfl, hw⟩
      replace hw := hw.symm
      subst hw
      go_wp2_with fail
      rw [gd.out]
      with_reducible refine (sc_bool2i0 _).mono ?_
      rintro x7 w' ⟨rfl, hw⟩
      replace hw := hw.symm
      subst hw
      go_wp2_with fail
      rw [hor.out]
      with_reducible refine (hRo.out _).mono ?_
      rintro x8 w' ⟨rfl, hw⟩
      replace hw := hw.symm
      subst hw
      go_wp2_with fail
      with_reducible refine (hPk.out _ ?_ _).mono ?_
      · have := hpe.out
        have := hb64.out
        omega
      rintro x9 w' ⟨⟨v9, hv9, rfl⟩, hw⟩
      replace hw := hw.symm
      subst hw
      go_wp2_with fail
      go_ret2
      exact ⟨_, by first | exact hv9 | exact .inl rfl, rfl, hbw⟩
end Us
end Go.Proofs.YtdpbpdhamekcdaaGreatDoor
namespace Go.Proofs.YtdpbpdhamekcdaaGreatDoor
open Go.RowKit
namespace Us
open Nv

/-- What the reader's laid variables hold. -/
structure Rdt (w : World) : Prop where
  opt : w.cell? ⟨5, 0, none⟩ = some (.bool true)
  mant : w.cell? ⟨9, 0, none⟩ = some (.int .u64 52)
  ten : ∃ g o v n c, w.cell? ⟨13, 0, none⟩ = some (.slice (some ⟨g, o, v⟩) n c) ∧ 23 ≤ n ∧ n ≤ c ∧ n ≤ 100 ∧ ∀ i, i ≤ 22 → w.cell? ((⟨g, o, v⟩ : Addr).add i) = some (.float .f64 (tenF i))
  err : ∃ v, w.cell? ⟨4, 0, none⟩ = some v ∧ (v = .nilIface ∨ ∃ te pe, v = .iface te pe)
theorem Rdt.keep {w w' : World} (h : Rdt w) (hb : Below w.heap.size w w') : Rdt w' := ⟨below_keep hb h.opt, below_keep hb h.mant, by
  obtain ⟨g, o, v, n, c, a1, a2, a3, a4, a5⟩ := h.ten
  exact ⟨g, o, v, n, c, below_keep hb a1, a2, a3, a4, fun i hi => below_keep hb (a5 i hi)⟩, by
  obtain ⟨v, h, h2⟩ := h.err
  exact ⟨v, below_keep hb h, h2⟩⟩
theorem run_fdiv {a b c : Nat} (h : Ieee.double.div a b = some c) (t : TypeId) (W : World) : (binOp .quo t (.float .f64 a) (.float .f64 b)).run Tryz.prog W = .ok (.float .f64 c) W := by
  show (Op.floatArith .quo .f64 a b).run Tryz.prog W = _
  unfold Op.floatArith
  rw [show FloatKind.f64.format.div a b = some c from h]
  rfl
/-- What atof64exact tells. -/
def ExQ (d : Nat) (p : Int) (w : World) (x : Ending) (w' : World) : Prop := ((∃ R, x = .returned (.tuple #[.float .f64 R, .bool true]) ∧ Rnd R (d * hiP p * tiny) (loQ p)) ∨ ∃ R, x = .returned (.tuple #[.float .f64 R, .bool false])) ∧ w' = w
theorem hiP_nat (i : Nat) : hiP (i : Int) = 10 ^ i ∧ loQ (i : Int) = 1 := by
  unfold hiP loQ
  rw [Int.toNat_natCast, show (-(i : Int)).toNat = 0 by omega]
  exact ⟨rfl, rfl⟩
theorem hiP_neg (i : Nat) : hiP (-(i : Int)) = 1 ∧ loQ (-(i : Int)) = 10 ^ i := by
  unfold hiP loQ
  rw [show (-(-(i : Int))).toNat = i by omega, show (-(i : Int)).toNat = 0 by omega]
  exact ⟨rfl, rfl⟩
theorem order15 {r : Nat} (h : r < infR) : FloatKind.f64.format.order r 4831355200913801216 = some (compare r 4831355200913801216) := order_rung h (by decide)
/-- A number of middle size does not round to infinity. -/
theorem not_inf {N : Nat} (h : N < 1000000000000000000000000000000000000) : ¬ Rnd infR (N * tiny) 1 := by
  intro hr
  have hl := hr.2
  rw [if_pos (by decide), Nat.mul_one] at hl
  have h1 := hl.1
  obtain ⟨T, hT⟩ : ∃ T : Nat, T = 2045 := ⟨_, rfl⟩
  rw [low_inf hT] at h1
  have e : 2 ^ T = 2 ^ (T - 1074) * tiny := by
    obtain ⟨x, hx⟩ : ∃ x : Nat, x = 1074 := ⟨_, rfl⟩
    rw [tiny_pow hx, ← Nat.pow_add]
    congr 1
    omega
  rw [e, ← Nat.mul_assoc, ← Nat.mul_assoc] at h1
  have h2 := Nat.le_of_mul_le_mul_right h1 tiny_pos
  have h3 : 2 ^ 200 ≤ 2 ^ (T - 1074) := Nat.pow_le_pow_right (by decide) (by omega)
  have h4 := Nat.mul_le_mul (show 1 ≤ 18014398509481983 by decide) h3
  rw [Nat.one_mul] at h4
  have h5 : 2 * 1000000000000000000000000000000000000 ≤ 2 ^ 200 := by decide
  omega
theorem sc_exact {w : World} {d : Nat} {p : Int} (hR : Rdt w) (h1 : 1 ≤ d) (h64 : d < 18446744073709551616) (hp1 : -1000000000 ≤ p) (hp2 : p ≤ 1000000000) :
    Calls Tryz.prog 286 #[.int .u64 (d : Int), .int .i64 p, .bool false] w (ExQ d p w) := by
  obtain ⟨-, h2, ⟨g, o, v, n, c, h3, h4, h5, h6, h7⟩, -⟩ := hR
  unfold ExQ
  by_cases hd : d < 4503599627370496
  · have hsh : ((d : Int) / 4503599627370496 != 0) = false := by
      rw [show (d : Int) / 4503599627370496 = 0 by omega]
      rfl
    have hfl := fl_int d
    have hx1 := fl_lt (m := d) (by omega)
    obtain ⟨x, hx⟩ : ∃ x, Ieee.double.nearest false d 0 = x := ⟨_, rfl⟩
    rw [hx] at hfl hx1
    have h0 : FloatKind.f64.format.order x 14054727237768577024 = some .gt := order_neg15 hx1
    by_cases hp0 : p = 0
    · subst hp0
      have hr := fl_rnd h1
      rw [hx] at hr
      replace hr := Far.mk hr
      clear hx h7 h0
      go_enter Tryz.func286, Tryz.ntmps286
      go_wp2_with fail
      go_ret2
      refine ⟨.inl ⟨_, rfl, ?_⟩, rfl⟩
      have e := hiP_nat 0
      rw [show hiP 0 = 1 from rfl, show loQ 0 = 1 from rfl, Nat.mul_one]
      exact hr.out
    · by_cases hp3 : 0 < p
      · by_cases hi22' : p ≤ 22
        · obtain ⟨i, hi⟩ : ∃ i : Nat, p = (i : Int) := ⟨p.toNat, by omega⟩
          subst hi
          have hi22 : i ≤ 22 := by omega
          obtain ⟨R, hm, hr⟩ := exact_mul (a := d) (i := i) h1 (by omega) hi22
          rw [hx] at hm
          have hc := h7 i hi22
          have hmr := run_fmul hm 24
          rw [← (hiP_nat i).1] at hr
          rw [show (1 : Nat) = loQ (i : Int) from (hiP_nat i).2.symm] at hr
          replace hr := Far.mk hr
          clear hx h7 hm hp0
          generalize tenF i = t at *
          rcases Nat.lt_trichotomy 4831355200913801216 x with ho | ho | ho
          · have o1 : FloatKind.f64.format.order x 4831355200913801216 = some .gt := (order15 hx1).trans (by rw [Nat.compare_eq_gt.2 ho])
            clear ho
            go_enter Tryz.func286, Tryz.ntmps286
            go_wp2_with fail
            go_ret2
            exact ⟨.inr ⟨_, rfl⟩, rfl⟩
          · have o1 : FloatKind.f64.format.order x 4831355200913801216 = some .eq := (order15 hx1).trans (by rw [Nat.compare_eq_eq.2 ho.symm])
            clear ho
            go_enter Tryz.func286, Tryz.ntmps286
            go_wp2_with fail
            go_ret2
            exact ⟨.inl ⟨_, rfl, hr.out⟩, rfl⟩
          · have o1 : FloatKind.f64.format.order x 4831355200913801216 = some .lt := (order15 hx1).trans (by rw [Nat.compare_eq_lt.2 ho])
            clear ho
            go_enter Tryz.func286, Tryz.ntmps286
            go_wp2_with fail
            go_ret2
            exact ⟨.inl ⟨_, rfl, hr.out⟩, rfl⟩
        · by_cases hi37 : p ≤ 37
          · obtain ⟨j, hj⟩ : ∃ j : Nat, p - 22 = (j : Int) := ⟨(p - 22).toNat, by omega⟩
            have hjb : j ≤ 15 := by omega
            have hP : ((j + 22 : Nat) : Int) = p := by omega
            obtain ⟨y, hm1, hr1⟩ := exact_mul (a := d) (i := j) h1 (by omega) (by omega)
            have hy : y < infR := by
              rcases Nat.lt_or_ge y infR with h | h
              · exact h
              · exfalso
                have := hr1.1
                have hyi : y = infR := by omega
                rw [hyi] at hr1
                refine not_inf (N := d * 10 ^ j) ?_ hr1
                have e15 : 10 ^ j ≤ 10 ^ 15 := Nat.pow_le_pow_right (by decide) (by omega)
                have := Nat.mul_le_mul (show d ≤ 4503599627370496 by omega) e15
                omega
            have g0 : FloatKind.f64.format.order y 14054727237768577024 = some .gt := order_neg15 hy
            rw [hx] at hm1
            have hc := h7 j (by omega)
            have hc2 : w.cell? ⟨g, o + 22, none⟩ = some (.float .f64 (tenF 22)) := h7 22 (by omega)
            have hmr := run_fmul hm1 24
            have hjp : (22 : Int) < p := by omega
            replace hP := Far.mk hP
            have hyR := exact_small (a := d) (i := j) (R := y) (by omega) (by omega) (by rw [hx]; exact hm1)
            replace hyR := Far.mk hyR
            clear hx h7 hm1 hp0 hr1 hi22'
            generalize tenF j = t at *
            rcases Nat.lt_or_ge 4831355200913801216 y with ho | ho
            · have o1 : FloatKind.f64.format.order y 4831355200913801216 = some .gt := (order15 hy).trans (by rw [Nat.compare_eq_gt.2 ho])
              clear ho hc2
              go_enter Tryz.func286, Tryz.ntmps286
              go_wp2_with fail
              go_ret2
              exact ⟨.inr ⟨_, rfl⟩, rfl⟩
            · obtain ⟨z1, z2⟩ := hyR.out ho
              obtain ⟨R, hm2, hr⟩ := exact_mul (a := d * 10 ^ j) (i := 22) (Nat.mul_pos h1 (Nat.pow_pos (by decide))) z1 (Nat.le_refl _)
              rw [← z2] at hm2
              rw [Nat.mul_assoc d, ← Nat.pow_add, ← (hiP_nat (j + 22)).1, show (1 : Nat) = loQ ((j + 22 : Nat) : Int) from (hiP_nat (j + 22)).2.symm, hP.out] at hr
              have hmr2 := run_fmul hm2 24
              replace hr := Far.mk hr
              clear hm2 z1 z2 hyR
              generalize tenF 22 = t2 at *
              have o1 : FloatKind.f64.format.order y 4831355200913801216 = some .eq ∨ FloatKind.f64.format.order y 4831355200913801216 = some .lt := by
                rcases Nat.lt_or_eq_of_le ho with h | h
                · exact .inr ((order15 hy).trans (by rw [Nat.compare_eq_lt.2 h]))
                · exact .inl ((order15 hy).trans (by rw [Nat.compare_eq_eq.2 h]))
              clear ho
              rcases o1 with o1 | o1
              · go_enter Tryz.func286, Tryz.ntmps286
                go_wp2_with fail
                go_ret2
                exact ⟨.inl ⟨_, rfl, hr.out⟩, rfl⟩
              · go_enter Tryz.func286, Tryz.ntmps286
                go_wp2_with fail
                go_ret2
                exact ⟨.inl ⟨_, rfl, hr.out⟩, rfl⟩
          · clear h7 h0 hx hp0
            go_enter Tryz.func286, Tryz.ntmps286
            go_wp2_with fail
            go_ret2
            exact ⟨.inr ⟨_, rfl⟩, rfl⟩
      · obtain ⟨i, hi⟩ : ∃ i : Nat, p = -(i : Int) := ⟨(-p).toNat, by omega⟩
        subst hi
        by_cases hi22 : i ≤ 22
        · obtain ⟨R, hm, hr⟩ := exact_div (a := d) (i := i) h1 (by omega) hi22
          rw [hx] at hm
          have hc := h7 i hi22
          have hmr := run_fdiv hm 24
          rw [show d * tiny = d * hiP (-(i : Int)) * tiny by rw [(hiP_neg i).1, Nat.mul_one], ← (hiP_neg i).2] at hr
          replace hr := Far.mk hr
          clear hx h7 hm hp3 h0
          have hp4 : -(i : Int) < 0 := by omega
          have hi0 : (-(i : Int) == 0) = false := beq_eq_false_iff_ne.2 hp0
          clear hp0
          generalize tenF i = t at *
          go_enter Tryz.func286, Tryz.ntmps286
          go_wp2_with fail
          go_ret2
          exact ⟨.inl ⟨_, rfl, hr.out⟩, rfl⟩
        · clear h7 h0 hx
          go_enter Tryz.func286, Tryz.ntmps286
          go_wp2_with fail
          go_ret2
          exact ⟨.inr ⟨_, rfl⟩, rfl⟩
  · have hsh : ((d : Int) / 4503599627370496 != 0) = true := by
      rw [bne_iff_ne]
      omega
    go_enter Tryz.func286, Tryz.ntmps286
    go_wp2_with fail
    go_ret2
    exact ⟨.inr ⟨_, rfl⟩, rfl⟩
end Us
end Go.Proofs.YtdpbpdhamekcdaaGreatDoor
namespace Go.Proofs.YtdpbpdhamekcdaaGreatDoor
open Go.RowKit
namespace Us
open Nv
theorem sc_special {s : ByteArray} (h1 : 1 ≤ s.size) (h2 : s.size ≤ 4000000000000000000) (h0 : ∀ h : 0 < s.size, s[0] = 48) (w : World) : Calls Tryz.prog 275 #[.string s] w fun e w' => e = .returned (.tuple #[.float .f64 0, .int .i64 0, .bool false]) ∧ w' = w := by
  have c0 : (s[0]'(by omega)).toNat = 48 := by rw [h0]; rfl
  have hz : ((s.size : Int) == 0) = false := beq_eq_false_iff_ne.2 (by omega)
  clear h0
  go_enter Tryz.func275, Tryz.ntmps275
  go_wp2_with fail
  go_ret3
  exact ⟨rfl, rfl⟩
/-- What atof64 tells. -/
def AtQ (M : Nat) (p : Int) (n : Nat) (w : World) (x : Ending) (w' : World) : Prop := ∃ R e, ErrV e ∧ x = .returned (.tuple #[.float .f64 R, .int .i64 n, e]) ∧ Rnd R (M * hiP p * tiny) (loQ p) ∧ Below w.heap.size w w'
/-- What readFloat tells of a text. -/
def Reads (s : ByteArray) (M : Nat) (p : Int) : Prop := ∀ W, Calls Tryz.prog 276 #[.string s] W fun e w' => e = .returned (.tuple #[.int .u64 (M : Int), .int .i64 p, .bool false, .bool false, .bool false, .int .i64 (s.size : Nat), .bool true]) ∧ w' = W
attribute [local go_sem] run_frombits2
set_option maxRecDepth 100000 in
set_option maxHeartbeats 4000000 in
theorem sc_atof {s : ByteArray} {M : Nat} {p : Int} {w : World} (hR : Rdt w) (hP : P10 w) (h1 : 1 ≤ s.size) (h2 : s.size ≤ 4000000000000000000) (h0 : ∀ h : 0 < s.size, s[0] = 48) (hread : Reads s M p) (hM1 : 1 ≤ M) (hM2 : M ≤ 10000000000000000000) (hp1 : -1000000000 ≤ p) (hp2 : p ≤ 1000000000)
    (hU : ∀ b, 1 ≤ b → b ≤ 64 → 2 ^ (b - 1) ≤ M → M < 2 ^ b → -345 ≤ p → p ≤ 310 → UOK M b p) :
    Calls Tryz.prog 248 #[.string s] w (AtQ M p s.size w) := by
  have hS := Far.mk (sc_special h1 h2 h0)
  unfold Reads at hread
  have hF := Far.mk hread
  have hB := Far.mk sc_bool2f
  have hE := Far.mk (sc_exact (p := p) hR hM1 (by omega) hp1 hp2)
  obtain ⟨b, hb⟩ : ∃ b, M.log2 + 1 = b := ⟨_, rfl⟩
  have hd1 : 2 ^ (b - 1) ≤ M := by rw [← hb]; exact Nat.log2_self_le (by omega)
  have hd : M < 2 ^ b := by rw [← hb]; exact Nat.lt_log2_self
  have hb2 : b ≤ 64 := by
    have := (Nat.log2_lt (show M ≠ 0 by omega) (k := 64)).2 (by rw [show (2 : Nat) ^ 64 = 18446744073709551616 by decide]; omega)
    omega
  have hb1 : 1 ≤ b := by omega
  have hPar := Far.mk (fun (a1 : -345 ≤ p) (a2 : p ≤ 310) => sc_par hP a1 a2 hb1 hb2 hd1 hd (fun hs => (par_all a1 a2 hb1 hb2 hd1 hd (hU b hb1 hb2 hd1 hd a1 a2) hs).1))
  have hTot := Far.mk (fun (a1 : -345 ≤ p) (a2 : p ≤ 310) => par_total a1 a2 hb1 hb2 hd1 hd (hU b hb1 hb2 hd1 hd a1 a2))
  have hInf := Far.mk (rnd_inf (p := p) hM1)
  have hZero := Far.mk (rnd_zero (p := p) hM2)
  have hMz : ((M : Int) == 0) = false := beq_eq_false_iff_ne.2 (by omega)
  obtain ⟨ho, -, -, -⟩ := hR
  unfold AtQ
  clear hU hb hd1 hd hread h0 hM2
  by_cases a2 : 310 < p
  · go_enter Tryz.func248, Tryz.ntmps248
    go_wp2_with fail
    with_reducible refine (hS.out _).mono ?_
    rintro e w' ⟨rfl, hw⟩
    replace hw := hw.symm
    subst hw
    go_wp2_with fail
    with_reducible refine (hF.out _).mono ?_
    rintro e w' ⟨rfl, hw⟩
    replace hw := hw.symm
    subst hw
    go_wp2_with fail
    with_reducible refine (hB.out _).mono ?_
    rintro e w' ⟨rfl, hw⟩
    replace hw := hw.symm
    subst hw
    go_wp2_with fail
    go_ret3
    exact ⟨infR, _, .inr rfl, rfl, hInf.out (by omega), Below.refl _ _⟩
  · by_cases a1 : p < -345
    · go_enter Tryz.func248, Tryz.ntmps248
      go_wp2_with fail
      with_reducible refine (hS.out _).mono ?_
      rintro e w' ⟨rfl, hw⟩
      replace hw := hw.symm
      subst hw
      go_wp2_with fail
      with_reducible refine (hF.out _).mono ?_
      rintro e w' ⟨rfl, hw⟩
      replace hw := hw.symm
      subst hw
      go_wp2_with fail
      with_reducible refine (hB.out _).mono ?_
      rintro e w' ⟨rfl, hw⟩
      replace hw := hw.symm
      subst hw
      go_wp2_with fail
      go_ret3
      exact ⟨0, _, .inl rfl, rfl, hZero.out (by omega), Below.refl _ _⟩
    · go_enter Tryz.func248, Tryz.ntmps248
      go_wp2_with fail
      with_reducible refine (hS.out _).mono ?_
      rintro e w' ⟨rfl, hw⟩
      replace hw := hw.symm
      subst hw
      go_wp2_with fail
      with_reducible refine (hF.out _).mono ?_
      rintro e w' ⟨rfl, hw⟩
      replace hw := hw.symm
      subst hw
      go_wp2_with fail
      with_reducible refine (hB.out _).mono ?_
      rintro e w' ⟨rfl, hw⟩
      replace hw := hw.symm
      subst hw
      go_wp2_with fail
      with_reducible refine hE.out.mono ?_
      rintro e w' ⟨⟨R, rfl, hr⟩ | ⟨R, rfl⟩, hw⟩
      · replace hw := hw.symm
        subst hw
        replace hr := Far.mk hr
        go_wp2_with fail
        go_ret3
        exact ⟨R, _, .inl rfl, rfl, hr.out, Below.refl _ _⟩
      · replace hw := hw.symm
        subst hw
        go_wp2_with fail
        with_reducible refine (hPar.out (by omega) (by omega)).mono ?_
        rintro e w6 ⟨v, hv, rfl, hb6⟩
        have hT := Far.mk (hTot.out (by omega) (by omega))
        replace hv := Far.mk hv
        generalize goPar M b p = G at *
        go_wp2_with fail
        go_ret3
        exact ⟨_, _, hv.out, rfl, hT.out, hb6⟩
/-- What internal/strconv.ParseFloat tells. -/
def PfQ (M : Nat) (p : Int) (w : World) (x : Ending) (w' : World) : Prop := ∃ R e, ErrV e ∧ x = .returned (.tuple #[.float .f64 R, e]) ∧ Rnd R (M * hiP p * tiny) (loQ p) ∧ Below w.heap.size w w'
theorem sc_prefix {s : ByteArray} {M : Nat} {p : Int} {w : World} (h : Calls Tryz.prog 248 #[.string s] w (AtQ M p s.size w)) : Calls Tryz.prog 213 #[.string s, .int .i64 64] w (AtQ M p s.size w) := by
  have hE := Far.mk h
  unfold AtQ
  clear h
  go_enter Tryz.func213, Tryz.ntmps213
  go_wp2_with fail
  with_reducible refine hE.out.mono ?_
  rintro e w6 ⟨R, v, hv, rfl, hr, hb6⟩
  replace hr := Far.mk hr
  replace hv := Far.mk hv
  go_wp2_with fail
  go_ret3
  exact ⟨R, _, hv.out, rfl, hr.out, hb6⟩
theorem isc_Parse {s : ByteArray} {M : Nat} {p : Int} {w : World} (h : Calls Tryz.prog 248 #[.string s] w (AtQ M p s.size w)) : Calls Tryz.prog 171 #[.string s, .int .i64 64] w (PfQ M p w) := by
  have hE := Far.mk (sc_prefix h)
  unfold PfQ
  clear h
  go_enter Tryz.func171, Tryz.ntmps171
  go_wp2_with fail
  with_reducible refine hE.out.mono ?_
  rintro e w6 ⟨R, v, hv, rfl, hr, hb6⟩
  replace hr := Far.mk hr
  replace hv := Far.mk hv
  go_wp2_with fail
  go_ret2
  exact ⟨R, _, hv.out, rfl, hr.out, hb6⟩
end Us
end Go.Proofs.YtdpbpdhamekcdaaGreatDoor
namespace Go.Proofs.YtdpbpdhamekcdaaGreatDoor
open Go.Shelf Go.Proofs
def laysC245_ren : Go.Shelf.Ren := ⟨fun | 245 => 172 | 279 => 214 | 280 => 215 | 281 => 216 | 282 => 217 | 316 => 249 | 171 => 111 | 205 => 250 | 243 => 173 | 246 => 218 | 283 => 251 | 284 => 252 | 285 => 253 | 286 => 254 | 129 => 260 | 317 => 263 | 318 => 288 | 319 => 289 | 320 => 290 | 337 => 317 | 338 => 131 | n => n, fun | 9 => 9 | 3 => 3 | 75 => 105 | 167 => 176 | 4 => 4 | 168 => 177 | 210 => 199 | 37 => 51 | 0 => 0 | 127 => 186 | 145 => 251 | 143 => 249 | 2 => 2 | 171 => 201 | 53 => 62 | 5 => 5 | 173 => 203 | 212 => 253 | 51 => 22 | 20 => 20 | 213 => 254 | 46 => 108 | 232 => 209 | 233 => 162 | 80 => 158 | n => n, fun | 15 => 3 | 16 => 4 | 17 => 10 | 18 => 16 | 19 => 1 | n => n⟩
theorem laysC245 : Go.Proofs.LaysC.n245 Tryz.prog laysC245_ren := {
  mixed := by kernel_rfl
  f129 := Tryz.func260.trans (congrArg some (by kernel_rfl))
  f171 := Tryz.func111.trans (congrArg some (by kernel_rfl))
  f205 := Tryz.func250.trans (congrArg some (by kernel_rfl))
  f243 := Tryz.func173.trans (congrArg some (by kernel_rfl))
  f245 := Tryz.func172.trans (congrArg some (by kernel_rfl))
  f246 := Tryz.func218.trans (congrArg some (by kernel_rfl))
  f279 := Tryz.func214.trans (congrArg some (by kernel_rfl))
  f280 := Tryz.func215.trans (congrArg some (by kernel_rfl))
  f281 := Tryz.func216.trans (congrArg some (by kernel_rfl))
  f282 := Tryz.func217.trans (congrArg some (by kernel_rfl))
  f283 := Tryz.func251.trans (congrArg some (by kernel_rfl))
  f284 := Tryz.func252.trans (congrArg some (by kernel_rfl))
  f285 := Tryz.func253.trans (congrArg some (by kernel_rfl))
  f286 := Tryz.func254.trans (congrArg some (by kernel_rfl))
  f316 := Tryz.func249.trans (congrArg some (by kernel_rfl))
  f317 := Tryz.func263.trans (congrArg some (by kernel_rfl))
  f318 := Tryz.func288.trans (congrArg some (by kernel_rfl))
  f319 := Tryz.func289.trans (congrArg some (by kernel_rfl))
  f320 := Tryz.func290.trans (congrArg some (by kernel_rfl))
  f337 := Tryz.func317.trans (congrArg some (by kernel_rfl))
  f338 := Tryz.func131.trans (congrArg some (by kernel_rfl))
  t0 := Tryz.underlying0
  a0 := Tryz.isAgg0
  z0 := Tryz.sizeOf0
  v0 := Tryz.zeroValue0
  t2 := Tryz.underlying2
  a2 := Tryz.isAgg2
  z2 := Tryz.sizeOf2
  v2 := Tryz.zeroValue2
  t3 := Tryz.underlying3
  a3 := Tryz.isAgg3
  z3 := Tryz.sizeOf3
  v3 := Tryz.zeroValue3
  t4 := Tryz.underlying4
  a4 := Tryz.isAgg4
  z4 := Tryz.sizeOf4
  v4 := Tryz.zeroValue4
  t5 := Tryz.underlying5
  a5 := Tryz.isAgg5
  z5 := Tryz.sizeOf5
  v5 := Tryz.zeroValue5
  t9 := Tryz.underlying9
  a9 := Tryz.isAgg9
  z9 := Tryz.sizeOf9
  v9 := Tryz.zeroValue9
  t20 := Tryz.underlying20
  a20 := Tryz.isAgg20
  z20 := Tryz.sizeOf20
  v20 := Tryz.zeroValue20
  t37 := Tryz.underlying51
  a37 := Tryz.isAgg51
  z37 := Tryz.sizeOf51
  v37 := Tryz.zeroValue51
  t46 := Tryz.underlying108
  a46 := Tryz.isAgg108
  z46 := Tryz.sizeOf108
  v46 := Tryz.zeroValue108
  t51 := Tryz.underlying22
  a51 := Tryz.isAgg22
  z51 := Tryz.sizeOf22
  v51 := Tryz.zeroValue22
  t53 := Tryz.underlying62
  a53 := Tryz.isAgg62
  z53 := Tryz.sizeOf62
  v53 := Tryz.zeroValue62
  t75 := Tryz.underlying105
  a75 := Tryz.isAgg105
  z75 := Tryz.sizeOf105
  v75 := Tryz.zeroValue105
  t127 := Tryz.underlying186
  a127 := Tryz.isAgg186
  z127 := Tryz.sizeOf186
  v127 := Tryz.zeroValue186
  t143 := Tryz.underlying249
  a143 := Tryz.isAgg249
  z143 := Tryz.sizeOf249
  v143 := Tryz.zeroValue249
  t145 := Tryz.underlying251
  a145 := Tryz.isAgg251
  z145 := Tryz.sizeOf251
  v145 := Tryz.zeroValue251
  t167 := Tryz.underlying176
  a167 := Tryz.isAgg176
  z167 := Tryz.sizeOf176
  v167 := Tryz.zeroValue176
  t168 := Tryz.underlying177
  a168 := Tryz.isAgg177
  z168 := Tryz.sizeOf177
  v168 := Tryz.zeroValue177
  t171 := Tryz.underlying201
  a171 := Tryz.isAgg201
  z171 := Tryz.sizeOf201
  v171 := Tryz.zeroValue201
  t173 := Tryz.underlying203
  a173 := Tryz.isAgg203
  z173 := Tryz.sizeOf203
  v173 := Tryz.zeroValue203
  t210 := Tryz.underlying199
  a210 := Tryz.isAgg199
  z210 := Tryz.sizeOf199
  v210 := Tryz.zeroValue199
  t212 := Tryz.underlying253
  a212 := Tryz.isAgg253
  z212 := Tryz.sizeOf253
  v212 := Tryz.zeroValue253
  t213 := Tryz.underlying254
  a213 := Tryz.isAgg254
  z213 := Tryz.sizeOf254
  t232 := Tryz.underlying209
  a232 := Tryz.isAgg209
  z232 := Tryz.sizeOf209
  v232 := Tryz.zeroValue209
  t233 := Tryz.underlying162
  a233 := Tryz.isAgg162
  z233 := Tryz.sizeOf162
  v233 := Tryz.zeroValue162
  g15 := by kernel_rfl
  g16 := by kernel_rfl
  g17 := by kernel_rfl
  g18 := by kernel_rfl
  g19 := by kernel_rfl
  t80 := Tryz.underlying158
  a80 := Tryz.isAgg158
  z80 := Tryz.sizeOf158
  v80 := Tryz.zeroValue158
  i0 := by kernel_rfl
  i2 := by kernel_rfl
  i3 := by kernel_rfl
  i4 := by kernel_rfl
  i5 := by kernel_rfl
  i9 := by kernel_rfl
  i20 := by kernel_rfl
  i37 := by kernel_rfl
  i46 := by kernel_rfl
  i51 := by kernel_rfl
  i53 := by kernel_rfl
  i75 := by kernel_rfl
  i80 := by kernel_rfl
  i127 := by kernel_rfl
  i143 := by kernel_rfl
  i145 := by kernel_rfl
  i167 := by kernel_rfl
  i168 := by kernel_rfl
  i171 := by kernel_rfl
  i173 := by kernel_rfl
  i210 := by kernel_rfl
  i212 := by kernel_rfl
  i232 := by kernel_rfl
  i233 := by kernel_rfl
  m15 := by kernel_rfl
  m16 := by kernel_rfl
  m17 := by kernel_rfl
  m18 := by kernel_rfl
  m19 := by kernel_rfl
  c0 := by kernel_rfl
  c2 := by kernel_rfl
  c3 := by kernel_rfl
  c4 := by kernel_rfl
  c5 := by kernel_rfl
  c9 := by kernel_rfl
  c20 := by kernel_rfl
  c37 := by kernel_rfl
  c46 := by kernel_rfl
  c51 := by kernel_rfl
  c53 := by kernel_rfl
  c75 := by kernel_rfl
  c80 := by kernel_rfl
  c127 := by kernel_rfl
  c143 := by kernel_rfl
  c145 := by kernel_rfl
  c167 := by kernel_rfl
  c168 := by kernel_rfl
  c171 := by kernel_rfl
  c173 := by kernel_rfl
  c210 := by kernel_rfl
  c212 := by kernel_rfl
  c213 := by kernel_rfl
  c232 := by kernel_rfl
  c233 := by kernel_rfl }
open Go.RowKit in
theorem strconv_toError_range (fn s : ByteArray) (base bits : Int) (ev : Value) (w : World) (hlim : s.size ≤ 281474976710656) (hv : w.cell? ⟨4, 0, none⟩ = some ev) (hev : ev = .nilIface ∨ ∃ te pe, ev = .iface te pe) :
    Calls Tryz.prog 172 #[.string fn, .string s, .int .i64 base, .int .i64 bits, .iface 176 (.int .i64 1)] w fun e w' => ∃ N, e = .returned (.iface 177 (.pointer (some ⟨N, 0, none⟩))) ∧ w.heap.size ≤ N ∧ w'.heap[N]? = some (.cells #[.string fn, .string s, ev] 199 (0, 0)) ∧ Below w.heap.size w w' := Any.strconv_toError_range laysC245 fn s base bits ev w hlim hv hev
end Go.Proofs.YtdpbpdhamekcdaaGreatDoor
namespace Go.Proofs.YtdpbpdhamekcdaaGreatDoor
open Go.RowKit
namespace Us
open Nv
/-- What strconv.ParseFloat tells. -/
def SpQ (M : Nat) (p : Int) (w : World) (x : Ending) (w' : World) : Prop := ∃ R v, x = .returned (.tuple #[.float .f64 R, v]) ∧ Rnd R (M * hiP p * tiny) (loQ p) ∧ Below w.heap.size w w'
set_option maxRecDepth 100000 in
theorem sc_Parse {s : ByteArray} {M : Nat} {p : Int} {w : World} (hR : Rdt w) (hs : s.size ≤ 281474976710656) (h : Calls Tryz.prog 171 #[.string s, .int .i64 64] w (PfQ M p w)) : Calls Tryz.prog 110 #[.string s, .int .i64 64] w (SpQ M p w) := by
  have hE := Far.mk h
  have hT := Far.mk (fun W (hb : Below w.heap.size w W) (v : Value) (h1 : W.cell? ⟨4, 0, none⟩ = some v) (h2 : v = .nilIface ∨ ∃ te pe, v = .iface te pe) => strconv_toError_range ⟨#[80, 97, 114, 115, 101, 70, 108, 111, 97, 116]⟩ s 0 64 v W hs h1 h2)
  have hR := Far.mk hR
  unfold SpQ
  clear h hs
  go_enter Tryz.func110, Tryz.ntmps110
  go_wp2_with fail
  with_reducible refine hE.out.mono ?_
  rintro e w6 ⟨R, v, hv, rfl, hr, hb6⟩
  replace hr := Far.mk hr
  rcases hv with rfl | rfl
  · go_wp2_with fail
    go_ret2
    exact ⟨R, _, rfl, hr.out, hb6⟩
  · obtain ⟨u, hu1, hu2⟩ := (hR.out.keep hb6).err
    have hT2 := Far.mk (hT.out w6 hb6 u hu1 hu2)
    replace hu1 := Far.mk hu1
    replace hu2 := Far.mk hu2
    go_wp2_with fail
    with_reducible refine hT2.out.mono ?_
    rintro e w7 ⟨N, rfl, hN, hN2, hb7⟩
    replace hb7 := hb6.trans (hb7.mono hb6.size)
    clear hN hN2
    go_wp2_with fail
    go_ret2
    exact ⟨R, _, rfl, hr.out, hb7⟩
end Us
end Go.Proofs.YtdpbpdhamekcdaaGreatDoor
