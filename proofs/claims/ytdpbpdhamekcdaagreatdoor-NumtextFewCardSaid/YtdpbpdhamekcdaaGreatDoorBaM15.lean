/-
  What strconv's readFloat tells of a text '0.', digits, 'e', an exponent. Conditions: the first digit is not nought; the exponent has four digits at most. Plain laws of the numbers that rows of decimal digits tell. No program's function; no condition. Contracts of internal/strconv.unmin, bool2 (of ints), pack64: a mantissa and its exponent packed into a float. Conditions: as each says. A contract of internal/strconv.pack64 at small mantissas. Conditions: as it says. A contract of internal/strconv.pack64 at normal mantissas. Conditions: as it says.
-/
import Derived.Test.YtdpbpdhamekcdaaGreatDoorBaM14
import Derived.Test.YtdpbpdhamekcdaaGreatDoorBaM2
import Derived.Test.YtdpbpdhamekcdaaGreatDoorBaM7
import Derived.Test.YtdpbpdhamekcdaaGreatDoorBaM12
import Derived.Test.YtdpbpdhamekcdaaGreatDoorBaM3
namespace Go.Proofs.YtdpbpdhamekcdaaGreatDoor
open Go.RowKit
namespace Us
open Nv

/-- The number of digits, told one by one. -/
def dsum (D : Nat → Nat) : Nat → Nat
  | 0 => 0
  | n + 1 => dsum D n * 10 + D n
/-- Is one of the digits from the 20th on not nought? -/
def dtr (D : Nat → Nat) : Nat → Bool
  | 0 => false
  | n + 1 => dtr D n || (decide (19 ≤ n) && D n != 0)
theorem dsum_lt {D : Nat → Nat} (h : ∀ j, D j ≤ 9) (n : Nat) : dsum D n + 1 ≤ 10 ^ n := by
  induction n with
  | zero => exact Nat.le_refl _
  | succ n ih =>
    have := h n
    rw [Nat.pow_succ]
    show dsum D n * 10 + D n + 1 ≤ _
    omega
theorem dsum_lt19 {D : Nat → Nat} (h : ∀ j, D j ≤ 9) {n : Nat} (hn : n ≤ 19) : dsum D n < 10000000000000000000 := by
  have := dsum_lt h n
  have h2 : 10 ^ n ≤ 10 ^ 19 := Nat.pow_le_pow_right (by decide) hn
  omega
theorem dsum_step {D : Nat → Nat} (h : ∀ j, D j ≤ 9) {n b : Nat} (hn : n < 19) (hb : b = 48 + D n) : ((dsum D n : Nat) : Int) * 10 + ((b : Int) - 48) = ((dsum D (n + 1) : Nat) : Int) ∧ IntKind.u64.wrap ((dsum D n : Nat) * 10) = (dsum D n : Nat) * 10 ∧ dsum D n < 1000000000000000000 := by
  have h1 := dsum_lt h n
  have h2 : 10 ^ n ≤ 10 ^ 18 := Nat.pow_le_pow_right (by decide) (by omega)
  have h3 := h n
  have e : IntKind.u64.wrap ((dsum D n : Nat) * 10) = (dsum D n : Nat) * 10 := by rw [wu64]; omega
  refine ⟨?_, e, by omega⟩
  show _ = ((dsum D n * 10 + D n : Nat) : Int)
  omega
theorem dsum_pos {D : Nat → Nat} (h0 : D 0 ≠ 0) (n : Nat) : 1 ≤ dsum D (n + 1) := by
  induction n with
  | zero =>
    show 1 ≤ 0 * 10 + D 0
    omega
  | succ n ih =>
    show 1 ≤ dsum D (n + 1) * 10 + D (n + 1)
    omega
/-- The reading of the digits, round by round. -/
def RRel (D : Nat → Nat) (L : Nat) (w : World) (m tr i us dot dg nd nm dp : Value) (wr : World) : Prop :=
  (m = .int .u64 0 ∧ tr = .bool false ∧ i = .int .i64 0 ∧ us = .bool false ∧ dot = .bool false ∧ dg = .bool false ∧ nd = .int .i64 0 ∧ nm = .int .i64 0 ∧ dp = .int .i64 0 ∧ wr = w) ∨
  (m = .int .u64 0 ∧ tr = .bool false ∧ i = .int .i64 1 ∧ us = .bool false ∧ dot = .bool false ∧ dg = .bool true ∧ nd = .int .i64 0 ∧ nm = .int .i64 0 ∧ dp = .int .i64 (-1) ∧ wr = w) ∨
  ∃ j : Nat, j ≤ L ∧ m = .int .u64 (dsum D (min j 19) : Nat) ∧ tr = .bool (dtr D j) ∧ i = .int .i64 ((j : Int) + 2) ∧ us = .bool false ∧ dot = .bool true ∧ dg = .bool true ∧ nd = .int .i64 j ∧ nm = .int .i64 (min j 19 : Nat) ∧ dp = .int .i64 0 ∧ wr = w
def RRel2 (E : Nat → Nat) (base : Int) (K : Nat) (w : World) (i us e : Value) (wr : World) : Prop := ∃ q : Nat, q ≤ K ∧ i = .int .i64 (base + (q : Int)) ∧ us = .bool false ∧ e = .int .i64 (dsum E q : Nat) ∧ wr = w
def RMu2 (L : Nat) (i _ _ : Value) (_ : World) : Nat := L - (intOf i).toNat
def RMu (L : Nat) (_ _ i _ _ _ _ _ _ : Value) (_ : World) : Nat := L + 3 - (intOf i).toNat
set_option maxRecDepth 100000 in
set_option maxHeartbeats 4000000 in
theorem sc_readFloat {s : ByteArray} {D E : Nat → Nat} {L K g : Nat} {ng : Bool} (hg : g = if ng then 1 else 0) (hL1 : 1 ≤ L) (hL2 : L ≤ 1000000000000000000) (hK1 : 1 ≤ K) (hK2 : K ≤ 4) (hsz : s.size = L + 3 + g + K)
    (h0 : ∀ h : 0 < s.size, s[0] = 48) (h1 : ∀ h : 1 < s.size, s[1] = 46) (hD9 : ∀ j, D j ≤ 9) (hE9 : ∀ j, E j ≤ 9) (hD0 : D 0 ≠ 0)
    (hD : ∀ k, 2 ≤ k → k < L + 2 → ∀ h : k < s.size, (s[k]).toNat = 48 + D (k - 2)) (he : ∀ k, k = L + 2 → ∀ h : k < s.size, s[k] = 101)
    (hs : ng = true → ∀ k, k = L + 3 → ∀ h : k < s.size, s[k] = 45) (hE : ∀ k, L + 3 + g ≤ k → ∀ h : k < s.size, (s[k]).toNat = 48 + E (k - (L + 3 + g))) (w : World) :
    Calls Tryz.prog 276 #[.string s] w fun e w' => e = .returned (.tuple #[.int .u64 (dsum D (min L 19) : Nat), .int .i64 ((if ng then -1 else 1) * (dsum E K : Nat) - (min L 19 : Nat)), .bool false, .bool (dtr D L), .bool false, .int .i64 (s.size : Nat), .bool true]) ∧ w' = w := by
  have hg1 : g ≤ 1 := by
    rw [hg]
    split <;> omega
  replace hg := Far.mk hg
  have c0 : (s[0]'(by omega)).toNat = 48 := by rw [h0]; rfl
  have c1 : (s[1]'(by omega)).toNat = 46 := by rw [h1]; rfl
  replace hD := Far.mk hD
  replace he := Far.mk he
  replace hs := Far.mk hs
  replace hE := Far.mk hE
  clear h0 h1
  go_enter Tryz.func276, Tryz.ntmps276
  go_wp2_with fail
  go_step3
  go_wp2_with fail
  with_reducible refine (sc_lower (c := 46) (v := 46) (by decide) _).mono ?_
  rintro e w' ⟨rfl, hw⟩
  replace hw := hw.symm
  subst hw
  go_wp2_with fail
  go_step3
  go_wp2_with fail
  go_loopw [2, 5, 7, 9, 13, 14, 15, 16, 17] (RRel D L w) (RMu L)
  case atStart => exact Or.inl ⟨rfl, rfl, rfl, rfl, rfl, rfl, rfl, rfl, rfl, rfl⟩
  case round =>
    rcases hrel with ⟨rfl, rfl, rfl, rfl, rfl, rfl, rfl, rfl, rfl, hw⟩ | ⟨rfl, rfl, rfl, rfl, rfl, rfl, rfl, rfl, rfl, hw⟩ | ⟨j, hj, rfl, rfl, rfl, rfl, rfl, rfl, rfl, rfl, rfl, hw⟩
    · subst hw
      go_wp2_with fail
      go_roundw
      case rel => exact Or.inr (Or.inl ⟨rfl, rfl, rfl, rfl, rfl, rfl, rfl, rfl, rfl, by first | rfl | trivial⟩)
      case measure => simp [RMu, intOf]
    · subst hw
      go_wp2_with fail
      go_roundw
      case rel => exact Or.inr (Or.inr ⟨0, by omega, rfl, rfl, rfl, rfl, rfl, rfl, rfl, rfl, rfl, by first | rfl | trivial⟩)
      case measure => simp [RMu, intOf]
    · replace hw := hw.symm
      subst hw
      clear c0 c1
      have hj1 : (j : Int) + 2 + 1 = ((j + 1 : Nat) : Int) + 2 := by omega
      by_cases hlt : j < L
      · have hk : j + 2 < s.size := by omega
        have hb := hD.out (j + 2) (by omega) (by omega) hk
        rw [Nat.add_sub_cancel] at hb
        have h9 := hD9 j
        obtain ⟨b, hbe⟩ : ∃ b, b = 48 + D j := ⟨_, rfl⟩
        rw [← hbe] at hb
        have e95 : ((b : Int) == 95) = false := beq_eq_false_iff_ne.2 (by omega)
        have e46 : ((b : Int) == 46) = false := beq_eq_false_iff_ne.2 (by omega)
        have hb1 : 48 ≤ b := by omega
        have hb2 : b ≤ 57 := by omega
        by_cases h19 : j < 19
        · have hm : min j 19 = j := by omega
          have hm2 : min (j + 1) 19 = j + 1 := by omega
          have hdt : dtr D (j + 1) = dtr D j := by
            show (dtr D j || (decide (19 ≤ j) && D j != 0)) = _
            rw [decide_eq_false (by omega), Bool.false_and, Bool.or_false]
          obtain ⟨u1, u2, u3⟩ := dsum_step hD9 h19 hbe
          by_cases h48 : b = 48
          · have hj0 : ((j : Int) == 0) = false := beq_eq_false_iff_ne.2 (by
              rintro hz
              have : j = 0 := by omega
              subst this
              omega)
            rw [h48] at hb
            replace u1 : ((dsum D j : Nat) : Int) * 10 = ((dsum D (j + 1) : Nat) : Int) := by omega
            simp only [hm]
            replace hbe := Far.mk hbe
            replace hdt := Far.mk hdt
            replace hm2 := Far.mk hm2
            replace u1 := Far.mk u1
            clear h48 hm
            go_wp2_with fail
            go_roundw
            case rel => exact Or.inr (Or.inr ⟨j + 1, by omega, by rw [hm2.out]; exact congrArg (Value.int .u64) u1.out, by rw [hdt.out], by go_num, rfl, rfl, rfl, by go_num, by rw [hm2.out]; go_num, rfl, by first | rfl | trivial⟩)
            case measure => simp [RMu, intOf]; omega
          · have e48 : ((b : Int) == 48) = false := beq_eq_false_iff_ne.2 (by omega)
            simp only [hm]
            replace hbe := Far.mk hbe
            replace hdt := Far.mk hdt
            replace hm2 := Far.mk hm2
            replace u1 := Far.mk u1
            clear h48 hm
            go_wp2_with fail
            go_roundw
            case rel => exact Or.inr (Or.inr ⟨j + 1, by omega, by rw [hm2.out]; exact congrArg (Value.int .u64) u1.out, by rw [hdt.out], by go_num, rfl, rfl, rfl, by go_num, by rw [hm2.out]; go_num, rfl, by first | rfl | trivial⟩)
            case measure => simp [RMu, intOf]; omega
        · have hm : min j 19 = 19 := by omega
          have hm2 : min (j + 1) 19 = 19 := by omega
          have hj0 : ((j : Int) == 0) = false := beq_eq_false_iff_ne.2 (by omega)
          have u3 := dsum_lt19 hD9 (Nat.le_refl 19)
          by_cases h48 : b = 48
          · have hdt : dtr D (j + 1) = dtr D j := by
              show (dtr D j || (decide (19 ≤ j) && D j != 0)) = _
              rw [show D j = 0 by omega]
              simp
            rw [h48] at hb
            simp only [hm]
            replace hbe := Far.mk hbe
            replace hdt := Far.mk hdt
            replace hm2 := Far.mk hm2
            clear h48 hm
            go_wp2_with fail
            go_roundw
            case rel => exact Or.inr (Or.inr ⟨j + 1, by omega, by rw [hm2.out], by rw [hdt.out], by go_num, rfl, rfl, rfl, by go_num, by rw [hm2.out]; rfl, rfl, by first | rfl | trivial⟩)
            case measure => simp [RMu, intOf]; omega
          · have e48 : ((b : Int) == 48) = false := beq_eq_false_iff_ne.2 (by omega)
            have hdt : dtr D (j + 1) = true := by
              show (dtr D j || (decide (19 ≤ j) && D j != 0)) = _
              rw [decide_eq_true (by omega), bne_iff_ne.2 (by omega)]
              simp
            simp only [hm]
            replace hbe := Far.mk hbe
            replace hdt := Far.mk hdt
            replace hm2 := Far.mk hm2
            clear h48 hm
            go_wp2_with fail
            go_roundw
            case rel => exact Or.inr (Or.inr ⟨j + 1, by omega, by rw [hm2.out], by rw [hdt.out], by go_num, rfl, rfl, rfl, by go_num, by rw [hm2.out]; rfl, rfl, by first | rfl | trivial⟩)
            case measure => simp [RMu, intOf]; omega
      · obtain rfl : j = L := by omega
        have hk : j + 2 < s.size := by omega
        have hb : (s[j + 2]).toNat = 101 := by rw [he.out (j + 2) rfl hk]; rfl
        have hk3 : j + 3 < s.size := by omega
        have hM : 1 ≤ dsum D (min j 19) := by
          obtain ⟨q, hq⟩ : ∃ q, min j 19 = q + 1 := ⟨min j 19 - 1, by omega⟩
          rw [hq]
          exact dsum_pos hD0 q
        have hMne : (((dsum D (min j 19) : Nat) : Int) != 0) = true := bne_iff_ne.2 (by omega)
        have hM2 := dsum_lt19 hD9 (show min j 19 ≤ 19 by omega)
        have hq19 : min j 19 ≤ 19 := by omega
        obtain ⟨M, hMe⟩ : ∃ M, dsum D (min j 19) = M := ⟨_, rfl⟩
        obtain ⟨q9, hqe⟩ : ∃ M, min j 19 = M := ⟨_, rfl⟩
        obtain ⟨T, hTe⟩ : ∃ M, dtr D j = M := ⟨_, rfl⟩
        rw [hMe] at hMne hM2
        rw [hqe] at hq19
        simp only [hMe, hTe]
        simp only [hqe]
        replace hMe := Far.mk hMe
        replace hqe := Far.mk hqe
        replace hTe := Far.mk hTe
        have hgo := hg.out
        clear hD he hj1 hlt hj hM hL1
        replace hMe := Far.mk (And.intro hMe (And.intro hqe hTe))
        clear hqe hTe
        rcases (show ng = false ∨ ng = true by cases ng <;> simp) with hng | hng
        · subst hng
          obtain rfl : g = 0 := hgo
          have hb0 := hE.out (j + 3) (by omega) hk3
          obtain ⟨b0, hb0e⟩ : ∃ b, b = 48 + E (j + 3 - (j + 3 + 0)) := ⟨_, rfl⟩
          rw [← hb0e] at hb0
          have h9 := hE9 (j + 3 - (j + 3 + 0))
          have e43 : ((b0 : Int) == 43) = false := beq_eq_false_iff_ne.2 (by omega)
          have e45 : ((b0 : Int) == 45) = false := beq_eq_false_iff_ne.2 (by omega)
          have hb1 : 48 ≤ b0 := by omega
          have hb2 : b0 ≤ 57 := by omega
          replace hE := Far.mk hE
          clear hg hs h9 hb0e
          go_wp2_with fail
          with_reducible refine (sc_lower (c := 101) (v := 101) (by decide) _).mono ?_
          rintro e w' ⟨rfl, hw⟩
          replace hw := hw.symm
          subst hw
          go_wp2_with fail
          clear hb hb0 e43 e45 hb1 hb2
          go_loopw [7, 9, 20] (RRel2 E ((j : Int) + 3) K w) (RMu2 (j + 3 + K))
          case atStart => exact ⟨0, Nat.zero_le _, by go_num, rfl, rfl, rfl⟩
          case round =>
            obtain ⟨q, hq, rfl, rfl, rfl, hw⟩ := hrel
            subst hw
            by_cases hlt : q < K
            · have hkq : j + 3 + q < s.size := by omega
              have hb := hE.out.out (j + 3 + q) (by omega) hkq
              rw [show j + 3 + q - (j + 3 + 0) = q by omega] at hb
              have h9 := hE9 q
              obtain ⟨b, hbe⟩ : ∃ b, b = 48 + E q := ⟨_, rfl⟩
              rw [← hbe] at hb
              have e95 : ((b : Int) == 95) = false := beq_eq_false_iff_ne.2 (by omega)
              have hb1 : 48 ≤ b := by omega
              have hb2 : b ≤ 57 := by omega
              have h1 := dsum_lt hE9 q
              have h2 : 10 ^ q ≤ 10 ^ 3 := Nat.pow_le_pow_right (by decide) (by omega)
              have h3 : dsum E q ≤ 999 := by omega
              have hst : ((dsum E q : Nat) : Int) * 10 + (b : Int) - 48 = ((dsum E (q + 1) : Nat) : Int) := by
                show _ = ((dsum E q * 10 + E q : Nat) : Int)
                omega
              replace hst := Far.mk hst
              clear h1 h2 hbe h9
              go_wp2_with fail
              go_roundw
              case rel => exact ⟨q + 1, by omega, by go_num, rfl, by first | exact congrArg (Value.int .i64) hst.out | (rw [← hst.out]; go_num), by first | rfl | trivial⟩
              case measure => simp [RMu2, intOf]; omega
            · obtain rfl : q = K := by omega
              have h1 := dsum_lt hE9 q
              have h2 : 10 ^ q ≤ 10 ^ 4 := Nat.pow_le_pow_right (by decide) (by omega)
              have h3 : dsum E q ≤ 9999 := by omega
              clear h1 h2
              go_wp2_with fail
              first | rw [Exit.noGoto_ret] | skip
              refine bodyPost_ret (results_tmp7 rfl _ _ _) rfl ?_
              refine ⟨?_, rfl⟩
              rw [hMe.out.1.out, hMe.out.2.1.out, hMe.out.2.2.out]
              rw [show ((if false = true then -1 else 1) * ((dsum E q : Nat) : Int) - (q9 : Int)) = (dsum E q : Nat) - (q9 : Int) by rw [if_neg (by decide), Int.one_mul], show ((s.size : Nat) : Int) = (j : Int) + 3 + q by omega]
              rfl
        · subst hng
          obtain rfl : g = 1 := hgo
          have hs0 : (s[j + 3]).toNat = 45 := by rw [hs.out rfl (j + 3) rfl hk3]; rfl
          have hk4 : j + 4 < s.size := by omega
          have hb0 := hE.out (j + 4) (by omega) hk4
          obtain ⟨b0, hb0e⟩ : ∃ b, b = 48 + E (j + 4 - (j + 3 + 1)) := ⟨_, rfl⟩
          rw [← hb0e] at hb0
          have h9 := hE9 (j + 4 - (j + 3 + 1))
          have hb1 : 48 ≤ b0 := by omega
          have hb2 : b0 ≤ 57 := by omega
          replace hE := Far.mk hE
          clear hg hs h9 hb0e
          go_wp2_with fail
          with_reducible refine (sc_lower (c := 101) (v := 101) (by decide) _).mono ?_
          rintro e w' ⟨rfl, hw⟩
          replace hw := hw.symm
          subst hw
          go_wp2_with fail
          clear hb hb0 hb1 hb2 hs0
          go_loopw [7, 9, 20] (RRel2 E ((j : Int) + 4) K w) (RMu2 (j + 4 + K))
          case atStart => exact ⟨0, Nat.zero_le _, by go_num, rfl, rfl, rfl⟩
          case round =>
            obtain ⟨q, hq, rfl, rfl, rfl, hw⟩ := hrel
            subst hw
            by_cases hlt : q < K
            · have hkq : j + 4 + q < s.size := by omega
              have hb := hE.out.out (j + 4 + q) (by omega) hkq
              rw [show j + 4 + q - (j + 3 + 1) = q by omega] at hb
              have h9 := hE9 q
              obtain ⟨b, hbe⟩ : ∃ b, b = 48 + E q := ⟨_, rfl⟩
              rw [← hbe] at hb
              have e95 : ((b : Int) == 95) = false := beq_eq_false_iff_ne.2 (by omega)
              have hb1 : 48 ≤ b := by omega
              have hb2 : b ≤ 57 := by omega
              have h1 := dsum_lt hE9 q
              have h2 : 10 ^ q ≤ 10 ^ 3 := Nat.pow_le_pow_right (by decide) (by omega)
              have h3 : dsum E q ≤ 999 := by omega
              have hst : ((dsum E q : Nat) : Int) * 10 + (b : Int) - 48 = ((dsum E (q + 1) : Nat) : Int) := by
                show _ = ((dsum E q * 10 + E q : Nat) : Int)
                omega
              replace hst := Far.mk hst
              clear h1 h2 hbe h9
              go_wp2_with fail
              go_roundw
              case rel => exact ⟨q + 1, by omega, by go_num, rfl, by first | exact congrArg (Value.int .i64) hst.out | (rw [← hst.out]; go_num), by first | rfl | trivial⟩
              case measure => simp [RMu2, intOf]; omega
            · obtain rfl : q = K := by omega
              have h1 := dsum_lt hE9 q
              have h2 : 10 ^ q ≤ 10 ^ 4 := Nat.pow_le_pow_right (by decide) (by omega)
              have h3 : dsum E q ≤ 9999 := by omega
              clear h1 h2
              go_wp2_with fail
              first | rw [Exit.noGoto_ret] | skip
              refine bodyPost_ret (results_tmp7 rfl _ _ _) rfl ?_
              refine ⟨?_, rfl⟩
              rw [hMe.out.1.out, hMe.out.2.1.out, hMe.out.2.2.out]
              have e4 : (j : Int) + 3 + 1 + (q : Int) = (j : Int) + 4 + q := by omega
              show _ = Ending.returned (.tuple #[.int .u64 M, .int .i64 (-((dsum E q : Nat) : Int) - q9), .bool false, .bool T, .bool false, .int .i64 ((j : Int) + 3 + 1 + (q : Int)), .bool true])
              exact (congrArg (fun z => Ending.returned (.tuple #[.int .u64 M, .int .i64 (-((dsum E q : Nat) : Int) - q9), .bool false, .bool T, .bool false, .int .i64 z, .bool true])) e4).symm
end Us
end Go.Proofs.YtdpbpdhamekcdaaGreatDoor
namespace Go.Proofs.YtdpbpdhamekcdaaGreatDoor
namespace Us
open Nv

/-- The number of a row of digits. -/
def valL (l : List UInt8) : Nat := l.foldl (fun a c => a * 10 + (c.toNat - 48)) 0
theorem foldl_val (l : List UInt8) : ∀ a, l.foldl (fun a (c : UInt8) => a * 10 + (c.toNat - 48)) a = a * 10 ^ l.length + valL l := by
  induction l with
  | nil => intro a; simp [valL]
  | cons c r ih =>
    intro a
    unfold valL
    rw [List.foldl_cons, List.foldl_cons, ih, ih, List.length_cons, Nat.pow_succ]
    have : (a * 10 + (c.toNat - 48)) * 10 ^ r.length = a * (10 ^ r.length * 10) + (c.toNat - 48) * 10 ^ r.length := by
      rw [Nat.add_mul, Nat.mul_assoc, Nat.mul_comm 10]
    rw [this, Nat.zero_mul, Nat.zero_add, Nat.add_assoc]
theorem valL_append (a b : List UInt8) : valL (a ++ b) = valL a * 10 ^ b.length + valL b := by
  show (a ++ b).foldl _ 0 = _
  rw [List.foldl_append, foldl_val]
  rfl
theorem valL_cons (c : UInt8) (l : List UInt8) : valL (c :: l) = (c.toNat - 48) * 10 ^ l.length + valL l := by
  have := valL_append [c] l
  simpa [valL] using this
theorem valL_nil : valL [] = 0 := rfl
theorem valL_snoc (l : List UInt8) (c : UInt8) : valL (l ++ [c]) = valL l * 10 + (c.toNat - 48) := by
  rw [valL_append]
  simp [valL]
theorem valL_noughts (n : Nat) : valL (List.replicate n 48) = 0 := by
  induction n with
  | zero => rfl
  | succ n ih =>
    rw [List.replicate_succ, valL_cons, ih, show (48 : UInt8).toNat - 48 = 0 from rfl, Nat.zero_mul]
theorem valL_all48 {l : List UInt8} (h : ∀ c ∈ l, c = 48) : valL l = 0 := by
  rw [List.eq_replicate_of_mem h]
  exact valL_noughts _
theorem valL_trim (l : List UInt8) : valL (l.dropWhile (· == 48)) = valL l := by
  induction l with
  | nil => rfl
  | cons c r ih =>
    by_cases g : c = 48
    · subst g
      rw [List.dropWhile_cons_of_pos (by rfl), ih, valL_cons]
      simp
    · rw [List.dropWhile_cons_of_neg (by simpa using g)]
theorem dg_dec {k : Nat} (h : k < 10) : (dg k).toNat = 48 + k := by
  unfold dg
  rw [if_pos h, UInt8.toNat_ofNat']
  omega
theorem valL_digs (n : Nat) : valL (digs 10 n) = n := by
  unfold digs
  split
  · rename_i h
    subst h
    rfl
  · suffices h : ∀ n, valL (rdigs 10 n).reverse = n from h n
    intro n
    induction n using Nat.strongRecOn with
    | _ n ih =>
      rcases Nat.eq_zero_or_pos n with h | h
      · subst h
        rw [rdigs_zero]
        rfl
      · rw [rdigs_pos (by decide) h, List.reverse_cons, valL_snoc, ih (n / 10) (by omega), dg_dec (Nat.mod_lt _ (by decide))]
        omega
/-- The digits of a row, one by one. -/
def dOf (l : List UInt8) (j : Nat) : Nat := (l.getD j 48).toNat - 48
theorem dsum_take {l : List UInt8} : ∀ {n : Nat}, n ≤ l.length → dsum (dOf l) n = valL (l.take n) := by
  intro n
  induction n with
  | zero => intro _; rfl
  | succ n ih =>
    intro h
    rw [List.take_succ_eq_append_getElem (by omega), valL_snoc, ← ih (by omega)]
    show dsum (dOf l) n * 10 + dOf l n = _
    unfold dOf
    rw [List.getD_eq_getElem?_getD, List.getElem?_eq_getElem (by omega)]
    rfl
theorem dtr_take {l : List UInt8} (h48 : ∀ c ∈ l.drop 19, c = 48) : ∀ {n : Nat}, n ≤ l.length → dtr (dOf l) n = false := by
  intro n
  induction n with
  | zero => intro _; rfl
  | succ n ih =>
    intro h
    show (dtr (dOf l) n || (decide (19 ≤ n) && dOf l n != 0)) = false
    rw [ih (by omega), Bool.false_or]
    by_cases g : 19 ≤ n
    · have : dOf l n = 0 := by
        unfold dOf
        rw [List.getD_eq_getElem?_getD, List.getElem?_eq_getElem (by omega)]
        have hm : l[n] ∈ l.drop 19 := by
          rw [List.mem_iff_getElem]
          exact ⟨n - 19, by rw [List.length_drop]; omega, by rw [List.getElem_drop]; congr 1; omega⟩
        rw [show (some l[n]).getD 48 = l[n] from rfl, h48 _ hm]
        rfl
      rw [this]
      simp
    · rw [decide_eq_false g]
      rfl
theorem isD_iff {b : UInt8} : isD b = true ↔ 48 ≤ b.toNat ∧ b.toNat ≤ 57 := by simp [isD]
theorem dOf_le {l : List UInt8} (h : ∀ b ∈ l, isD b = true) (j : Nat) : dOf l j ≤ 9 := by
  unfold dOf
  rcases Nat.lt_or_ge j l.length with g | g
  · rw [List.getD_eq_getElem?_getD, List.getElem?_eq_getElem g]
    have := isD_iff.1 (h _ (List.getElem_mem g))
    show l[j].toNat - 48 ≤ 9
    omega
  · rw [List.getD_eq_getElem?_getD, List.getElem?_eq_none g]
    decide
theorem dOf_byte {l : List UInt8} (h : ∀ b ∈ l, isD b = true) {j : Nat} (g : j < l.length) : l[j].toNat = 48 + dOf l j := by
  unfold dOf
  rw [List.getD_eq_getElem?_getD, List.getElem?_eq_getElem g]
  have := isD_iff.1 (h _ (List.getElem_mem g))
  show l[j].toNat = 48 + (l[j].toNat - 48)
  omega
theorem digs_D {n : Nat} : ∀ b ∈ digs 10 n, isD b = true := by
  suffices h : ∀ n, ∀ b ∈ rdigs 10 n, isD b = true by
    unfold digs
    split
    · intro b hb
      rw [List.mem_singleton.1 hb]
      rfl
    · intro b hb
      exact h n b (List.mem_reverse.1 hb)
  intro n
  induction n using Nat.strongRecOn with
  | _ n ih =>
    intro b hb
    rcases Nat.eq_zero_or_pos n with h | h
    · subst h
      rw [rdigs_zero] at hb
      cases hb
    · rw [rdigs_pos (by decide) h] at hb
      rcases List.mem_cons.1 hb with h1 | h1
      · rw [h1, isD_iff]
        have := dg_dec (show n % 10 < 10 from Nat.mod_lt _ (by decide))
        omega
      · exact ih (n / 10) (by omega) b h1
end Us
end Go.Proofs.YtdpbpdhamekcdaaGreatDoor
namespace Go.Proofs.YtdpbpdhamekcdaaGreatDoor
open Go.RowKit
namespace Us
theorem sc_unmin (w : World) : Calls Tryz.prog 302 #[.int .u64 9007199254740992] w fun e w' => e = .returned (.int .u64 36028797018963966) ∧ w' = w := by
  go_enter Tryz.func302, Tryz.ntmps302
  go_wp2_with fail
  go_ret
  exact ⟨rfl, rfl⟩
theorem sc_bool2i (b : Bool) (w : World) : Calls Tryz.prog 288 #[.bool b] w fun e w' => e = .returned (.int .i64 (if b then 1 else 0)) ∧ w' = w := by
  go_enter Tryz.func288, Tryz.ntmps288
  cases b
  · go_wp2_with fail
    go_ret
    exact ⟨rfl, rfl⟩
  · go_wp2_with fail
    go_ret
    exact ⟨rfl, rfl⟩
end Us
end Go.Proofs.YtdpbpdhamekcdaaGreatDoor
namespace Go.Proofs.YtdpbpdhamekcdaaGreatDoor
open Go.RowKit
namespace Us
open Nv
theorem run_frombits2 (b : Int) (w : World) : (callFunc 285 #[.int .u64 b]).run Tryz.prog w = .ok (.value (.float .f64 b.toNat)) w := by
  rw [run_callFunc_extern Tryz.func285 (by kernel_rfl) (by kernel_rfl) (by kernel_rfl) (e := Extern.MathFloatBits.float64frombits) (by kernel_rfl)]; rfl
attribute [local go_sem] run_frombits2
theorem and_52 {m : Nat} (h : m < 9007199254740992) : bits .and .u64 (m : Int) 4503599627370496 = if m < 4503599627370496 then 0 else 4503599627370496 := by
  have e : m &&& 4503599627370496 = if m < 4503599627370496 then 0 else 4503599627370496 := by
    have h52 : (4503599627370496 : Nat) = 2 ^ 52 := by decide
    apply Nat.eq_of_testBit_eq
    intro i
    rw [Nat.testBit_and]
    have hb : Nat.testBit 4503599627370496 i = decide (52 = i) := by
      rw [h52, Nat.testBit_two_pow]
    have hm : m.testBit 52 = decide (¬ m < 4503599627370496) := by
      rw [Nat.testBit_eq_decide_div_mod_eq, ← h52]
      apply decide_eq_decide.2
      omega
    rw [hb]
    by_cases hi : 52 = i
    · subst hi
      rw [hm]
      split <;> simp [*]
    · rw [decide_eq_false hi, Bool.and_false]
      split
      · simp
      · rw [hb, decide_eq_false hi]
  have e2 : (BitVec.ofInt 64 (m : Int) &&& BitVec.ofInt 64 4503599627370496).toNat = m &&& 4503599627370496 := by
    rw [BitVec.toNat_and, BitVec.ofInt_natCast, BitVec.toNat_ofNat, Nat.mod_eq_of_lt (by omega)]
    rfl
  show IntKind.u64.wrap ((BitVec.ofInt 64 (m : Int) &&& BitVec.ofInt 64 4503599627370496).toNat : Int) = _
  rw [e2, e]
  split <;> rfl
set_option maxRecDepth 100000 in
theorem sc_pack_small {m : Nat} {e : Int} (h : m < 4503599627370496) (w : World) : Calls Tryz.prog 316 #[.int .u64 (m : Int), .int .i64 e] w fun x w' => x = .returned (.tuple #[.float .f64 m, .nilIface]) ∧ w' = w := by
  have ha := and_52 (m := m) (by omega)
  rw [if_pos h] at ha
  go_enter Tryz.func316, Tryz.ntmps316
  go_wp2_with fail
  go_ret2
  exact ⟨rfl, rfl⟩
theorem andnot_52 {m : Nat} (h1 : 4503599627370496 ≤ m) (h : m < 9007199254740992) : bits .andNot .u64 (m : Int) 4503599627370496 = ((m - 4503599627370496 : Nat) : Int) := by
  have h52 : (4503599627370496 : Nat) = 2 ^ 52 := by decide
  have hc : (18442240474082181119 : Nat) = 2 ^ 64 - (4503599627370496 + 1) := by decide
  obtain ⟨l, rfl⟩ : ∃ l, m = 4503599627370496 + l := ⟨m - 4503599627370496, by omega⟩
  have e : (4503599627370496 + l) &&& 18442240474082181119 = l := by
    apply Nat.eq_of_testBit_eq
    intro i
    rw [Nat.testBit_and, hc, Nat.testBit_two_pow_sub_succ (by decide), h52, Nat.testBit_two_pow]
    have hl : l < 2 ^ 52 := by omega
    rcases Nat.lt_trichotomy i 52 with g | rfl | g
    · rw [Nat.testBit_two_pow_add_gt g, decide_eq_true (by omega), decide_eq_false (by omega)]
      simp
    · rw [Nat.testBit_lt_two_pow hl]
      simp
    · have hp : 2 ^ 53 ≤ 2 ^ i := Nat.pow_le_pow_right (by decide) (by omega)
      rw [Nat.testBit_lt_two_pow (show 2 ^ 52 + l < 2 ^ i by omega), Nat.testBit_lt_two_pow (show l < 2 ^ i by omega)]
      rfl
  have e2 : (BitVec.ofInt 64 ((4503599627370496 + l : Nat) : Int) &&& ~~~ BitVec.ofInt 64 4503599627370496).toNat = (4503599627370496 + l) &&& 18442240474082181119 := by
    rw [BitVec.toNat_and, BitVec.ofInt_natCast, BitVec.toNat_ofNat, Nat.mod_eq_of_lt (by omega)]
    rfl
  show IntKind.u64.wrap ((BitVec.ofInt 64 ((4503599627370496 + l : Nat) : Int) &&& ~~~ BitVec.ofInt 64 4503599627370496).toNat : Int) = _
  rw [e2, e, wrapU64_eq (by omega) (by omega), Nat.add_sub_cancel_left]
end Us
end Go.Proofs.YtdpbpdhamekcdaaGreatDoor
namespace Go.Proofs.YtdpbpdhamekcdaaGreatDoor
open Go.RowKit
namespace Us
open Nv
attribute [local go_sem] run_frombits2
set_option maxRecDepth 100000 in
theorem sc_pack {m K : Nat} {e : Int} (h1 : 4503599627370496 ≤ m) (h2 : m < 9007199254740992) (hk : 1075 + e = (K : Int)) (hk1 : 1 ≤ K) (hk2 : K ≤ 2046) (w : World) :
    Calls Tryz.prog 316 #[.int .u64 (m : Int), .int .i64 e] w fun x w' => x = .returned (.tuple #[.float .f64 (m - 4503599627370496 + K * 4503599627370496), .nilIface]) ∧ w' = w := by
  have ha := and_52 h2
  rw [if_neg (by omega)] at ha
  have hb := andnot_52 h1 h2
  have he : ¬ 972 ≤ e := by omega
  obtain ⟨l, hl⟩ : ∃ l, m - 4503599627370496 = l := ⟨_, rfl⟩
  have hll : l < 4503599627370496 := by omega
  rw [hl] at hb ⊢
  have ho : bits .or .u64 (l : Int) ((K * 4503599627370496 : Nat) : Int) = ((l + K * 4503599627370496 : Nat) : Int) := by
    rw [or_u64 (by omega) (by omega), Nat.or_comm]
    have := Nat.two_pow_add_eq_or_of_lt (i := 52) (b := l) (by omega) K
    rw [show (2 : Nat) ^ 52 = 4503599627370496 by decide, Nat.mul_comm] at this
    rw [← this, Nat.add_comm]
  have hf := Far.mk (show (bits .or .u64 (l : Int) ((K : Int) * 4503599627370496)).toNat = l + K * 4503599627370496 by rw [show (K : Int) * 4503599627370496 = ((K * 4503599627370496 : Nat) : Int) by omega, ho, Int.toNat_natCast])
  clear hl ho
  go_enter Tryz.func316, Tryz.ntmps316
  go_wp2_with fail
  go_ret2
  exact ⟨congrArg (fun z => Ending.returned (.tuple #[.float .f64 z, .nilIface])) hf.out, rfl⟩
end Us
end Go.Proofs.YtdpbpdhamekcdaaGreatDoor
