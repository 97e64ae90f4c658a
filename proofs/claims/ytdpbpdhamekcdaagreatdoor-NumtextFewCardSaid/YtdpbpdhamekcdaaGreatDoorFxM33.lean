/-
  Contracts of numtext.ten, scaled: the nearest whole number of a float times a ten's power. Conditions: the laid table has its values; the power is no great one.
-/
import Derived.Test.YtdpbpdhamekcdaaGreatDoorFxM30
import Derived.Test.YtdpbpdhamekcdaaGreatDoorFxM32
namespace Go.Proofs.YtdpbpdhamekcdaaGreatDoor
open Go.RowKit
namespace Us
open Nv
set_option maxRecDepth 100000 in
theorem nt_ten {K : Int} (hK : -1000 ≤ K ∧ K ≤ 1000) (w : World) : Calls Tryz.prog 153 #[.int .i64 K] w (Gives w (10 ^ K.toNat)) := by
  have hP := Far.mk (fun (k : Nat) (h : k ≤ 1000) => bn_Pow10 (K := (k : Int)) (w := w) rfl h)
  by_cases g : 0 ≤ K
  · obtain ⟨k, rfl⟩ : ∃ k : Nat, K = k := ⟨K.toNat, by omega⟩
    rw [Int.toNat_natCast]
    go_enter Tryz.func153, Tryz.ntmps153
    go_wp2_with fail
    with_reducible refine (hP.out k (by omega)).mono ?_
    rintro x w3 ⟨A3, c3, rfl, hR3, hb3⟩
    replace hR3 := Far.mk hR3
    go_wp2_with fail
    go_ret
    exact ⟨A3, c3, rfl, hR3.out, hb3⟩
  · have e : K.toNat = 0 := by omega
    rw [e]
    have hP0 := hP.out 0 (by omega)
    rw [Int.natCast_zero] at hP0
    replace hP0 := Far.mk hP0
    have hmx : max K 0 = 0 := by omega
    clear e hP
    go_enter Tryz.func153, Tryz.ntmps153
    go_wp2_with fail
    with_reducible refine hP0.out.mono ?_
    rintro x w3 ⟨A3, c3, rfl, hR3, hb3⟩
    replace hR3 := Far.mk hR3
    go_wp2_with fail
    go_ret
    exact ⟨A3, c3, rfl, hR3.out, hb3⟩
/-- What scaled tells. -/
def ScalQ (r : Nat) (p : Int) (w : World) (x : Ending) (w' : World) : Prop := ∃ P D A c, x = .returned (.slice A (Nv.words (rh P D)).length c) ∧ Frac r P D (-p) ∧ (Nv.words (rh P D)).length ≤ 200 ∧ Rd w' A c (Nv.words (rh P D)) ∧ Below w.heap.size w w'
theorem len_two (k : Nat) : (Nv.words (2 ^ k)).length ≤ k / 32 + 1 := len_pow (b := k + 1) (Nat.pow_lt_pow_right (by decide) (by omega)) (by omega)
theorem len_ten (k : Nat) : (Nv.words (10 ^ k)).length ≤ k / 8 + 1 := by
  refine Nat.le_trans (len_mono (ten_le k)) ?_
  have := len_two (4 * k)
  omega
set_option maxRecDepth 100000 in
set_option maxHeartbeats 1600000 in
theorem nt_scaled {r f : Nat} {p : Int} (h : Rung r f) (hp : -400 ≤ p ∧ p ≤ 400) {w : World} (hT : Tz w) : Calls Tryz.prog 88 #[.float .f64 f, .int .i64 p] w (ScalQ r p w) := by
  have hP := Far.mk (bn_PartsT h hT)
  clear h hT
  have l10 := len_ten p.toNat
  have l10' := len_ten (-p).toNat
  go_enter Tryz.func88, Tryz.ntmps88
  go_wp2_with fail
  with_reducible refine hP.out.mono ?_
  rintro x w3 ⟨m, e, A, c, rfl, hFr, hm, he, hR, hb⟩
  have hF := Far.mk (hFr p)
  have hlm : (Nv.words m).length ≤ 2 := words_len (by omega)
  replace hR := Far.mk hR
  replace hb := Far.mk hb
  clear hFr hP
  obtain ⟨T1, hT1⟩ : ∃ T, 10 ^ p.toNat = T := ⟨_, rfl⟩
  obtain ⟨T2, hT2⟩ : ∃ T, 10 ^ (-p).toNat = T := ⟨_, rfl⟩
  have hT20 : 0 < T2 := by rw [← hT2]; exact Nat.pow_pos (by decide)
  rw [hT1] at l10 hF
  rw [hT2] at l10' hF
  go_wp2_with fail
  with_reducible refine (nt_ten (by omega) _).mono ?_
  rw [hT1]
  rintro x w4 ⟨A4, c4, rfl, hR4, hb4⟩
  replace hR := Far.mk (hR.out.below hb4)
  replace hb := Far.mk (hb.out.trans (hb4.mono hb.out.size))
  have lmt : (Nv.words (m * T1)).length ≤ 53 := Nat.le_trans (len_mul _ _) (by omega)
  clear hb4
  go_wp2_with fail
  with_reducible refine (bMul hR.out (by omega) hR4 (by omega) (by omega)).mono ?_
  rintro x w5 ⟨A5, c5, rfl, hR5, hb5⟩
  replace hb := Far.mk (hb.out.trans (hb5.mono hb.out.size))
  replace hR5 := Far.mk hR5
  clear hb5 hR hR4
  obtain ⟨k1, k2, hk1, hk2, hkk⟩ : ∃ k1 k2 : Nat, e.toNat = k1 ∧ (-e).toNat = k2 ∧ ((e = (k1 : Int) ∧ k2 = 0) ∨ (e = -(k2 : Int) ∧ k1 = 0)) := ⟨_, _, rfl, rfl, by omega⟩
  have hk1l : k1 ≤ 1100 := by omega
  have hk2l : k2 ≤ 1100 := by omega
  rw [hk1, hk2] at hF
  have ln := Nat.le_trans (len_mul (m * T1) (2 ^ k1)) (Nat.add_le_add lmt (len_two k1))
  have ld := Nat.le_trans (len_mul T2 (2 ^ k2)) (Nat.add_le_add l10' (len_two k2))
  have ePe : m * 2 ^ k1 * T1 = m * T1 * 2 ^ k1 := by ac_rfl
  have eDe : 2 ^ k2 * T2 = T2 * 2 ^ k2 := by ac_rfl
  rw [ePe, eDe] at hF
  clear hk1 hk2 ePe eDe l10
  obtain ⟨P, hPP⟩ : ∃ P, m * T1 * 2 ^ k1 = P := ⟨_, rfl⟩
  obtain ⟨D, hDD⟩ : ∃ P, T2 * 2 ^ k2 = P := ⟨_, rfl⟩
  have hD0 : 0 < D := by rw [← hDD]; exact Nat.mul_pos hT20 (Nat.two_pow_pos k2)
  rw [hPP] at hF ln
  rw [hDD] at hF ld
  have ln' : (Nv.words P).length ≤ 100 := by omega
  have ld' : (Nv.words D).length ≤ 100 := by omega
  clear ln ld
  rcases hkk with ⟨rfl, h2⟩ | ⟨rfl, h1⟩
  · have hmx : max (-(k1 : Int)) 0 = 0 := by omega
    replace h2 : k2 ≤ 0 := by omega
    go_wp2_with fail
    with_reducible refine (bShl (k := k1) (by omega) hR5.out (by omega) (by omega) (by rw [hPP]; omega)).mono ?_
    rw [hPP]
    rintro x w6 ⟨A6, c6, rfl, hR6, hb6⟩
    replace hR6 := Far.mk hR6
    replace hb := Far.mk (hb.out.trans (hb6.mono hb.out.size))
    clear hb6 hR5
    go_wp2_with fail
    with_reducible refine (nt_ten (by omega) _).mono ?_
    rw [hT2]
    rintro x w7 ⟨A7, c7, rfl, hR7, hb7⟩
    replace hR6 := Far.mk (hR6.out.below hb7)
    replace hR7 := Far.mk hR7
    replace hb := Far.mk (hb.out.trans (hb7.mono hb.out.size))
    clear hb7
    go_wp2_with fail
    with_reducible refine (bShl (k := k2) (by omega) hR7.out (by omega) (by omega) (by rw [hDD]; omega)).mono ?_
    rw [hDD]
    rintro x w8 ⟨A8, c8, rfl, hR8, hb8⟩
    replace hR6 := Far.mk (hR6.out.below hb8)
    replace hR8 := Far.mk hR8
    replace hb := Far.mk (hb.out.trans (hb8.mono hb.out.size))
    clear hb8 hR7
    obtain ⟨q, hq⟩ : ∃ q, P / D = q := ⟨_, rfl⟩
    obtain ⟨R, hRR⟩ : ∃ R, P % D = R := ⟨_, rfl⟩
    have hrh : rh P D = q + (if D ≤ R * 2 then 1 else 0) := by unfold rh; rw [hq, hRR]
    have hlq : (Nv.words q).length ≤ 100 := by rw [← hq]; exact Nat.le_trans (len_mono (Nat.div_le_self _ _)) ln'
    have hlq1 : (Nv.words (q + 1)).length ≤ 101 := Nat.le_trans (len_succ _) (by omega)
    have hlR : (Nv.words R).length ≤ 100 := by rw [← hRR]; exact Nat.le_trans (len_mono (Nat.le_of_lt (Nat.mod_lt _ hD0))) ld'
    have hlR2 : (Nv.words (R * 2 ^ 1)).length ≤ 102 := Nat.le_trans (len_mul _ _) (by have := len_two 1; omega)
    go_wp2_with fail
    with_reducible refine (bn_Div hR6.out (by omega) hR8.out (by omega) hD0).mono ?_
    unfold DivQ
    rw [hq, hRR]
    rintro x w9 ⟨A9, c9, A10, c10, rfl, hR9, hR10, hb9⟩
    replace hR8 := Far.mk (hR8.out.below hb9)
    replace hR9 := Far.mk hR9
    replace hb := Far.mk (hb.out.trans (hb9.mono hb.out.size))
    clear hb9 hR6 hq hRR
    go_wp2_with fail
    with_reducible refine (bShl (k := 1) (K := 1) rfl hR10 (by omega) (by decide) (by omega)).mono ?_
    rintro x w11 ⟨A11, c11, rfl, hR11, hb11⟩
    replace hR8 := Far.mk (hR8.out.below hb11)
    replace hR9 := Far.mk (hR9.out.below hb11)
    replace hb := Far.mk (hb.out.trans (hb11.mono hb.out.size))
    clear hb11 hR10
    rw [Nat.pow_one] at hR11 hlR2 ⊢
    go_wp2_with fail
    with_reducible refine (bCmp hR11 (by omega) hR8.out (by omega)).mono ?_
    rintro x w12 ⟨rfl, z12, hw⟩
    replace hR9 : Far (Rd w12 A9 c9 (Nv.words q)) := ⟨by rw [hw]; exact hR9.out⟩
    replace hb : Far (Below w.heap.size w w12) := ⟨by rw [hw]; exact below_drawn hb.out⟩
    clear hw hR11 hR8
    have hcg := cmp_ge (R * 2) D
    obtain ⟨cc, hcc⟩ : ∃ cc, cmpN (R * 2) D = cc := ⟨_, rfl⟩
    rw [hcc] at hcg ⊢
    clear hcc
    by_cases g : D ≤ R * 2
    · have hc0 : 0 ≤ cc := by rw [hcg]; exact g
      rw [if_pos g] at hrh
      replace hrh := Far.mk hrh
      clear hcg g
      go_wp2_with fail
      with_reducible refine (bn_Of (x := 1) (by decide) (by decide) _).mono ?_
      rw [show (1 : Int).toNat = 1 from rfl]
      rintro x w13 ⟨A13, c13, rfl, hR13, hb13⟩
      have hA := bn_Add rfl rfl (hR9.out.below hb13) (isW_words q) (by omega) hR13 (isW_words 1) (by rw [words_1]; decide) (by rw [nv_words, nv_words]; omega)
      rw [nv_words, nv_words] at hA
      replace hA := Far.mk hA
      replace hb := Far.mk (hb.out.trans (hb13.mono hb.out.size))
      clear hb13 hR9 hR13
      go_wp2_with fail
      with_reducible refine hA.out.mono ?_
      rintro x w14 ⟨A14, c14, rfl, hR14, hb14⟩
      replace hR14 := Far.mk hR14
      go_wp2_with fail
      go_ret
      exact ⟨P, D, A14, c14, by rw [hrh.out]; rfl, hF.out, by rw [hrh.out]; omega, by rw [hrh.out]; exact hR14.out, hb.out.trans (hb14.mono hb.out.size)⟩
    · have hc0 : ¬ 0 ≤ cc := by rw [hcg]; exact g
      rw [if_neg g, Nat.add_zero] at hrh
      replace hrh := Far.mk hrh
      clear hcg g
      go_wp2_with fail
      go_ret
      exact ⟨P, D, A9, c9, by rw [hrh.out]; rfl, hF.out, by rw [hrh.out]; omega, by rw [hrh.out]; exact hR9.out, hb.out⟩
  · have hmx : max (-(k2 : Int)) 0 = 0 := by omega
    replace h1 : k1 ≤ 0 := by omega
    go_wp2_with fail
    with_reducible refine (bShl (k := k1) (by omega) hR5.out (by omega) (by omega) (by rw [hPP]; omega)).mono ?_
    rw [hPP]
    rintro x w6 ⟨A6, c6, rfl, hR6, hb6⟩
    replace hR6 := Far.mk hR6
    replace hb := Far.mk (hb.out.trans (hb6.mono hb.out.size))
    clear hb6 hR5
    go_wp2_with fail
    with_reducible refine (nt_ten (by omega) _).mono ?_
    rw [hT2]
    rintro x w7 ⟨A7, c7, rfl, hR7, hb7⟩
    replace hR6 := Far.mk (hR6.out.below hb7)
    replace hR7 := Far.mk hR7
    replace hb := Far.mk (hb.out.trans (hb7.mono hb.out.size))
    clear hb7
    go_wp2_with fail
    with_reducible refine (bShl (k := k2) (by omega) hR7.out (by omega) (by omega) (by rw [hDD]; omega)).mono ?_
    rw [hDD]
    rintro x w8 ⟨A8, c8, rfl, hR8, hb8⟩
    replace hR6 := Far.mk (hR6.out.below hb8)
    replace hR8 := Far.mk hR8
    replace hb := Far.mk (hb.out.trans (hb8.mono hb.out.size))
    clear hb8 hR7
    obtain ⟨q, hq⟩ : ∃ q, P / D = q := ⟨_, rfl⟩
    obtain ⟨R, hRR⟩ : ∃ R, P % D = R := ⟨_, rfl⟩
    have hrh : rh P D = q + (if D ≤ R * 2 then 1 else 0) := by unfold rh; rw [hq, hRR]
    have hlq : (Nv.words q).length ≤ 100 := by rw [← hq]; exact Nat.le_trans (len_mono (Nat.div_le_self _ _)) ln'
    have hlq1 : (Nv.words (q + 1)).length ≤ 101 := Nat.le_trans (len_succ _) (by omega)
    have hlR : (Nv.words R).length ≤ 100 := by rw [← hRR]; exact Nat.le_trans (len_mono (Nat.le_of_lt (Nat.mod_lt _ hD0))) ld'
    have hlR2 : (Nv.words (R * 2 ^ 1)).length ≤ 102 := Nat.le_trans (len_mul _ _) (by have := len_two 1; omega)
    go_wp2_with fail
    with_reducible refine (bn_Div hR6.out (by omega) hR8.out (by omega) hD0).mono ?_
    unfold DivQ
    rw [hq, hRR]
    rintro x w9 ⟨A9, c9, A10, c10, rfl, hR9, hR10, hb9⟩
    replace hR8 := Far.mk (hR8.out.below hb9)
    replace hR9 := Far.mk hR9
    replace hb := Far.mk (hb.out.trans (hb9.mono hb.out.size))
    clear hb9 hR6 hq hRR
    go_wp2_with fail
    with_reducible refine (bShl (k := 1) (K := 1) rfl hR10 (by omega) (by decide) (by omega)).mono ?_
    rintro x w11 ⟨A11, c11, rfl, hR11, hb11⟩
    replace hR8 := Far.mk (hR8.out.below hb11)
    replace hR9 := Far.mk (hR9.out.below hb11)
    replace hb := Far.mk (hb.out.trans (hb11.mono hb.out.size))
    clear hb11 hR10
    rw [Nat.pow_one] at hR11 hlR2 ⊢
    go_wp2_with fail
    with_reducible refine (bCmp hR11 (by omega) hR8.out (by omega)).mono ?_
    rintro x w12 ⟨rfl, z12, hw⟩
    replace hR9 : Far (Rd w12 A9 c9 (Nv.words q)) := ⟨by rw [hw]; exact hR9.out⟩
    replace hb : Far (Below w.heap.size w w12) := ⟨by rw [hw]; exact below_drawn hb.out⟩
    clear hw hR11 hR8
    have hcg := cmp_ge (R * 2) D
    obtain ⟨cc, hcc⟩ : ∃ cc, cmpN (R * 2) D = cc := ⟨_, rfl⟩
    rw [hcc] at hcg ⊢
    clear hcc
    by_cases g : D ≤ R * 2
    · have hc0 : 0 ≤ cc := by rw [hcg]; exact g
      rw [if_pos g] at hrh
      replace hrh := Far.mk hrh
      clear hcg g
      go_wp2_with fail
      with_reducible refine (bn_Of (x := 1) (by decide) (by decide) _).mono ?_
      rw [show (1 : Int).toNat = 1 from rfl]
      rintro x w13 ⟨A13, c13, rfl, hR13, hb13⟩
      have hA := bn_Add rfl rfl (hR9.out.below hb13) (isW_words q) (by omega) hR13 (isW_words 1) (by rw [words_1]; decide) (by rw [nv_words, nv_words]; omega)
      rw [nv_words, nv_words] at hA
      replace hA := Far.mk hA
      replace hb := Far.mk (hb.out.trans (hb13.mono hb.out.size))
      clear hb13 hR9 hR13
      go_wp2_with fail
      with_reducible refine hA.out.mono ?_
      rintro x w14 ⟨A14, c14, rfl, hR14, hb14⟩
      replace hR14 := Far.mk hR14
      go_wp2_with fail
      go_ret
      exact ⟨P, D, A14, c14, by rw [hrh.out]; rfl, hF.out, by rw [hrh.out]; omega, by rw [hrh.out]; exact hR14.out, hb.out.trans (hb14.mono hb.out.size)⟩
    · have hc0 : ¬ 0 ≤ cc := by rw [hcg]; exact g
      rw [if_neg g, Nat.add_zero] at hrh
      replace hrh := Far.mk hrh
      clear hcg g
      go_wp2_with fail
      go_ret
      exact ⟨P, D, A9, c9, by rw [hrh.out]; rfl, hF.out, by rw [hrh.out]; omega, by rw [hrh.out]; exact hR9.out, hb.out⟩
end Us
end Go.Proofs.YtdpbpdhamekcdaaGreatDoor
