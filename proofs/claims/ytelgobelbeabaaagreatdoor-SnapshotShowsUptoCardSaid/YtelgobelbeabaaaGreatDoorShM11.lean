/-
  A contract of internal/strconv.shortFloat at 64 bits. Conditions: the number is a float's above nought; the table of powers of ten lies where it lies. A contract of internal/strconv.setDigits: a number's digits laid into a row of bytes, the noughts at their end left out. Conditions: the row is of the call's own, the number is a word above nought. A contract of internal/strconv.fmtEFG at 'e', for the shortest digits. Conditions: the row is of the call's own, the digits lie in another one.
-/
import Derived.Test.YtelgobelbeabaaaGreatDoorShM10
import Derived.Lib.OwnBridge
import Derived.Lib.ItoaMem
import Derived.Lib.ItoaLen
import Derived.OwnWalk
namespace Go.Proofs.YtelgobelbeabaaaGreatDoor
open Go.RowKit
namespace Us
open Nv

theorem sf_mant {r : Nat} (h1 : 1 ≤ r) : 1 ≤ mantOf r ∧ (mantOf r).log2 ≤ 52 ∧ mantOf r % 2 = r % 2 := by
  have hl := mant_lt r
  have hp := mant_pos h1
  refine ⟨hp, ?_, ?_⟩
  · have := (Nat.log2_lt (show mantOf r ≠ 0 by omega) (k := 53)).2 (by rw [show (2 : Nat) ^ 53 = 9007199254740992 by decide]; exact hl)
    omega
  · unfold mantOf
    split <;> omega
theorem sf_z {r : Nat} (h1 : 1 ≤ r) (h2 : r < infR) : 11 ≤ zOf r ∧ zOf r ≤ 63 ∧ (-1085 ≤ eOf r → zOf r = 11) ∧ (eOf r < -1085 → (zOf r : Int) = 11 + (-1085 - eOf r) ∧ eOf r + zOf r = -1074) ∧ -1138 ≤ eOf r ∧ eOf r ≤ 971 := by
  obtain ⟨a, b, -⟩ := sf_mant h1
  have hk : kOf r ≤ 2045 := by unfold kOf; unfold infR at h2; omega
  have hz : zOf r = 63 - (mantOf r).log2 := rfl
  have he : eOf r = (kOf r : Int) - zOf r - 1074 := rfl
  by_cases hr : r < 4503599627370496
  · have hk0 : kOf r = 0 := by unfold kOf; omega
    have hl : (mantOf r).log2 < 52 := by
      have hm : mantOf r = r := if_pos hr
      rw [hm]
      exact (Nat.log2_lt (show r ≠ 0 by omega) (k := 52)).2 (by rw [show (2 : Nat) ^ 52 = 4503599627370496 by decide]; exact hr)
    refine ⟨by omega, by omega, by omega, by omega, by omega, by omega⟩
  · have hm : mantOf r = 4503599627370496 + r % 4503599627370496 := if_neg hr
    have hl : (mantOf r).log2 = 52 := log2_eq (by rw [show (2 : Nat) ^ 52 = 4503599627370496 by decide]; omega) (by rw [show (2 : Nat) ^ (52 + 1) = 9007199254740992 by decide]; omega)
    refine ⟨by omega, by omega, by omega, by omega, by omega, by omega⟩
theorem sf_odd (r : Nat) : mOf r / 2 ^ zOf r = mantOf r := by
  unfold mOf
  exact Nat.mul_div_cancel _ (Nat.two_pow_pos _)
theorem P10.lt {w : World} (h : P10 w) : 8 < w.heap.size := by
  have := h.hi 0 (by decide)
  unfold World.cell? at this
  rcases Nat.lt_or_ge 8 w.heap.size with g | g
  · exact g
  · simp [Array.getElem?_eq_none g] at this
theorem sc_ceil' {u : Nat} {X : Int} (hX : X = (u : Int)) (h : u < 18446744073709551612) (w : World) : Calls Tryz.prog 265 #[.int .u64 X] w fun e w' => e = .returned (.int .u64 (((u + 3) / 4 : Nat) : Int)) ∧ w' = w := by
  subst hX
  exact sc_ceil u h w
theorem sc_floor' {u : Nat} {X : Int} (hX : X = (u : Int)) (h : u < 18446744073709551612) (w : World) : Calls Tryz.prog 266 #[.int .u64 X] w fun e w' => e = .returned (.int .u64 ((u / 4 : Nat) : Int)) ∧ w' = w := by
  subst hX
  exact sc_floor u (by omega) w
theorem goU_eq {r i s x : Nat} (hR : Rng r i s) : goU r x = uscaleN x (rowAt (goP r)).1 (rowAt (goP r)).2 s := by
  unfold goU
  rw [hR.hs0, Int.toNat_natCast]
theorem sc_goU {r i s x b : Nat} {X : Int} {W : World} (hR : Rng r i s) (hX : X = (x : Int)) (hS : Sc W b (rowAt (goP r)).1 (rowAt (goP r)).2 s) (hx1 : 4611686018427387904 ≤ x) (hx2 : x < 18446744073709551616) :
    Calls Tryz.prog 263 #[.int .u64 X, .pointer (some ⟨b, 0, none⟩)] W fun e w' => e = .returned (.int .u64 (goU r x : Nat)) ∧ ∃ n, w' = W.drewN n := by
  subst hX
  rw [goU_eq hR]
  refine sc_uscale hS hx2 hR.hi.2 hR.lo hR.s64 ?_
  rw [Nat.le_div_iff_mul_le (by decide)]
  have := Nat.mul_le_mul hx1 hR.hi.1
  omega
theorem goU_rng {r i s x : Nat} (hR : Rng r i s) (hx1 : 4611686018427387904 ≤ x) (hx2 : x < 18446744073709551616) : 1 ≤ goU r x ∧ goU r x < 2305843009213693952 := by
  rw [goU_eq hR]
  exact uscale_rng hx2 hx1 hR.hi hR.lo hR.s3
/-- What shortFloat tells. -/
def ShortQ (r : Nat) (w : World) (x : Ending) (w' : World) : Prop := x = .returned (.tuple #[.int .u64 ((goShort r).1 : Nat), .int .i64 (goShort r).2]) ∧ Below w.heap.size w w'
set_option maxRecDepth 100000 in
set_option maxHeartbeats 4000000 in
theorem sc_short {r : Nat} (h1 : 1 ≤ r) (h2 : r < infR) {w : World} (hP : P10 w) : Calls Tryz.prog 203 #[.int .u64 (mOf r : Nat), .int .i64 (eOf r)] w (ShortQ r w) := by
  obtain ⟨i, s, hR⟩ := go_rng h1 h2
  obtain ⟨z1, z2, z3, z4, e1, e2⟩ := sf_z h1 h2
  have hod := sf_odd r
  obtain ⟨ma, mb, mc⟩ := sf_mant h1
  have hml := mant_lt r
  have hsk : skewOf r = (mOf r == 9223372036854775808 && decide (-1085 < eOf r)) := rfl
  have hmnd : minOf r = mOf r - 2 ^ (zOf r - if skewOf r then 2 else 1) := rfl
  have hmxd : maxOf r = mOf r + 2 ^ (zOf r - 1) := rfl
  have hpd : goP r = if skewOf r then pSk (eOf r) else pOf (if -1085 ≤ eOf r then eOf r else -1085) := rfl
  obtain ⟨v1, v2⟩ := goU_rng (x := minOf r) hR hR.mn (by have := hR.mn2; have := hR.mx; have := hR.mx2; omega)
  obtain ⟨v3, v4⟩ := goU_rng (x := maxOf r) hR (by have := hR.mx; have := hR.m63; omega) hR.mx2
  obtain ⟨v5, v6⟩ := goU_rng (x := mOf r) hR (by have := hR.m63; omega) (by have := hR.mx; have := hR.mx2; omega)
  have hC1 := Far.mk (fun (W : World) (b : Nat) (X : Int) (hS : Sc W b (rowAt (goP r)).1 (rowAt (goP r)).2 s) (hX : X = (minOf r : Nat)) => sc_goU hR hX hS hR.mn (by have := hR.mn2; have := hR.mx; have := hR.mx2; omega))
  have hC2 := Far.mk (fun (W : World) (b : Nat) (X : Int) (hS : Sc W b (rowAt (goP r)).1 (rowAt (goP r)).2 s) (hX : X = (maxOf r : Nat)) => sc_goU hR hX hS (by have := hR.mx; have := hR.m63; omega) hR.mx2)
  have hC3 := Far.mk (fun (W : World) (b : Nat) (X : Int) (hS : Sc W b (rowAt (goP r)).1 (rowAt (goP r)).2 s) (hX : X = (mOf r : Nat)) => sc_goU hR hX hS (by have := hR.m63; omega) (by have := hR.mx; have := hR.mx2; omega))
  have hsz : 8 < w.heap.size := P10.lt hP
  have hP2 := hP.keep ((Below.refl w.heap.size w).alloc (Nat.le_refl _) (.cells #[.int .u64 0, .int .u64 0, .int .i64 0] 286))
  have hPre := Far.mk (fun (hH : HasB (w.alloc (.cells #[.int .u64 0, .int .u64 0, .int .i64 0] 286)) w.heap.size #[.int .u64 0, .int .u64 0, .int .i64 0] 286) => sc_prescale (i := i) (s := s) hP2 hH (Nat.ne_of_gt hsz) hR.hp hR.hi0 (show -2000 ≤ eOf r ∧ eOf r ≤ 2000 by omega) hR.hs0)
  have hG : goShort r = if (goU r (minOf r) + r % 2 + 3) / 4 ≤ (goU r (maxOf r) - r % 2) / 4 / 10 * 10 then ((goU r (maxOf r) - r % 2) / 4 / 10, -(goP r - 1)) else (if (goU r (minOf r) + r % 2 + 3) / 4 < (goU r (maxOf r) - r % 2) / 4 then (goU r (mOf r) + 1 + goU r (mOf r) / 4 % 2) / 4 else (goU r (minOf r) + r % 2 + 3) / 4, -goP r) := rfl
  have hb := hR.m63
  have hb2 : mOf r < 18446744073709551616 := by have := hR.mx; have := hR.mx2; omega
  have hmx2 := hR.mx2
  have hgp := hR.hp
  have hib := hR.hi0
  have hand : bits .and .i64 ((mantOf r : Nat) : Int) 1 = ((r % 2 : Nat) : Int) := by
    have h := bits_mask .i64 63 (by decide) (fun n h1 h2 => by rw [IntKind.wrap_i64]; omega) 1 (by decide) ((mantOf r : Nat) : Int) (by omega) (by omega)
    rw [show ((2 : Int) ^ 1 - 1) = 1 by decide, show ((2 : Int) ^ 1) = 2 by decide] at h
    rw [h]
    omega
  obtain ⟨o, ho⟩ : ∃ o, r % 2 = o := ⟨_, rfl⟩
  have ho1 : o ≤ 1 := by omega
  unfold ShortQ
  rw [ho] at hand hG
  generalize goShort r = G at *
  generalize goU r (minOf r) = U1 at *
  generalize goU r (maxOf r) = U2 at *
  generalize goU r (mOf r) = U3 at *
  generalize minOf r = mn at *
  generalize maxOf r = mx at *
  generalize mOf r = m at *
  generalize eOf r = e at *
  generalize goP r = p at *
  generalize skewOf r = sk at *
  generalize zOf r = z at *
  generalize mantOf r = mt at *
  have hpb : -348 ≤ p ∧ p ≤ 347 := by omega
  clear hR mb mc hP hP2 h1 h2 ho hgp hib
  by_cases g1 : -1085 ≤ e
  · have hz := z3 g1
    subst hz
    have hdv : (m : Int) / 2048 = (mt : Int) := by rw [← hod]; omega
    rw [if_pos g1] at hpd
    by_cases g2 : m = 9223372036854775808 ∧ -1085 < e
    · have g3 : sk = true := by
        rw [hsk, g2.1, decide_eq_true g2.2]
        rfl
      subst g3
      rw [if_pos rfl] at hpd hmnd
      obtain ⟨g4, g5⟩ := g2
      have hmn : (mn : Int) = 9223372036854775296 := by omega
      have hmx : (mx : Int) = 9223372036854776832 := by omega
      have hmt : mt = 4503599627370496 := by omega
      subst g4
      subst hmt
      have hp : Far (p = -(((e + 11) * 631305 - 261663) / 2097152)) := ⟨hpd⟩
      have hand2 : bits .and .i64 4503599627370496 1 = (o : Int) := hand
      clear hsk z3 z4 hod hpd hmnd hmxd hdv hb hb2 hand
      go_enter Tryz.func203, Tryz.ntmps203
      go_wp2_with (first
        | (go_at_call 260; refine (sc_skewed _ (by omega) _).mono ?_; rintro x w' ⟨rfl, hw⟩; replace hw := hw.symm; subst hw)
        | (go_at_call 198; refine (sc_log10 _ (by omega) _).mono ?_; rintro x w' ⟨rfl, hw⟩; replace hw := hw.symm; subst hw)
        | (go_at_call 262; refine (sc_log2 _ (by omega) _).mono ?_; rintro x w' ⟨rfl, hw⟩; replace hw := hw.symm; subst hw))
      rw [← hp.out]
      with_reducible refine (hPre.out (HasB.new _ _ _)).mono ?_
      rintro x w4 ⟨rfl, hS, hb4⟩
      have hbw : Below w.heap.size w w4 := ((Below.refl w.heap.size w).alloc (Nat.le_refl _) _).trans hb4
      clear hb4 hPre hp
      go_wp2_with fail
      with_reducible refine (hC1.out _ _ _ hS (by omega)).mono ?_
      rintro x w5 ⟨rfl, n5, rfl⟩
      replace hS : Sc (w4.drewN n5) w.heap.size (rowAt p).1 (rowAt p).2 s := hS
      replace hbw := below_drawn (n := n5) hbw
      generalize w4.drewN n5 = w5 at *
      go_wp2_with fail
      with_reducible refine (sc_nudge U1 o _ (by omega) (by omega) (by omega) (by omega) _).mono ?_
      rintro x w' ⟨rfl, hw⟩
      replace hw := hw.symm
      subst hw
      go_wp2_with fail
      with_reducible refine (sc_ceil' (u := U1 + o) (by omega) (by omega) _).mono ?_
      rintro x w' ⟨rfl, hw⟩
      replace hw := hw.symm
      subst hw
      obtain ⟨dmin, hdmin⟩ : ∃ d, (U1 + o + 3) / 4 = d := ⟨_, rfl⟩
      rw [hdmin] at hG ⊢
      have hdb : dmin < 9223372036854775800 := by omega
      clear hdmin hC1 v1 v2
      go_wp2_with fail
      with_reducible refine (hC2.out _ _ _ hS (by omega)).mono ?_
      rintro x w6 ⟨rfl, n6, rfl⟩
      replace hS : Sc (w5.drewN n6) w.heap.size (rowAt p).1 (rowAt p).2 s := hS
      replace hbw := below_drawn (n := n6) hbw
      generalize w5.drewN n6 = w6 at *
      go_wp2_with fail
      with_reducible refine (sc_nudge U2 o _ (by omega) (by omega) (by omega) (by omega) _).mono ?_
      rintro x w' ⟨rfl, hw⟩
      replace hw := hw.symm
      subst hw
      go_wp2_with fail
      with_reducible refine (sc_floor' (u := U2 - o) (by omega) (by omega) _).mono ?_
      rintro x w' ⟨rfl, hw⟩
      replace hw := hw.symm
      subst hw
      obtain ⟨dmax, hdmax⟩ : ∃ d, (U2 - o) / 4 = d := ⟨_, rfl⟩
      rw [hdmax] at hG ⊢
      have hdb2 : dmax < 9223372036854775800 := by omega
      clear hdmax hC2 v3 v4
      by_cases k1 : dmin ≤ dmax / 10 * 10
      · rw [if_pos k1] at hG
        replace hG := Far.mk hG
        have k2 : (dmin : Int) ≤ (dmax : Int) / 10 * 10 := by omega
        clear k1
        go_wp2_with fail
        go_ret2
        refine ⟨?_, hbw⟩
        rw [hG.out]
        show Ending.returned (.tuple #[.int .u64 ((dmax : Int) / 10), .int .i64 (-(p - 1))]) = _
        rw [Int.natCast_ediv]
        rfl
      · rw [if_neg k1] at hG
        have k2 : ¬ (dmin : Int) ≤ (dmax : Int) / 10 * 10 := by omega
        clear k1
        by_cases k3 : dmin < dmax
        · rw [if_pos k3] at hG
          replace hG := Far.mk hG
          go_wp2_with fail
          with_reducible refine (hC3.out _ _ _ hS (by omega)).mono ?_
          rintro x w7 ⟨rfl, n7, rfl⟩
          replace hbw := below_drawn (n := n7) hbw
          generalize w6.drewN n7 = w7 at *
          go_wp2_with fail
          with_reducible refine (sc_round U3 (by omega) _).mono ?_
          rintro x w' ⟨rfl, hw⟩
          replace hw := hw.symm
          subst hw
          go_wp2_with fail
          go_ret2
          refine ⟨?_, hbw⟩
          rw [hG.out]
          rfl
        · rw [if_neg k3] at hG
          replace hG := Far.mk hG
          go_wp2_with fail
          go_ret2
          refine ⟨?_, hbw⟩
          rw [hG.out]
          rfl
    · have g3 : sk = false := by
        rw [hsk, Bool.and_eq_false_iff, beq_eq_false_iff_ne, decide_eq_false_iff_not]
        omega
      subst g3
      rw [if_neg (by decide)] at hpd hmnd
      have hmn : (mn : Int) = m - 1024 := by omega
      have hmx : (mx : Int) = m + 1024 := by omega
      have hp : Far (p = -((e + 11) * 78913 / 262144)) := ⟨hpd⟩
      have hmb : m + 1024 < 18446744073709551616 := by omega
      clear hsk z3 z4 hod hpd hmnd hmxd
      by_cases g4 : m = 9223372036854775808
      · have hmt : mt = 4503599627370496 := by omega
        subst g4
        subst hmt
        have g5 : ¬ -1085 < e := by omega
        have hand2 : bits .and .i64 4503599627370496 1 = (o : Int) := hand
        have hmn' : (mn : Int) = 9223372036854774784 := by omega
        have hmx' : (mx : Int) = 9223372036854776832 := by omega
        clear g2 hand hdv hmn hmx hb hb2 hmb
        go_enter Tryz.func203, Tryz.ntmps203
        go_wp2_with (first
          | (go_at_call 260; refine (sc_skewed _ (by omega) _).mono ?_; rintro x w' ⟨rfl, hw⟩; replace hw := hw.symm; subst hw)
          | (go_at_call 198; refine (sc_log10 _ (by omega) _).mono ?_; rintro x w' ⟨rfl, hw⟩; replace hw := hw.symm; subst hw)
          | (go_at_call 262; refine (sc_log2 _ (by omega) _).mono ?_; rintro x w' ⟨rfl, hw⟩; replace hw := hw.symm; subst hw))
        rw [← hp.out]
        with_reducible refine (hPre.out (HasB.new _ _ _)).mono ?_
        rintro x w4 ⟨rfl, hS, hb4⟩
        have hbw : Below w.heap.size w w4 := ((Below.refl w.heap.size w).alloc (Nat.le_refl _) _).trans hb4
        clear hb4 hPre hp
        go_wp2_with fail
        with_reducible refine (hC1.out _ _ _ hS (by omega)).mono ?_
        rintro x w5 ⟨rfl, n5, rfl⟩
        replace hS : Sc (w4.drewN n5) w.heap.size (rowAt p).1 (rowAt p).2 s := hS
        replace hbw := below_drawn (n := n5) hbw
        generalize w4.drewN n5 = w5 at *
        go_wp2_with fail
        with_reducible refine (sc_nudge U1 o _ (by omega) (by omega) (by omega) (by omega) _).mono ?_
        rintro x w' ⟨rfl, hw⟩
        replace hw := hw.symm
        subst hw
        go_wp2_with fail
        with_reducible refine (sc_ceil' (u := U1 + o) (by omega) (by omega) _).mono ?_
        rintro x w' ⟨rfl, hw⟩
        replace hw := hw.symm
        subst hw
        obtain ⟨dmin, hdmin⟩ : ∃ d, (U1 + o + 3) / 4 = d := ⟨_, rfl⟩
        rw [hdmin] at hG ⊢
        have hdb : dmin < 9223372036854775800 := by omega
        clear hdmin hC1 v1 v2
        go_wp2_with fail
        with_reducible refine (hC2.out _ _ _ hS (by omega)).mono ?_
        rintro x w6 ⟨rfl, n6, rfl⟩
        replace hS : Sc (w5.drewN n6) w.heap.size (rowAt p).1 (rowAt p).2 s := hS
        replace hbw := below_drawn (n := n6) hbw
        generalize w5.drewN n6 = w6 at *
        go_wp2_with fail
        with_reducible refine (sc_nudge U2 o _ (by omega) (by omega) (by omega) (by omega) _).mono ?_
        rintro x w' ⟨rfl, hw⟩
        replace hw := hw.symm
        subst hw
        go_wp2_with fail
        with_reducible refine (sc_floor' (u := U2 - o) (by omega) (by omega) _).mono ?_
        rintro x w' ⟨rfl, hw⟩
        replace hw := hw.symm
        subst hw
        obtain ⟨dmax, hdmax⟩ : ∃ d, (U2 - o) / 4 = d := ⟨_, rfl⟩
        rw [hdmax] at hG ⊢
        have hdb2 : dmax < 9223372036854775800 := by omega
        clear hdmax hC2 v3 v4
        by_cases k1 : dmin ≤ dmax / 10 * 10
        · rw [if_pos k1] at hG
          replace hG := Far.mk hG
          have k2 : (dmin : Int) ≤ (dmax : Int) / 10 * 10 := by omega
          clear k1
          go_wp2_with fail
          go_ret2
          refine ⟨?_, hbw⟩
          rw [hG.out]
          show Ending.returned (.tuple #[.int .u64 ((dmax : Int) / 10), .int .i64 (-(p - 1))]) = _
          rw [Int.natCast_ediv]
          rfl
        · rw [if_neg k1] at hG
          have k2 : ¬ (dmin : Int) ≤ (dmax : Int) / 10 * 10 := by omega
          clear k1
          by_cases k3 : dmin < dmax
          · rw [if_pos k3] at hG
            replace hG := Far.mk hG
            go_wp2_with fail
            with_reducible refine (hC3.out _ _ _ hS (by omega)).mono ?_
            rintro x w7 ⟨rfl, n7, rfl⟩
            replace hbw := below_drawn (n := n7) hbw
            generalize w6.drewN n7 = w7 at *
            go_wp2_with fail
            with_reducible refine (sc_round U3 (by omega) _).mono ?_
            rintro x w' ⟨rfl, hw⟩
            replace hw := hw.symm
            subst hw
            go_wp2_with fail
            go_ret2
            refine ⟨?_, hbw⟩
            rw [hG.out]
            rfl
          · rw [if_neg k3] at hG
            replace hG := Far.mk hG
            go_wp2_with fail
            go_ret2
            refine ⟨?_, hbw⟩
            rw [hG.out]
            rfl
      · clear g2
        go_enter Tryz.func203, Tryz.ntmps203
        go_wp2_with (first
          | (go_at_call 260; refine (sc_skewed _ (by omega) _).mono ?_; rintro x w' ⟨rfl, hw⟩; replace hw := hw.symm; subst hw)
          | (go_at_call 198; refine (sc_log10 _ (by omega) _).mono ?_; rintro x w' ⟨rfl, hw⟩; replace hw := hw.symm; subst hw)
          | (go_at_call 262; refine (sc_log2 _ (by omega) _).mono ?_; rintro x w' ⟨rfl, hw⟩; replace hw := hw.symm; subst hw))
        rw [← hp.out]
        with_reducible refine (hPre.out (HasB.new _ _ _)).mono ?_
        rintro x w4 ⟨rfl, hS, hb4⟩
        have hbw : Below w.heap.size w w4 := ((Below.refl w.heap.size w).alloc (Nat.le_refl _) _).trans hb4
        clear hb4 hPre hp
        go_wp2_with fail
        with_reducible refine (hC1.out _ _ _ hS (by omega)).mono ?_
        rintro x w5 ⟨rfl, n5, rfl⟩
        replace hS : Sc (w4.drewN n5) w.heap.size (rowAt p).1 (rowAt p).2 s := hS
        replace hbw := below_drawn (n := n5) hbw
        generalize w4.drewN n5 = w5 at *
        go_wp2_with fail
        with_reducible refine (sc_nudge U1 o _ (by omega) (by omega) (by omega) (by omega) _).mono ?_
        rintro x w' ⟨rfl, hw⟩
        replace hw := hw.symm
        subst hw
        go_wp2_with fail
        with_reducible refine (sc_ceil' (u := U1 + o) (by omega) (by omega) _).mono ?_
        rintro x w' ⟨rfl, hw⟩
        replace hw := hw.symm
        subst hw
        obtain ⟨dmin, hdmin⟩ : ∃ d, (U1 + o + 3) / 4 = d := ⟨_, rfl⟩
        rw [hdmin] at hG ⊢
        have hdb : dmin < 9223372036854775800 := by omega
        clear hdmin hC1 v1 v2
        go_wp2_with fail
        with_reducible refine (hC2.out _ _ _ hS (by omega)).mono ?_
        rintro x w6 ⟨rfl, n6, rfl⟩
        replace hS : Sc (w5.drewN n6) w.heap.size (rowAt p).1 (rowAt p).2 s := hS
        replace hbw := below_drawn (n := n6) hbw
        generalize w5.drewN n6 = w6 at *
        go_wp2_with fail
        with_reducible refine (sc_nudge U2 o _ (by omega) (by omega) (by omega) (by omega) _).mono ?_
        rintro x w' ⟨rfl, hw⟩
        replace hw := hw.symm
        subst hw
        go_wp2_with fail
        with_reducible refine (sc_floor' (u := U2 - o) (by omega) (by omega) _).mono ?_
        rintro x w' ⟨rfl, hw⟩
        replace hw := hw.symm
        subst hw
        obtain ⟨dmax, hdmax⟩ : ∃ d, (U2 - o) / 4 = d := ⟨_, rfl⟩
        rw [hdmax] at hG ⊢
        have hdb2 : dmax < 9223372036854775800 := by omega
        clear hdmax hC2 v3 v4
        by_cases k1 : dmin ≤ dmax / 10 * 10
        · rw [if_pos k1] at hG
          replace hG := Far.mk hG
          have k2 : (dmin : Int) ≤ (dmax : Int) / 10 * 10 := by omega
          clear k1
          go_wp2_with fail
          go_ret2
          refine ⟨?_, hbw⟩
          rw [hG.out]
          show Ending.returned (.tuple #[.int .u64 ((dmax : Int) / 10), .int .i64 (-(p - 1))]) = _
          rw [Int.natCast_ediv]
          rfl
        · rw [if_neg k1] at hG
          have k2 : ¬ (dmin : Int) ≤ (dmax : Int) / 10 * 10 := by omega
          clear k1
          by_cases k3 : dmin < dmax
          · rw [if_pos k3] at hG
            replace hG := Far.mk hG
            go_wp2_with fail
            with_reducible refine (hC3.out _ _ _ hS (by omega)).mono ?_
            rintro x w7 ⟨rfl, n7, rfl⟩
            replace hbw := below_drawn (n := n7) hbw
            generalize w6.drewN n7 = w7 at *
            go_wp2_with fail
            with_reducible refine (sc_round U3 (by omega) _).mono ?_
            rintro x w' ⟨rfl, hw⟩
            replace hw := hw.symm
            subst hw
            go_wp2_with fail
            go_ret2
            refine ⟨?_, hbw⟩
            rw [hG.out]
            rfl
          · rw [if_neg k3] at hG
            replace hG := Far.mk hG
            go_wp2_with fail
            go_ret2
            refine ⟨?_, hbw⟩
            rw [hG.out]
            rfl
  · obtain ⟨z5, z6⟩ := z4 (by omega)
    have g3 : sk = false := by
      rw [hsk, Bool.and_eq_false_iff, decide_eq_false_iff_not]
      omega
    subst g3
    rw [if_neg (by decide), if_neg g1] at hpd
    rw [if_neg (by decide)] at hmnd
    obtain ⟨q, hq⟩ : ∃ q, 2 ^ (z - 1) = q := ⟨_, rfl⟩
    have hq0 : 0 < q := by rw [← hq]; exact Nat.two_pow_pos _
    have hqm : q ≤ m := by omega
    have hmn : (mn : Int) = (m : Int) - q := by omega
    have hmx : (mx : Int) = (m : Int) + q := by omega
    have hqi : ((2 : Int) ^ (z - 1)) = (q : Int) := by rw [← hq, Int.natCast_pow]; rfl
    have hdv : (m : Int) / 2 ^ z = (mt : Int) := by rw [← hod, Int.natCast_ediv, Int.natCast_pow]; rfl
    have hp : p = 324 := by rw [hpd]; decide
    have g5 : ¬ -1085 < e := by omega
    have hz5 : (11 : Int) + (-1085 - e) = (z : Int) := z5.symm
    have hz6 : e + (z : Int) = -1074 := z6
    have hqb : m + q < 18446744073709551616 := by omega
    clear hsk z3 z4 hod hpd hmnd hmxd z5 z6
    obtain ⟨b4, hb4⟩ : ∃ b, ((m : Int) == 9223372036854775808) = b := ⟨_, rfl⟩
    replace hp := Far.mk hp
    clear hq
    cases b4
    all_goals
      go_enter Tryz.func203, Tryz.ntmps203
      go_wp2_with (first
        | (go_at_call 260; refine (sc_skewed _ (by omega) _).mono ?_; rintro x w' ⟨rfl, hw⟩; replace hw := hw.symm; subst hw)
        | (go_at_call 198; refine (sc_log10 _ (by omega) _).mono ?_; rintro x w' ⟨rfl, hw⟩; replace hw := hw.symm; subst hw)
        | (go_at_call 262; refine (sc_log2 _ (by omega) _).mono ?_; rintro x w' ⟨rfl, hw⟩; replace hw := hw.symm; subst hw))
      rw [← hp.out]
      with_reducible refine (hPre.out (HasB.new _ _ _)).mono ?_
      rintro x w4 ⟨rfl, hS, hb4⟩
      have hbw : Below w.heap.size w w4 := ((Below.refl w.heap.size w).alloc (Nat.le_refl _) _).trans hb4
      clear hb4 hPre hp
      go_wp2_with fail
      with_reducible refine (hC1.out _ _ _ hS (by omega)).mono ?_
      rintro x w5 ⟨rfl, n5, rfl⟩
      replace hS : Sc (w4.drewN n5) w.heap.size (rowAt p).1 (rowAt p).2 s := hS
      replace hbw := below_drawn (n := n5) hbw
      generalize w4.drewN n5 = w5 at *
      go_wp2_with fail
      with_reducible refine (sc_nudge U1 o _ (by omega) (by omega) (by omega) (by omega) _).mono ?_
      rintro x w' ⟨rfl, hw⟩
      replace hw := hw.symm
      subst hw
      go_wp2_with fail
      with_reducible refine (sc_ceil' (u := U1 + o) (by omega) (by omega) _).mono ?_
      rintro x w' ⟨rfl, hw⟩
      replace hw := hw.symm
      subst hw
      obtain ⟨dmin, hdmin⟩ : ∃ d, (U1 + o + 3) / 4 = d := ⟨_, rfl⟩
      rw [hdmin] at hG ⊢
      have hdb : dmin < 9223372036854775800 := by omega
      clear hdmin hC1 v1 v2
      go_wp2_with fail
      with_reducible refine (hC2.out _ _ _ hS (by omega)).mono ?_
      rintro x w6 ⟨rfl, n6, rfl⟩
      replace hS : Sc (w5.drewN n6) w.heap.size (rowAt p).1 (rowAt p).2 s := hS
      replace hbw := below_drawn (n := n6) hbw
      generalize w5.drewN n6 = w6 at *
      go_wp2_with fail
      with_reducible refine (sc_nudge U2 o _ (by omega) (by omega) (by omega) (by omega) _).mono ?_
      rintro x w' ⟨rfl, hw⟩
      replace hw := hw.symm
      subst hw
      go_wp2_with fail
      with_reducible refine (sc_floor' (u := U2 - o) (by omega) (by omega) _).mono ?_
      rintro x w' ⟨rfl, hw⟩
      replace hw := hw.symm
      subst hw
      obtain ⟨dmax, hdmax⟩ : ∃ d, (U2 - o) / 4 = d := ⟨_, rfl⟩
      rw [hdmax] at hG ⊢
      have hdb2 : dmax < 9223372036854775800 := by omega
      clear hdmax hC2 v3 v4
      by_cases k1 : dmin ≤ dmax / 10 * 10
      · rw [if_pos k1] at hG
        replace hG := Far.mk hG
        have k2 : (dmin : Int) ≤ (dmax : Int) / 10 * 10 := by omega
        clear k1
        go_wp2_with fail
        go_ret2
        refine ⟨?_, hbw⟩
        rw [hG.out]
        show Ending.returned (.tuple #[.int .u64 ((dmax : Int) / 10), .int .i64 (-(p - 1))]) = _
        rw [Int.natCast_ediv]
        rfl
      · rw [if_neg k1] at hG
        have k2 : ¬ (dmin : Int) ≤ (dmax : Int) / 10 * 10 := by omega
        clear k1
        by_cases k3 : dmin < dmax
        · rw [if_pos k3] at hG
          replace hG := Far.mk hG
          go_wp2_with fail
          with_reducible refine (hC3.out _ _ _ hS (by omega)).mono ?_
          rintro x w7 ⟨rfl, n7, rfl⟩
          replace hbw := below_drawn (n := n7) hbw
          generalize w6.drewN n7 = w7 at *
          go_wp2_with fail
          with_reducible refine (sc_round U3 (by omega) _).mono ?_
          rintro x w' ⟨rfl, hw⟩
          replace hw := hw.symm
          subst hw
          go_wp2_with fail
          go_ret2
          refine ⟨?_, hbw⟩
          rw [hG.out]
          rfl
        · rw [if_neg k3] at hG
          replace hG := Far.mk hG
          go_wp2_with fail
          go_ret2
          refine ⟨?_, hbw⟩
          rw [hG.out]
          rfl
end Us
end Go.Proofs.YtelgobelbeabaaaGreatDoor
namespace Go.Proofs.YtelgobelbeabaaaGreatDoor
open Go.RowKit
namespace Us
open Nv

theorem dec_eq (u : Nat) : Lib.decDigits u = digs 10 u := by
  induction u using Nat.strongRecOn with
  | _ u ih =>
    rw [Lib.decDigits]
    split
    · rename_i h
      rw [digs_one h]
      unfold dg
      rw [if_pos h]
    · rename_i h
      rw [digs_snoc (by omega), ih _ (by omega)]
      unfold dg
      rw [if_pos (by omega)]
theorem dec_len (u : Nat) : Lib.nDigits u = (digs 10 u).length := by rw [← dec_eq, Lib.decDigits_length]
/-- A block's first cells are these bytes. -/
def Bt (w : World) (b : Nat) (l : List UInt8) : Prop := ∀ j, j < l.length → w.cell? ⟨b, j, none⟩ = some (.int .u8 ((l.getD j 0).toNat : Int))
theorem Bt.keep {w w' : World} {b : Nat} {l : List UInt8} (h : Bt w b l) (hb : Below w.heap.size w w') : Bt w' b l := fun j hj => below_keep hb (h j hj)
theorem last_digit {c : Nat} (hc : c % 10 ≠ 0) : (digs 10 c).getD ((digs 10 c).length - 1) 0 ≠ 48 := by
  rcases Nat.lt_or_ge c 10 with h | h
  · rw [digs_one h]
    intro e
    have e2 := congrArg UInt8.toNat e
    have : (dg c).toNat = 48 := e2
    rw [dg_nat h] at this
    omega
  · rw [digs_snoc h, List.length_append, List.getD_eq_getElem?_getD, List.getElem?_append_right (by simp), List.length_singleton, Nat.add_sub_cancel, Nat.sub_self]
    intro e
    have e2 := congrArg UInt8.toNat e
    have : (dg (c % 10)).toNat = 48 := e2
    rw [dg_nat (by omega)] at this
    omega
set_option maxRecDepth 100000 in
set_option maxHeartbeats 800000 in
theorem sc_setDigits {b c t d : Nat} {p : Int} {ty : TypeId} {w : World} (hd : d = c * 10 ^ t) (hc : c % 10 ≠ 0) (hd2 : d < 18446744073709551616) (hB : HasB w b (Array.replicate 32 (.int .u8 0)) ty) (hp : -1000 ≤ p ∧ p ≤ 1000) :
    Calls Tryz.prog 197 #[.slice (some ⟨b, 0, none⟩) 32 32, .int .u64 (d : Nat), .int .i64 p, .int .i64 ((digs 10 d).length : Nat)] w fun x w' =>
      x = .returned (.tuple #[.int .i64 (((digs 10 d).length : Int) + p), .int .i64 ((digs 10 c).length : Nat)]) ∧ Bt w' b (digs 10 d) ∧ Below b w w' := by
  have hnd := Lib.nDigits_le20 d hd2
  have hlt := Lib.lt_pow_nDigits d
  rw [dec_len] at hnd hlt
  have hdt := digs_ten c (by omega) t
  rw [← hd] at hdt
  have hlast := last_digit hc
  have hfb := fun (W : World) (arr : Array UInt8) (hsz : arr.size = (digs 10 d).length) (hH : Sort.Holds (fun (b : UInt8) => Value.int .u8 (b.toNat : Int)) W b 0 arr) => internal_strconv_formatBase10 b 0 32 d arr W hH (by rw [hsz]; exact hlt) hd2 (by omega)
  have hrow := fun (v' : Nat) (dk : Array UInt8) (h : Lib.FmtInv (digs 10 d).length d 0 v' dk) (j : Nat) (hj : j < (digs 10 d).length) => (show (digs 10 d)[j] = dk[j]! from by
    rw [← dec_len] at h
    have := Lib.row_is_numeral h j (by rw [dec_eq]; exact hj)
    rw [← this]
    simp only [dec_eq])
  obtain ⟨arr, harr⟩ : ∃ arr : Array UInt8, arr = Array.replicate (digs 10 d).length 0 := ⟨_, rfl⟩
  have hsz : arr.size = (digs 10 d).length := by rw [harr]; simp
  have hold : Sort.Holds (fun (b : UInt8) => Value.int .u8 (b.toNat : Int)) w b 0 arr := by
    intro j hj
    rw [hsz] at hj
    refine ⟨?_, hB.free _⟩
    rw [Nat.zero_add, hB.cell j, harr]
    rw [getElem!_pos _ j (by simpa using hj), Array.getElem_replicate, Array.getElem?_replicate, if_pos (by omega)]
    rfl
  have hC := hfb w arr hsz hold
  rw [hsz] at hC
  have hpost : ∀ (n v' : Nat) (dk : Array UInt8), Lib.FmtInv (digs 10 d).length d 0 v' dk → Bt ((Sort.putRow (fun (b : UInt8) => Value.int .u8 (b.toNat : Int)) w b 0 dk).drewN n) b (digs 10 d) ∧ Below b w ((Sort.putRow (fun (b : UInt8) => Value.int .u8 (b.toNat : Int)) w b 0 dk).drewN n) := by
    intro n v' dk h
    have hk : dk.size = arr.size := by rw [h.size, hsz]
    refine ⟨fun j hj => ?_, below_drawn (Lib.below_putRow (q := 0) (Below.refl b w) (Nat.le_refl b))⟩
    have := Sort.cell?_putRow (fun (b : UInt8) => Value.int .u8 (b.toNat : Int)) w b 0 arr dk hold hk j (by rw [h.size]; exact hj)
    rw [Nat.zero_add] at this
    have e : (digs 10 d).getD j 0 = dk[j]! := by
      rw [List.getD_eq_getElem?_getD, List.getElem?_eq_getElem hj, Option.getD_some, hrow v' dk h j hj]
    rw [e]
    exact this
  have hchar : ∀ j, j < (digs 10 d).length → (((digs 10 d).getD j 0).toNat : Int) ≥ 0 := fun j _ => by omega
  have htail : ∀ j, (digs 10 c).length ≤ j → j < (digs 10 d).length → (((digs 10 d).getD j 0).toNat : Int) = 48 := by
    intro j h1 h2
    rw [hdt] at h2 ⊢
    rw [List.length_append, List.length_replicate] at h2
    rw [List.getD_eq_getElem?_getD, List.getElem?_append_right h1, List.getElem?_replicate, if_pos (by omega)]
    rfl
  have hlc : 1 ≤ (digs 10 c).length := by
    obtain ⟨c0, l0, e, -⟩ := digs_head (q := c) (by omega)
    rw [e]
    simp
  have hhead : (((((digs 10 d).getD ((digs 10 c).length - 1) 0).toNat : Int)) == 48) = false := by
    rw [hdt, List.getD_eq_getElem?_getD, List.getElem?_append_left (by omega), ← List.getD_eq_getElem?_getD]
    refine beq_eq_false_iff_ne.2 fun h => hlast ?_
    apply UInt8.toNat_inj.1
    show _ = 48
    omega
  have hLd : (digs 10 d).length = (digs 10 c).length + t := by rw [hdt, List.length_append, List.length_replicate]
  clear hfb hrow hold hdt hlast hB hlt hd hc hd2 harr hsz hchar
  obtain ⟨Lc, hLc⟩ : ∃ L, (digs 10 c).length = L := ⟨_, rfl⟩
  obtain ⟨L, hL⟩ : ∃ L, (digs 10 d).length = L := ⟨_, rfl⟩
  have hBt : ∀ W, Bt W b (digs 10 d) → ∀ j, j < L → W.cell? ⟨b, j, none⟩ = some (.int .u8 (((digs 10 d).getD j 0).toNat : Int)) := fun W h j hj => h j (by omega)
  rw [hL] at hC hpost htail hLd hnd ⊢
  rw [hLc] at htail hhead hlc hLd ⊢
  subst hLd
  replace hC := Far.mk hC
  replace hpost := Far.mk hpost
  replace htail := Far.mk htail
  replace hBt := Far.mk hBt
  replace hhead := Far.mk hhead
  go_enter Tryz.func197, Tryz.ntmps197
  go_wp2_with fail
  with_reducible refine hC.out.mono ?_
  rintro x w3 ⟨rfl, n, v', dk, rfl, hinv⟩
  obtain ⟨hbt, hbw⟩ := hpost.out n v' dk hinv
  generalize ((Sort.putRow (fun (b : UInt8) => Value.int .u8 (b.toNat : Int)) w b 0 dk).drewN n) = w3 at *
  clear hinv hpost hC
  go_wp2_with fail
  go_loopw [3] (fun nd wr => ∃ k : Nat, k ≤ t ∧ nd = .int .i64 ((Lc + k : Nat) : Int) ∧ wr = w3) (fun nd _ => (intOf nd).toNat)
  case atStart => exact ⟨t, Nat.le_refl _, rfl, rfl⟩
  case round =>
    obtain ⟨k, hk, rfl, rfl⟩ := hrel
    obtain ⟨j, hj⟩ : ∃ j, Lc + k = j + 1 := ⟨Lc + k - 1, by omega⟩
    have hcell := hBt.out wr hbt j (by omega)
    rw [hj]
    have hjb : j < 32 := by omega
    by_cases k0 : k = 0
    · have hx := hhead.out
      rw [show Lc - 1 = j by omega] at hx
      obtain ⟨x, hxx⟩ : ∃ x : Int, (((digs 10 d).getD j 0).toNat : Int) = x := ⟨_, rfl⟩
      have hx0 : 0 ≤ x ∧ x < 256 := by rw [← hxx]; have := ((digs 10 d).getD j 0).toNat_lt; omega
      rw [hxx] at hcell hx
      clear hxx
      go_wp2_with fail
      go_ret2
      exact ⟨by rw [show ((j + 1 : Nat) : Int) = (Lc : Int) by omega]; show Ending.returned (.tuple #[.int .i64 ((Lc : Int) + (t : Int) + p), .int .i64 (Lc : Int)]) = _; rw [Int.natCast_add], hbt, hbw⟩
    · have hx := htail.out j (by omega) (by omega)
      rw [hx] at hcell
      clear hx
      go_wp2_with fail
      go_roundw
      case rel => exact ⟨k - 1, by omega, by rw [show Lc + (k - 1) = j by omega] <;> go_num, by first | rfl | trivial⟩
      case measure => simp [intOf] <;> omega
end Us
end Go.Proofs.YtelgobelbeabaaaGreatDoor
namespace Go.Proofs.YtelgobelbeabaaaGreatDoor
open Go.RowKit
namespace Us
open Nv

/-- An exponent's two or three digits. -/
def dd (k : Nat) : List UInt8 := if k < 10 then [48, UInt8.ofNat (48 + k)] else if k < 100 then [UInt8.ofNat (48 + k / 10), UInt8.ofNat (48 + k % 10)] else [UInt8.ofNat (48 + k / 100), UInt8.ofNat (48 + k / 10 % 10), UInt8.ofNat (48 + k % 10)]
/-- Digits with an exponent, as the library writes them. -/
def eS (l : List UInt8) (e : Int) : List UInt8 := l.take 1 ++ (if 1 < l.length then [46] ++ l.drop 1 else []) ++ [101] ++ [if e < 0 then 45 else 43] ++ dd e.natAbs
/-- append(v, bytes..), the bytes of another row. -/
theorem append_bytes {w : World} {ops : Array Oper} {rest : List Oper} {o : Oper} {a : Act} {Q : Exit → Act → World → Prop} (hgd : o.guard = none) (s x : Operand)
    (ho : o.op = .call { callee := .builtin .append, args := #[s, x], argTypes := #[51, 51] }) (base : Nat) {v : Value} {xs bs : List UInt8} {n c : Nat} {ad : Addr}
    (hs : a.eval s = v) (hown : B8 w base v xs) (hx : a.eval x = .slice (some ad) n c) (hn : bs.length = n) (hnews : ∀ j u, (bv bs)[j]? = some u → w.cell? (ad.add j) = some u) (hlen : xs.length + bs.length ≤ 4000000) (hbase : base ≤ w.heap.size)
    (h : ∀ v' w', B8 w' base v' (xs ++ bs) → w.grownBy w' v.ownBlock → wpList Tryz.prog ops Q rest (a.put o.dst v') w') : wpList Tryz.prog ops Q (o :: rest) a w := by
  obtain ⟨i0, hi, hz0, hz1, hz2⟩ := info_parts info_byte
  subst hn
  refine wpList_append_own _ hgd s x 51 ho base 5 i0 (.int .u8 0) 1 1 Tryz.underlying51 hi hz0 hz1 hz2 rfl (by decide) v _ _ hs hown ad bs.length c (bv bs) hx (by unfold bv; simp) hnews (bv_one _) (by unfold maxLen; omega) (by omega) hbase fun v' w' h2 h3 _ => h v' w' ?_ h3
  unfold B8
  rw [List.length_append, bv_append]
  exact h2
/-- append(v, a fresh block's bytes..). -/
theorem append_new {w : World} {ops : Array Oper} {rest : List Oper} {o : Oper} {a : Act} {Q : Exit → Act → World → Prop} (hgd : o.guard = none) (s x : Operand)
    (ho : o.op = .call { callee := .builtin .append, args := #[s, x], argTypes := #[51, 51] }) (base : Nat) {v : Value} {xs bs : List UInt8} {cs : Array Value} {n : Nat}
    (hs : a.eval s = v) (hown : B8 w base v xs) (hx : a.eval x = .slice (some ⟨w.heap.size, 0, none⟩) n n) (hn : bs.length = n) (hcs : cs = (bv bs).toArray) (hlen : xs.length + bs.length ≤ 4000000) (hbase : base ≤ w.heap.size)
    (h : ∀ v' w', B8 w' base v' (xs ++ bs) → (w.alloc (.cells cs 5)).grownBy w' v.ownBlock → wpList Tryz.prog ops Q rest (a.put o.dst v') w') : wpList Tryz.prog ops Q (o :: rest) a (w.alloc (.cells cs 5)) := by
  subst hcs
  refine append_bytes hgd s x ho base hs (hown.alloc _) hx hn (fun j u hj => ?_) hlen (by simp; omega) h
  have := World.news_of_block (w := w.alloc (.cells (bv bs).toArray 5)) (cs := (bv bs).toArray) (t := 5) (fr := (0, 0)) (heap_alloc_new _ _) j u (by simpa using hj)
  exact this
/-- The same where there is room: the row stays where it is. -/
theorem append_fit {w : World} {ops : Array Oper} {rest : List Oper} {o : Oper} {a : Act} {Q : Exit → Act → World → Prop} (hgd : o.guard = none) (s x : Operand)
    (ho : o.op = .call { callee := .builtin .append, args := #[s, x], argTypes := #[51, 51] }) (base : Nat) {g k cap : Nat} {xs : List UInt8} {b : UInt8} {y : Int}
    (hs : a.eval s = .slice (some ⟨g, 0, none⟩) k cap) (hown : B8 w base (.slice (some ⟨g, 0, none⟩) k cap) xs) (hk : xs.length = k) (hx : a.eval x = .slice (some ⟨w.heap.size, 0, none⟩) 1 1) (hy : y = (b.toNat : Int)) (hroom : k + 1 ≤ cap)
    (h : ∀ w', B8 w' base (.slice (some ⟨g, 0, none⟩) (k + 1) cap) (xs ++ [b]) → (w.alloc (.cells #[.int .u8 y] 5)).grownBy w' (some g) → wpList Tryz.prog ops Q rest (a.put o.dst (.slice (some ⟨g, 0, none⟩) (k + 1) cap)) w') : wpList Tryz.prog ops Q (o :: rest) a (w.alloc (.cells #[.int .u8 y] 5)) := by
  obtain ⟨i0, hi, hz0, hz1, hz2⟩ := info_parts info_byte
  subst hy
  subst hk
  refine wpList_append_fits _ hgd s x 51 ho base 5 i0 1 Tryz.underlying51 hi hz1 g xs.length cap _ hs (hown.alloc _) ⟨w.heap.size, 0, none⟩ 1 1 (bv [b]) hx rfl
    (World.news_of_block (cs := #[.int .u8 (b.toNat : Int)]) (t := 5) (fr := (0, 0)) (heap_alloc_new _ _)) (bv_one _) hroom fun w' h2 h3 => h w' ?_ h3
  unfold B8
  rw [List.length_append, bv_append]
  exact h2
theorem Bt.grown {w w' : World} {b : Nat} {l : List UInt8} {row : Option Nat} (h : Bt w b l) (hg : w.grownBy w' row) (hb : b < w.heap.size) (hne : some b ≠ row) : Bt w' b l := fun j hj => by
  rw [World.cell?_of_block (a := ⟨b, j, none⟩) (hg.block b hb hne)]
  exact h j hj
theorem byte_of {k : Nat} (h : k < 10) : ((UInt8.ofNat (48 + k)).toNat : Int) = 48 + (k : Int) := by
  have : (UInt8.ofNat (48 + k)).toNat = 48 + k := by
    rw [UInt8.toNat_ofNat', Nat.mod_eq_of_lt (by omega)]
  omega
theorem d1 {k : Nat} (h : k < 10) : #[Value.int .u8 48, Value.int .u8 ((k : Int) + 48)] = (bv (dd k)).toArray := by
  unfold dd
  rw [if_pos h]
  unfold bv
  simp only [List.map, byte_of h]
  rw [Int.add_comm]
  rfl
theorem d2 {k : Nat} (h1 : ¬ k < 10) (h : k < 100) : #[Value.int .u8 ((k : Int) / 10 + 48), Value.int .u8 ((k : Int) % 10 + 48)] = (bv (dd k)).toArray := by
  unfold dd
  rw [if_neg h1, if_pos h]
  unfold bv
  simp only [List.map, byte_of (show k / 10 < 10 by omega), byte_of (show k % 10 < 10 by omega)]
  rw [Int.add_comm, Int.add_comm ((k : Int) % 10)]
  rfl
theorem d3 {k : Nat} (h1 : ¬ k < 100) (h : k < 1000) : #[Value.int .u8 ((k : Int) / 100 + 48), Value.int .u8 ((k : Int) / 10 % 10 + 48), Value.int .u8 ((k : Int) % 10 + 48)] = (bv (dd k)).toArray := by
  unfold dd
  rw [if_neg (by omega), if_neg h1]
  unfold bv
  simp only [List.map, byte_of (show k / 100 < 10 by omega), byte_of (show k / 10 % 10 < 10 by omega), byte_of (show k % 10 < 10 by omega)]
  rw [Int.add_comm, Int.add_comm ((k : Int) / 10 % 10), Int.add_comm ((k : Int) % 10)]
  rfl
theorem dd_len (k : Nat) : (k < 100 → (dd k).length = 2) ∧ (¬ k < 100 → (dd k).length = 3) := by
  unfold dd
  constructor
  · intro h
    rw [if_pos h]
    split <;> rfl
  · intro h
    rw [if_neg (by omega), if_neg h]
    rfl
set_option maxRecDepth 100000 in
set_option maxHeartbeats 4000000 in
theorem sc_fmtE {b g base : Nat} {L : List UInt8} {nd : Nat} {dp PR : Int} {w : World} (hown : B8 w base (.slice (some ⟨g, 0, none⟩) 0 24) []) (hbase : base ≤ w.heap.size) (hgb : g ≠ b) (hb : b < w.heap.size) (hBt : Bt w b L) (h1 : 1 ≤ nd) (h2 : nd ≤ L.length) (h3 : L.length ≤ 20) (hdp : -900 ≤ dp ∧ dp ≤ 900) (hPR : PR = (nd : Int) - 1) :
    Calls Tryz.prog 194 #[.slice (some ⟨g, 0, none⟩) 0 24, .bool false, .slice (some ⟨b, 0, none⟩) 32 32, .int .i64 dp, .int .i64 (nd : Nat), .int .i64 PR, .int .u8 101, .bool true] w fun x w' => ∃ v, x = .returned v ∧ B8 w' base v (eS (L.take nd) (dp - 1)) ∧ Below base w w' := by
  subst hPR
  obtain ⟨c0, hc0⟩ : ∃ c : UInt8, L.getD 0 0 = c := ⟨_, rfl⟩
  have q0 := hBt 0 (by omega)
  rw [hc0] at q0
  have hc0b := c0.toNat_lt
  have hne : ¬ (nd : Int) = 0 := by omega
  have hn0 : ((nd : Int) != 0) = true := by simpa using hne
  have hn1 : ((nd : Int) == 0) = false := by simpa using hne
  have ht1 : (L.take nd).take 1 = [c0] := by
    rw [List.take_take, Nat.min_eq_left h1]
    cases L with
    | nil => simp at h2; omega
    | cons a l =>
      have : a = c0 := hc0
      subst this
      rfl
  have htl : (L.take nd).length = nd := by rw [List.length_take]; omega
  have hspec : eS (L.take nd) (dp - 1) = [c0] ++ (if 1 < nd then [46] ++ (L.take nd).drop 1 else []) ++ [101] ++ [if dp - 1 < 0 then 45 else 43] ++ dd (dp - 1).natAbs := by unfold eS; rw [ht1, htl]
  obtain ⟨S, hS⟩ : ∃ S, eS (L.take nd) (dp - 1) = S := ⟨_, rfl⟩
  rw [hS] at hspec ⊢
  replace hS := hspec
  clear hspec ht1 hc0
  obtain ⟨x0, hx0⟩ : ∃ x : Int, (c0.toNat : Int) = x := ⟨_, rfl⟩
  rw [hx0] at q0
  have hx0b : 0 ≤ x0 ∧ x0 < 256 := by omega
  go_enter Tryz.func194, Tryz.ntmps194
  go_wp2_with (at_builtin; go_must (refine append_fit rfl _ _ rfl base rfl hown rfl rfl hx0.symm (by decide) ?_))
  intro w1 hown1 hg1
  have hb1 : Below base w w1 := ((Below.refl base w).alloc hbase _).grown hg1 (by simp; omega) (fun k hk => by
    have := (World.ownsRow.lt hown g rfl).1
    cases hk
    exact this)
  have hBt1 := (hBt.keep ((Below.refl w.heap.size w).alloc (Nat.le_refl _) (.cells #[.int .u8 x0] 5))).grown hg1 (by simp; omega) (by simpa using fun h => hgb h.symm)
  have hs1 : w.heap.size < w1.heap.size := by have := hg1.size; simp at this; omega
  clear hown hg1 hBt q0
  by_cases hnd : nd = 1
  · subst hnd
    rw [if_neg (by decide), List.append_nil] at hS
    go_wp2_with (at_builtin; go_must (refine append_new rfl _ _ rfl base (v := .slice (some ⟨g, 0, none⟩) 1 24) rfl hown1 rfl (bs := [101]) rfl rfl (by simp) (by omega) ?_))
    intro v4 w4 hown4 hg4
    have hb4 := below_grown hb1 (by omega) hown1 (Nat.le_refl _) hg4
    have hs4 : w.heap.size ≤ w4.heap.size := by have := hg4.size; simp at this; omega
    clear hg4 hown1 hb1
    by_cases hsg : dp - 1 < 0
    · rw [if_pos hsg] at hS
      obtain ⟨k, hk⟩ : ∃ k : Nat, dp = -(k : Int) + 1 := ⟨(1 - dp).toNat, by omega⟩
      subst hk
      rw [show (-(k : Int) + 1 - 1).natAbs = k by omega] at hS
      have hkb : 1 ≤ k ∧ k ≤ 901 := by omega
      replace hS := Far.mk hS
      go_wp2_with (at_builtin; go_must (refine append_new rfl _ _ rfl base (v := v4) rfl hown4 rfl (bs := [45]) rfl rfl (by simp <;> omega) (by omega) ?_))
      intro v5 w5 hown5 hg5
      have hb5 := below_grown hb4 (by omega) hown4 (Nat.le_refl _) hg5
      have hs5 : w.heap.size ≤ w5.heap.size := by have := hg5.size; simp at this; omega
      clear hg5 hown4 hb4
      by_cases k1 : k < 10
      · have hl := (dd_len k).1 (by omega)
        go_wp2_with (at_builtin; go_must (refine append_new rfl _ _ rfl base (v := v5) rfl hown5 rfl (bs := dd k) hl (d1 k1) (by rw [hl]; simp <;> omega) (by omega) ?_))
        intro v6 w6 hown6 hg6
        have hb6 := below_grown hb5 (by omega) hown5 (Nat.le_refl _) hg6
        clear hg6 hown5 hb5
        go_wp2_with fail
        go_ret
        exact ⟨v6, rfl, by rw [hS.out]; first | exact hown6 | simpa using hown6, hb6⟩
      · by_cases k2 : k < 100
        · have hl := (dd_len k).1 k2
          go_wp2_with (at_builtin; go_must (refine append_new rfl _ _ rfl base (v := v5) rfl hown5 rfl (bs := dd k) hl (d2 k1 k2) (by rw [hl]; simp <;> omega) (by omega) ?_))
          intro v6 w6 hown6 hg6
          have hb6 := below_grown hb5 (by omega) hown5 (Nat.le_refl _) hg6
          clear hg6 hown5 hb5
          go_wp2_with fail
          go_ret
          exact ⟨v6, rfl, by rw [hS.out]; first | exact hown6 | simpa using hown6, hb6⟩
        · have hl := (dd_len k).2 k2
          go_wp2_with (at_builtin; go_must (refine append_new rfl _ _ rfl base (v := v5) rfl hown5 rfl (bs := dd k) hl (d3 k2 (by omega)) (by rw [hl]; simp <;> omega) (by omega) ?_))
          intro v6 w6 hown6 hg6
          have hb6 := below_grown hb5 (by omega) hown5 (Nat.le_refl _) hg6
          clear hg6 hown5 hb5
          go_wp2_with fail
          go_ret
          exact ⟨v6, rfl, by rw [hS.out]; first | exact hown6 | simpa using hown6, hb6⟩
    · rw [if_neg hsg] at hS
      obtain ⟨k, hk⟩ : ∃ k : Nat, dp = (k : Int) + 1 := ⟨(dp - 1).toNat, by omega⟩
      subst hk
      rw [show ((k : Int) + 1 - 1).natAbs = k by omega] at hS
      have hkb : k ≤ 901 := by omega
      replace hS := Far.mk hS
      go_wp2_with (at_builtin; go_must (refine append_new rfl _ _ rfl base (v := v4) rfl hown4 rfl (bs := [43]) rfl rfl (by simp <;> omega) (by omega) ?_))
      intro v5 w5 hown5 hg5
      have hb5 := below_grown hb4 (by omega) hown4 (Nat.le_refl _) hg5
      have hs5 : w.heap.size ≤ w5.heap.size := by have := hg5.size; simp at this; omega
      clear hg5 hown4 hb4
      by_cases k1 : k < 10
      · have hl := (dd_len k).1 (by omega)
        go_wp2_with (at_builtin; go_must (refine append_new rfl _ _ rfl base (v := v5) rfl hown5 rfl (bs := dd k) hl (d1 k1) (by rw [hl]; simp <;> omega) (by omega) ?_))
        intro v6 w6 hown6 hg6
        have hb6 := below_grown hb5 (by omega) hown5 (Nat.le_refl _) hg6
        clear hg6 hown5 hb5
        go_wp2_with fail
        go_ret
        exact ⟨v6, rfl, by rw [hS.out]; first | exact hown6 | simpa using hown6, hb6⟩
      · by_cases k2 : k < 100
        · have hl := (dd_len k).1 k2
          go_wp2_with (at_builtin; go_must (refine append_new rfl _ _ rfl base (v := v5) rfl hown5 rfl (bs := dd k) hl (d2 k1 k2) (by rw [hl]; simp <;> omega) (by omega) ?_))
          intro v6 w6 hown6 hg6
          have hb6 := below_grown hb5 (by omega) hown5 (Nat.le_refl _) hg6
          clear hg6 hown5 hb5
          go_wp2_with fail
          go_ret
          exact ⟨v6, rfl, by rw [hS.out]; first | exact hown6 | simpa using hown6, hb6⟩
        · have hl := (dd_len k).2 k2
          go_wp2_with (at_builtin; go_must (refine append_new rfl _ _ rfl base (v := v5) rfl hown5 rfl (bs := dd k) hl (d3 k2 (by omega)) (by rw [hl]; simp <;> omega) (by omega) ?_))
          intro v6 w6 hown6 hg6
          have hb6 := below_grown hb5 (by omega) hown5 (Nat.le_refl _) hg6
          clear hg6 hown5 hb5
          go_wp2_with fail
          go_ret
          exact ⟨v6, rfl, by rw [hS.out]; first | exact hown6 | simpa using hown6, hb6⟩
  · rw [if_pos (by omega)] at hS
    have hnd2 : 2 ≤ nd := by omega
    have hmin : min (nd : Int) ((nd : Int) - 1 + 1) = (nd : Int) := by omega
    obtain ⟨rs, hrs⟩ : ∃ rs, (L.take nd).drop 1 = rs := ⟨_, rfl⟩
    have hrl : rs.length = nd - 1 := by rw [← hrs, List.length_drop, htl]
    rw [hrs] at hS
    have hri : ((rs.length : Nat) : Int) = (nd : Int) - 1 := by omega
    go_wp2_with (at_builtin; go_must (refine append_fit rfl _ _ rfl base (g := g) (k := 1) (cap := 24) (b := 46) rfl hown1 rfl rfl rfl (by decide) ?_))
    intro w2 hown2 hg2
    have hb2 : Below base w w2 := (hb1.alloc (by omega) _).grown hg2 (by simp; omega) (fun k hk => by
      have := (World.ownsRow.lt hown1 g rfl).1
      cases hk
      exact this)
    have hBt2 := (hBt1.keep ((Below.refl w1.heap.size w1).alloc (Nat.le_refl _) (.cells #[.int .u8 46] 5))).grown hg2 (by simp; omega) (by simpa using fun h => hgb h.symm)
    have hs2 : w.heap.size < w2.heap.size := by have := hg2.size; simp at this; omega
    clear hown1 hg2 hBt1 hb1
    have hnews : ∀ j u, (bv rs)[j]? = some u → w2.cell? ((⟨b, 1, none⟩ : Addr).add j) = some u := by
      intro j u hj
      unfold bv at hj
      rw [List.getElem?_map] at hj
      obtain ⟨y, hy, rfl⟩ := Option.map_eq_some_iff.1 hj
      have hlt := (List.getElem?_eq_some_iff.1 hy).1
      have := hBt2 (1 + j) (by omega)
      rw [show (⟨b, 1, none⟩ : Addr).add j = ⟨b, 1 + j, none⟩ from by simp [Addr.add], this]
      have e : L.getD (1 + j) 0 = y := by
        rw [← hrs, List.getElem?_drop, List.getElem?_take, if_pos (by omega)] at hy
        rw [List.getD_eq_getElem?_getD, hy]
        rfl
      rw [e]
    go_wp2_with (at_builtin; go_must (refine append_bytes rfl _ _ rfl base (v := .slice (some ⟨g, 0, none⟩) 2 24) (n := nd - 1) (c := 31) (ad := ⟨b, 1, none⟩) rfl hown2 rfl hrl hnews (by simp; omega) (by omega) ?_))
    intro v3 w3 hown3 hg3
    have hb3 : Below base w w3 := hb2.grown hg3 (by omega) (fun k hk => by
      have := (World.ownsRow.lt hown2 g rfl).1
      cases hk
      exact this)
    have hs3 : w.heap.size ≤ w3.heap.size := by have := hg3.size; omega
    clear hown2 hg3 hBt2 hb2 hnews hrs
    go_wp2_with fail
    go_loopw [0, 114] (fun v i wr => v = v3 ∧ i = .int .i64 0 ∧ wr = w3) (fun _ _ _ => 0)
    case atStart => exact ⟨rfl, rfl, rfl⟩
    case round =>
      obtain ⟨hv, rfl, hw⟩ := hrel
      subst hv
      subst hw
      go_wp2_with (at_builtin; go_must (refine append_new rfl _ _ rfl base (v := u0) rfl hown3 rfl (bs := [101]) rfl rfl (by simp <;> omega) (by omega) ?_))
      intro v4 w4 hown4 hg4
      have hb4 := below_grown hb3 (by omega) hown3 (Nat.le_refl _) hg4
      have hs4 : w.heap.size ≤ w4.heap.size := by have := hg4.size; simp at this; omega
      clear hg4 hown3 hb3
      by_cases hsg : dp - 1 < 0
      · rw [if_pos hsg] at hS
        obtain ⟨k, hk⟩ : ∃ k : Nat, dp = -(k : Int) + 1 := ⟨(1 - dp).toNat, by omega⟩
        subst hk
        rw [show (-(k : Int) + 1 - 1).natAbs = k by omega] at hS
        have hkb : 1 ≤ k ∧ k ≤ 901 := by omega
        replace hS := Far.mk hS
        go_wp2_with (at_builtin; go_must (refine append_new rfl _ _ rfl base (v := v4) rfl hown4 rfl (bs := [45]) rfl rfl (by simp <;> omega) (by omega) ?_))
        intro v5 w5 hown5 hg5
        have hb5 := below_grown hb4 (by omega) hown4 (Nat.le_refl _) hg5
        have hs5 : w.heap.size ≤ w5.heap.size := by have := hg5.size; simp at this; omega
        clear hg5 hown4 hb4
        by_cases k1 : k < 10
        · have hl := (dd_len k).1 (by omega)
          go_wp2_with (at_builtin; go_must (refine append_new rfl _ _ rfl base (v := v5) rfl hown5 rfl (bs := dd k) hl (d1 k1) (by rw [hl]; simp <;> omega) (by omega) ?_))
          intro v6 w6 hown6 hg6
          have hb6 := below_grown hb5 (by omega) hown5 (Nat.le_refl _) hg6
          clear hg6 hown5 hb5
          go_wp2_with fail
          go_ret
          exact ⟨v6, rfl, by rw [hS.out]; first | exact hown6 | simpa using hown6, hb6⟩
        · by_cases k2 : k < 100
          · have hl := (dd_len k).1 k2
            go_wp2_with (at_builtin; go_must (refine append_new rfl _ _ rfl base (v := v5) rfl hown5 rfl (bs := dd k) hl (d2 k1 k2) (by rw [hl]; simp <;> omega) (by omega) ?_))
            intro v6 w6 hown6 hg6
            have hb6 := below_grown hb5 (by omega) hown5 (Nat.le_refl _) hg6
            clear hg6 hown5 hb5
            go_wp2_with fail
            go_ret
            exact ⟨v6, rfl, by rw [hS.out]; first | exact hown6 | simpa using hown6, hb6⟩
          · have hl := (dd_len k).2 k2
            go_wp2_with (at_builtin; go_must (refine append_new rfl _ _ rfl base (v := v5) rfl hown5 rfl (bs := dd k) hl (d3 k2 (by omega)) (by rw [hl]; simp <;> omega) (by omega) ?_))
            intro v6 w6 hown6 hg6
            have hb6 := below_grown hb5 (by omega) hown5 (Nat.le_refl _) hg6
            clear hg6 hown5 hb5
            go_wp2_with fail
            go_ret
            exact ⟨v6, rfl, by rw [hS.out]; first | exact hown6 | simpa using hown6, hb6⟩
      · rw [if_neg hsg] at hS
        obtain ⟨k, hk⟩ : ∃ k : Nat, dp = (k : Int) + 1 := ⟨(dp - 1).toNat, by omega⟩
        subst hk
        rw [show ((k : Int) + 1 - 1).natAbs = k by omega] at hS
        have hkb : k ≤ 901 := by omega
        replace hS := Far.mk hS
        go_wp2_with (at_builtin; go_must (refine append_new rfl _ _ rfl base (v := v4) rfl hown4 rfl (bs := [43]) rfl rfl (by simp <;> omega) (by omega) ?_))
        intro v5 w5 hown5 hg5
        have hb5 := below_grown hb4 (by omega) hown4 (Nat.le_refl _) hg5
        have hs5 : w.heap.size ≤ w5.heap.size := by have := hg5.size; simp at this; omega
        clear hg5 hown4 hb4
        by_cases k1 : k < 10
        · have hl := (dd_len k).1 (by omega)
          go_wp2_with (at_builtin; go_must (refine append_new rfl _ _ rfl base (v := v5) rfl hown5 rfl (bs := dd k) hl (d1 k1) (by rw [hl]; simp <;> omega) (by omega) ?_))
          intro v6 w6 hown6 hg6
          have hb6 := below_grown hb5 (by omega) hown5 (Nat.le_refl _) hg6
          clear hg6 hown5 hb5
          go_wp2_with fail
          go_ret
          exact ⟨v6, rfl, by rw [hS.out]; first | exact hown6 | simpa using hown6, hb6⟩
        · by_cases k2 : k < 100
          · have hl := (dd_len k).1 k2
            go_wp2_with (at_builtin; go_must (refine append_new rfl _ _ rfl base (v := v5) rfl hown5 rfl (bs := dd k) hl (d2 k1 k2) (by rw [hl]; simp <;> omega) (by omega) ?_))
            intro v6 w6 hown6 hg6
            have hb6 := below_grown hb5 (by omega) hown5 (Nat.le_refl _) hg6
            clear hg6 hown5 hb5
            go_wp2_with fail
            go_ret
            exact ⟨v6, rfl, by rw [hS.out]; first | exact hown6 | simpa using hown6, hb6⟩
          · have hl := (dd_len k).2 k2
            go_wp2_with (at_builtin; go_must (refine append_new rfl _ _ rfl base (v := v5) rfl hown5 rfl (bs := dd k) hl (d3 k2 (by omega)) (by rw [hl]; simp <;> omega) (by omega) ?_))
            intro v6 w6 hown6 hg6
            have hb6 := below_grown hb5 (by omega) hown5 (Nat.le_refl _) hg6
            clear hg6 hown5 hb5
            go_wp2_with fail
            go_ret
            exact ⟨v6, rfl, by rw [hS.out]; first | exact hown6 | simpa using hown6, hb6⟩
end Us
end Go.Proofs.YtelgobelbeabaaaGreatDoor
