/-
  Plain laws: what is told of a fraction does not hang on how it is written: the quotient, the digits behind the point, the nearest whole number. No program in sight. Plain laws: where a number's point is, by its shortest digits; the texts with so many digits. No program in sight. Contracts of quillref03.scaled at noughts too, and of rounded: the nearest whole number of a float times a ten's power. Conditions: the float is a number not below nought (or the nought below); the power is no great one. Plain laws: what Radix, Fixed, Exponential and Precision tell of a float, and that it is one text. No program's function.
-/
import Derived.Test.YtdpbpdhamekcdaaGreatDoorBaM3
import Derived.Test.YtdpbpdhamekcdaaGreatDoorBaM2
import Derived.Test.YtdpbpdhamekcdaaGreatDoorBaM13
namespace Go.Proofs.YtdpbpdhamekcdaaGreatDoor
namespace Us
theorem Frac.cross {r P D P' D' : Nat} {j : Int} (h : Frac r P D j) (h' : Frac r P' D' j) : P * D' = P' * D := by
  have hT : 0 < tiny * hiP j := Nat.mul_pos tiny_pos (hiP_pos j)
  refine Nat.eq_of_mul_eq_mul_right hT ?_
  rw [Nat.mul_right_comm, h.eq, Nat.mul_right_comm P', h'.eq]
  ac_rfl
theorem cross_div {P D P' D' : Nat} (h1 : 0 < D) (h2 : 0 < D') (h : P * D' = P' * D) : P / D = P' / D' ∧ (P % D) * D' = (P' % D') * D := by
  refine ⟨?_, ?_⟩
  · rw [← Nat.mul_div_mul_right P D h2, ← Nat.mul_div_mul_right P' D' h1, h, Nat.mul_comm D' D]
  · rw [← Nat.mul_mod_mul_right, ← Nat.mul_mod_mul_right, h, Nat.mul_comm D' D]
/-- A number's nearest whole number, of two as near the greater one. -/
def rh (P D : Nat) : Nat := P / D + (if D ≤ P % D * 2 then 1 else 0)
theorem rh_cross {P D P' D' : Nat} (h1 : 0 < D) (h2 : 0 < D') (h : P * D' = P' * D) : rh P D = rh P' D' := by
  obtain ⟨a, b⟩ := cross_div h1 h2 h
  unfold rh
  rw [a]
  congr 1
  have e : D ≤ P % D * 2 ↔ D' ≤ P' % D' * 2 := by
    constructor
    · intro g
      refine Nat.le_of_mul_le_mul_right ?_ h1
      have := Nat.mul_le_mul_right D' g
      rw [Nat.mul_comm D', Nat.mul_right_comm, ← b]
      rwa [Nat.mul_right_comm] at this
    · intro g
      refine Nat.le_of_mul_le_mul_right ?_ h2
      have := Nat.mul_le_mul_right D g
      rw [Nat.mul_right_comm, b]
      rwa [Nat.mul_comm D', Nat.mul_right_comm] at this
  by_cases g : D ≤ P % D * 2
  · rw [if_pos g, if_pos (e.1 g)]
  · rw [if_neg g, if_neg (fun k => g (e.2 k))]
/-- The values of the digits behind the point: as many as k. -/
def frd (R D : Nat) : Nat → Nat → List Nat
  | 0, _ => []
  | k + 1, r => if r = 0 then [] else (r * R / D) :: frd R D k (r * R % D)
theorem frd_zero (R D k : Nat) : frd R D k 0 = [] := by cases k <;> rfl
theorem frd_cross {R D D' : Nat} (h1 : 0 < D) (h2 : 0 < D') (k : Nat) : ∀ {r r' : Nat}, r * D' = r' * D → frd R D k r = frd R D' k r' := by
  induction k with
  | zero => intro r r' _; rfl
  | succ k ih =>
    intro r r' h
    have hz : r = 0 ↔ r' = 0 := by
      constructor
      · rintro rfl
        rw [Nat.zero_mul] at h
        rcases Nat.mul_eq_zero.1 h.symm with g | g <;> omega
      · rintro rfl
        rw [Nat.zero_mul] at h
        rcases Nat.mul_eq_zero.1 h with g | g <;> omega
    obtain ⟨a, b⟩ := cross_div (P := r * R) (P' := r' * R) h1 h2 (by rw [Nat.mul_right_comm, h, Nat.mul_right_comm])
    unfold frd
    by_cases g : r = 0
    · rw [if_pos g, if_pos (hz.1 g)]
    · rw [if_neg g, if_neg (fun k => g (hz.2 k)), a, ih b]
theorem frd_snoc {R D k : Nat} {L b : List Nat} {r : Nat} (h : L = b ++ frd R D (k + 1) r) (hr : r ≠ 0) : L = (b ++ [r * R / D]) ++ frd R D k (r * R % D) := by
  rw [h, frd, if_neg hr, List.append_assoc]
  rfl
theorem frd_len (R D k : Nat) : ∀ r, (frd R D k r).length ≤ k := by
  induction k with
  | zero => intro r; exact Nat.le_refl _
  | succ k ih =>
    intro r
    unfold frd
    split
    · exact Nat.zero_le _
    · rw [List.length_cons]
      have := ih (r * R % D)
      omega
end Us
end Go.Proofs.YtdpbpdhamekcdaaGreatDoor
namespace Go.Proofs.YtdpbpdhamekcdaaGreatDoor
namespace Us
theorem le_down {r : Nat} {m n : Int} (h : Le r 1 n) (hmn : m ≤ n) : Le r 1 m := by
  obtain ⟨k, hk⟩ : ∃ k : Nat, n = m + k := ⟨(n - m).toNat, by omega⟩
  subst hk
  have h2 := (le_pow r 1 m k).2 h
  exact h2.mono (by rw [Nat.one_mul]; exact Nat.pow_pos (by decide))
theorem pt_one {r : Nat} {n m : Int} (h1 : Le r 1 (n - 1)) (h2 : ¬ Le r 1 n) (h3 : Le r 1 (m - 1)) (h4 : ¬ Le r 1 m) : n = m := by
  rcases Int.lt_trichotomy n m with g | g | g
  · exact (h2 (le_down h3 (by omega))).elim
  · exact g
  · exact (h4 (le_down h1 (by omega))).elim
theorem pt_short {r c L : Nat} {j n : Int} (h1 : 1 ≤ r) (hs : Short r c j) (hL : 1 ≤ L) (hl : 10 ^ (L - 1) ≤ c) (hu : c < 10 ^ L) (hlo : Le r 1 (n - 1)) (hhi : ¬ Le r 1 n) : j + L = n ∨ j + L = n + 1 := by
  have low : n ≤ j + L := by
    rcases Int.lt_or_le (j + L) n with g | g
    · obtain ⟨k, hk⟩ : ∃ k : Nat, n - 1 = j + k := ⟨(n - 1 - j).toNat, by omega⟩
      have hq : Le r (1 * 10 ^ k) j := (le_pow r 1 j k).2 (by rw [← hk]; exact hlo)
      have hc : c ≤ 1 * 10 ^ k := by
        rw [Nat.one_mul]
        exact Nat.le_trans (Nat.le_of_lt hu) (Nat.pow_le_pow_right (by decide) (by omega))
      have hi := (in_pow r 1 j k).1 (in_up hs.inn hc hq)
      have := hs.top _ _ hi
      omega
    · exact g
  have up : j + L ≤ n + 1 := by
    rcases Int.lt_or_le (n + 1) (j + L) with g | g
    · have hq : ¬ Le r (1 * 10 ^ (L - 1)) j := fun h => hhi (le_down ((le_pow r 1 j (L - 1)).1 h) (by omega))
      have hi := (in_pow r 1 j (L - 1)).1 (in_down h1 hs.inn (by rw [Nat.one_mul]; exact hl) hq)
      have ht := hs.top _ _ hi
      have hL1 : L = 1 := by omega
      subst hL1
      have hi1 : In r 1 j := by simpa using hi
      have hh := in_le_high hi1
      have hn : ¬ Le r 1 (j - 1) := fun h => hhi (le_down h (by omega))
      unfold Le at hn
      have hv := val_ge_ulp h1
      have hh2 : high2 r ≤ 3 * val r := by
        unfold high2
        rw [val_succ]
        omega
      have hh3 := Nat.mul_le_mul_right (loQ j) hh2
      have e1 : 3 * val r * loQ j = 3 * (val r * loQ j) := Nat.mul_assoc _ _ _
      have e2 : 2 * val r * loQ (j - 1) = 2 * (val r * loQ (j - 1)) := Nat.mul_assoc _ _ _
      have e3 := dv_mul 10 (j - 1)
      rcases dv_ten 1 (j - 1) with ⟨a, b⟩ | ⟨a, b⟩
      · rw [Int.sub_add_cancel] at a b
        rw [Nat.mul_one, e3] at a
        rw [← b] at e2 hn
        generalize val r * loQ j = y at *
        omega
      · rw [Int.sub_add_cancel] at a b
        rw [Nat.mul_one, e3] at a
        have e4 : val r * loQ (j - 1) = 10 * (val r * loQ j) := by rw [b]; exact Nat.mul_left_comm _ _ _
        generalize val r * loQ j = y at *
        omega
    · exact g
  omega
end Us
end Go.Proofs.YtdpbpdhamekcdaaGreatDoor
namespace Go.Proofs.YtdpbpdhamekcdaaGreatDoor
open Go.RowKit
namespace Us
open Nv

/-- A float's rung: a number above nought, or one of the two noughts. -/
def Rung (r f : Nat) : Prop := (1 ≤ r ∧ r < infR ∧ f = r) ∨ (r = 0 ∧ (f = 0 ∨ f = 9223372036854775808))
/-- A fraction that is no longer than may be; noughts too. -/
structure FracT (r P D : Nat) (p : Int) : Prop where
  frac : Frac r P D (-p)
  sP : P < 2 ^ (1100 + 4 * p.toNat)
  sD : D < 2 ^ (1100 + 4 * (-p).toNat)
theorem FracS.t {r P D : Nat} {p : Int} (h : FracS r P D p) : FracT r P D p := ⟨h.frac, h.sP, h.sD⟩
theorem FracT.lens {r P D : Nat} {p : Int} (h : FracT r P D p) (hp : -1000 ≤ p ∧ p ≤ 1000) : (Nv.words P).length ≤ 200 ∧ (Nv.words D).length ≤ 200 := ⟨len_pow h.sP (by omega), len_pow h.sD (by omega)⟩
theorem FracT.nought (p : Int) : FracT 0 0 (10 ^ (-p).toNat) p := by
  refine ⟨⟨Nat.pow_pos (by decide), by rw [val_zero]; simp⟩, Nat.two_pow_pos _, ?_⟩
  obtain ⟨T, hT⟩ : ∃ T : Nat, T = 1100 := ⟨_, rfl⟩
  rw [← hT, Nat.pow_add]
  refine Nat.lt_of_le_of_lt (ten_le _) ?_
  have h1 : 2 ^ 1 ≤ 2 ^ T := Nat.pow_le_pow_right (by decide) (by omega)
  have h2 := Nat.two_pow_pos (4 * (-p).toNat)
  have h3 := Nat.mul_le_mul_right (2 ^ (4 * (-p).toNat)) h1
  omega
theorem nought_facts {f : Nat} (h : f = 0 ∨ f = 9223372036854775808) : nanB f = false ∧ FloatKind.f64.format.order f 0 = some .eq ∧ f < 18446744073709551616 ∧ (FloatKind.f64.format.order (f % 9223372036854775808) 9218868437227405311 == some .gt) = false := by
  rcases h with rfl | rfl
  · exact ⟨by decide +kernel, by decide +kernel, by decide, by decide +kernel⟩
  · exact ⟨by decide +kernel, by decide +kernel, by decide, by decide +kernel⟩
set_option maxRecDepth 100000 in
theorem ref_Parts0 {f : Nat} (hz : f = 0 ∨ f = 9223372036854775808) (w : World) : Calls Tryz.prog 147 #[.float .f64 f] w fun x w' => x = .returned (.tuple #[.slice none 0 0, .int .i64 0, .int .i64 0]) ∧ w' = w := by
  obtain ⟨hn, ho, hl, hi⟩ := nought_facts hz
  have hI := Far.mk (fun W => math_IsInf0 hl hi W)
  clear hz hi
  go_enter Tryz.func147, Tryz.ntmps147
  go_wp2_with (first
    | (go_at_call 23; go_must (with_reducible refine (hI.out _).mono ?_); rintro e w' ⟨rfl, rfl⟩)
    | (go_at_call 20; go_must (with_reducible refine (math_IsNaN f _).mono ?_); rintro e w' ⟨rfl, rfl⟩; rw [hn]))
  go_ret3
  exact ⟨rfl, rfl⟩
/-- What scaled tells, noughts too. -/
def ScaledT (r : Nat) (p : Int) (w : World) (x : Ending) (w' : World) : Prop := ∃ (P D : Nat) (v1 v2 : Value), x = .returned (.tuple #[v1, v2]) ∧ FracT r P D p ∧ U w' w.heap.size v1 (Nv.words P) ∧ U w' w.heap.size v2 (Nv.words D) ∧ Below w.heap.size w w'
set_option maxRecDepth 100000 in
theorem ref_scaled0 {f : Nat} (hz : f = 0 ∨ f = 9223372036854775808) {p : Int} (hp : -1000 ≤ p ∧ p ≤ 1000) (w : World) : Calls Tryz.prog 84 #[.float .f64 f, .int .i64 p] w (ScaledT 0 p w) := by
  have hP := Far.mk (ref_Parts0 hz)
  have hF := FracT.nought p
  obtain ⟨k, hk⟩ : ∃ k : Nat, k = p.natAbs := ⟨_, rfl⟩
  have hten : (Nv.words (10 ^ k)).length ≤ 1001 := by have := pow_len k; omega
  clear hz
  go_enter Tryz.func84, Tryz.ntmps84
  go_wp2_with fail
  with_reducible refine (hP.out _).mono ?_
  rintro x w3 ⟨rfl, hw⟩
  replace hw := hw.symm
  subst hw
  clear hP
  have hU := Far.mk (fun (W : World) => ref_Up (w := W) (K := 0) (k := 0) (l := []) (A := none) (n := 0) (c := 0) rfl rfl (Rd.nil _) (fun a ha => by cases ha) (by decide) (by decide))
  go_wp2_with fail
  with_reducible refine (hU.out _).mono ?_
  rintro x w4 ⟨v4, rfl, hu4, hb4⟩
  rw [show nv [] * 2 ^ 0 = 0 from rfl] at hu4
  have hsz := hb4.size
  simp only [World.size_alloc] at hsz
  obtain ⟨A4, c4, rfl, hR4⟩ := hu4.rd
  have hb4' := ((Below.refl w.heap.size w).alloc (Nat.le_refl _) (.cells #[.int .u32 1] 22)).trans (hb4.mono (by simp))
  replace hu4 := hu4.lower (show w.heap.size ≤ (w.alloc (.cells #[.int .u32 1] 22)).heap.size by simp)
  have hd := U.lit1 w 1
  replace hd := hd.keep hb4
  obtain ⟨Ad, cd, ed, hRd⟩ := hd.rd
  simp only [Value.slice.injEq] at ed
  obtain ⟨rfl, -, rfl⟩ := ed
  rw [words_zero] at *
  by_cases g : 0 ≤ p
  · obtain rfl : p = (k : Int) := by omega
    clear hk
    rw [show (-(k : Int)).toNat = 0 by omega, Nat.pow_zero] at hF
    go_wp2_with fail
    with_reducible refine (ref_pow (by omega) _).mono ?_
    rintro x w5 ⟨v5, rfl, hu5, hb5⟩
    obtain ⟨A5, c5, rfl, hR5⟩ := hu5.rd
    have hs5 := hb5.size
    go_wp2_with fail
    refine (ref_Times (l := []) rfl rfl (hR4.below hb5) (fun a ha => by cases ha) (by decide) hR5 (isW_words _) (by omega)).mono ?_
    rintro x w6 ⟨v6, rfl, hu6, hb6⟩
    rw [show nv [] * nv (Nv.words (10 ^ k)) = 0 by simp [nv]] at hu6
    go_wp2_with fail
    go_ret2
    refine ⟨0, 1, _, _, rfl, hF, hu6.lower (by omega), ?_, (hb4'.trans (hb5.mono (by omega))).trans (hb6.mono (by omega))⟩
    rw [words_1]
    exact ((hd.keep hb5).keep hb6).lower (by omega)
  · obtain rfl : p = -(k : Int) := by omega
    clear hk
    rw [show (-(-(k : Int))).toNat = k by omega] at hF
    go_wp2_with fail
    with_reducible refine (ref_pow (by omega) _).mono ?_
    rintro x w5 ⟨v5, rfl, hu5, hb5⟩
    obtain ⟨A5, c5, rfl, hR5⟩ := hu5.rd
    have hs5 := hb5.size
    go_wp2_with fail
    refine (ref_Times (l := [1]) rfl rfl (hRd.below hb5) (IsW.one (by decide) (by decide)) (by decide) hR5 (isW_words _) (by omega)).mono ?_
    rintro x w6 ⟨v6, rfl, hu6, hb6⟩
    rw [nv_words, show nv [1] * 10 ^ k = 10 ^ k by simp [nv]] at hu6
    go_wp2_with fail
    go_ret2
    refine ⟨0, 10 ^ k, _, _, rfl, hF, ?_, hu6.lower (by omega), (hb4'.trans (hb5.mono (by omega))).trans (hb6.mono (by omega))⟩
    rw [words_zero]
    exact ((hu4.keep hb5).keep hb6).lower (by omega)
theorem ref_scaledT {r f : Nat} (h : Rung r f) {p : Int} (hp : -1000 ≤ p ∧ p ≤ 1000) (w : World) : Calls Tryz.prog 84 #[.float .f64 f, .int .i64 p] w (ScaledT r p w) := by
  rcases h with ⟨h1, h2, rfl⟩ | ⟨rfl, hz⟩
  · refine (ref_scaled h1 h2 hp w).mono ?_
    rintro x w' ⟨P, D, v1, v2, e, hF, hr⟩
    exact ⟨P, D, v1, v2, e, hF.t, hr⟩
  · exact ref_scaled0 hz hp w
/-- What rounded tells. -/
def RoundQ (r : Nat) (p : Int) (w : World) (x : Ending) (w' : World) : Prop := ∃ P D, x = .returned (.string (S (digs 10 (rh P D)))) ∧ FracT r P D p ∧ Below w.heap.size w w'
theorem rh_le (P D : Nat) (h : (Nv.words P).length ≤ 200) : (Nv.words (P / D + 1)).length ≤ 202 := Nat.le_trans (len_succ _) (by have := len_mono (Nat.div_le_self P D); omega)
set_option maxRecDepth 100000 in
theorem ref_rounded {r f : Nat} (h : Rung r f) {p : Int} (hp : -1000 ≤ p ∧ p ≤ 1000) (w : World) : Calls Tryz.prog 90 #[.float .f64 f, .int .i64 p] w (RoundQ r p w) := by
  have hS := Far.mk (ref_scaledT h hp)
  clear h
  go_enter Tryz.func90, Tryz.ntmps90
  go_wp2_with fail
  with_reducible refine (hS.out _).mono ?_
  rintro x w4 ⟨P, D, v1, v2, rfl, hF, hu1, hu2, hb4⟩
  obtain ⟨A1, c1, rfl, hR1⟩ := hu1.rd
  obtain ⟨A2, c2, rfl, hR2⟩ := hu2.rd
  obtain ⟨l1, l2⟩ := hF.lens hp
  have hD := hF.frac.pos
  have hs4 := hb4.size
  have hrl := rh_le P D l1
  replace hF := Far.mk hF
  clear hu1 hu2 hS hp
  obtain ⟨q, hq⟩ : ∃ q, P / D = q := ⟨_, rfl⟩
  obtain ⟨R, hR⟩ : ∃ R, P % D = R := ⟨_, rfl⟩
  have hrh : rh P D = q + (if D ≤ R * 2 then 1 else 0) := by unfold rh; rw [hq, hR]
  rw [hq] at hrl
  have hlq : (Nv.words q).length ≤ 200 := by rw [← hq]; exact Nat.le_trans (len_mono (Nat.div_le_self _ _)) l1
  have hlR : (Nv.words R).length ≤ 200 := by rw [← hR]; exact Nat.le_trans (len_mono (Nat.le_of_lt (Nat.mod_lt _ hD))) l2
  have hlR2 : (Nv.words (R * 2)).length ≤ 201 := Nat.le_trans (len_mul _ _) (by rw [words_one (n := 2) (by decide) (by decide)]; simp; omega)
  go_wp2_with fail
  with_reducible refine (cHalved hR1 (by omega) hR2 (by omega) hD).mono ?_
  rintro x w5 ⟨v5, v6, rfl, hu5, hu6, hb5⟩
  rw [hq] at hu5
  rw [hR] at hu6
  obtain ⟨A5, c5, rfl, hR5⟩ := hu5.rd
  obtain ⟨A6, c6, rfl, hR6⟩ := hu6.rd
  replace hR2 := hR2.below hb5
  have hs5 := hb5.size
  have hbw5 := hb4.trans (hb5.mono (by omega))
  clear hb4 hb5 hu5 hu6 hR1 hq hR
  go_wp2_with fail
  with_reducible refine (cUp (k := 1) (K := 1) rfl hR6 (by omega) (by decide)).mono ?_
  rintro x w7 ⟨v7, rfl, hu7, hb7⟩
  rw [Nat.pow_one] at hu7
  obtain ⟨A7, c7, rfl, hR7⟩ := hu7.rd
  replace hR2 := hR2.below hb7
  replace hR5 := hR5.below hb7
  have hs7 := hb7.size
  have hbw7 := hbw5.trans (hb7.mono (by omega))
  clear hbw5 hb7 hu7 hR6
  go_wp2_with fail
  with_reducible refine (cCmp hR7 (by omega) hR2 (by omega)).mono ?_
  rintro x w8 ⟨rfl, q8, rfl⟩
  have hbw8 := below_drawn (n := q8) hbw7
  have hs8 : (w7.drewN q8).heap.size = w7.heap.size := rfl
  replace hR5 := hR5.below (w' := w7.drewN q8) (below_drawn (Below.refl _ _))
  clear hbw7 hR7 hR2
  generalize w7.drewN q8 = w8 at *
  replace hs8 := Nat.le_of_eq hs8.symm
  have hcg := cmp_ge (R * 2) D
  obtain ⟨cc, hcc⟩ : ∃ cc, cmpN (R * 2) D = cc := ⟨_, rfl⟩
  rw [hcc] at hcg ⊢
  clear hcc
  by_cases g : D ≤ R * 2
  · have hc0 : 0 ≤ cc := by rw [hcg]; exact g
    rw [if_pos g] at hrh
    replace hrh := Far.mk hrh
    clear hcg g
    go_wp2_with fail
    with_reducible refine (cPlus1 (hR5.below ((Below.refl _ _).alloc (Nat.le_refl _) _)) (by omega) (Rd.one _ _)).mono ?_
    rintro x w9 ⟨v9, rfl, hu9, hb9⟩
    obtain ⟨A9, c9, rfl, hR9⟩ := hu9.rd
    have hbw9 := (hbw8.alloc (by omega) (.cells #[.int .u32 1] 22)).trans (hb9.mono (by simp; omega))
    have hs9 : w8.heap.size ≤ w9.heap.size := by have := hb9.size; simp at this; omega
    clear hbw8 hb9 hu9 hR5
    go_wp2_with fail
    with_reducible refine (cNumber hR9 (by omega)).mono ?_
    rintro x w10 ⟨rfl, hb10⟩
    go_wp2_with fail
    go_ret
    exact ⟨P, D, by rw [hrh.out]; rfl, hF.out, hbw9.trans (hb10.mono (by omega))⟩
  · have hc0 : ¬ 0 ≤ cc := by rw [hcg]; exact g
    rw [if_neg g, Nat.add_zero] at hrh
    replace hrh := Far.mk hrh
    clear hcg g
    go_wp2_with fail
    with_reducible refine (cNumber hR5 (by omega)).mono ?_
    rintro x w10 ⟨rfl, hb10⟩
    go_wp2_with fail
    go_ret
    exact ⟨P, D, by rw [hrh.out]; rfl, hF.out, hbw8.trans (hb10.mono (by omega))⟩
end Us
end Go.Proofs.YtdpbpdhamekcdaaGreatDoor
namespace Go.Proofs.YtdpbpdhamekcdaaGreatDoor
open Go.RowKit
namespace Us
open Nv

def sgnS (f : Nat) : List UInt8 := if 9223372036854775808 < f then [45] else []
def trimZ (l : List UInt8) : List UInt8 := (l.reverse.dropWhile (· == 48)).reverse
theorem trimZ_nil : trimZ [] = [] := rfl
theorem trimZ_zero (l : List UInt8) : trimZ (l ++ [48]) = trimZ l := by
  unfold trimZ
  rw [List.reverse_append]
  rfl
theorem trimZ_other (l : List UInt8) {c : UInt8} (h : c ≠ 48) : trimZ (l ++ [c]) = l ++ [c] := by
  unfold trimZ
  rw [List.reverse_append, List.reverse_singleton, List.singleton_append, List.dropWhile_cons, if_neg (by simpa using h)]
  simp
theorem trimZ_len (l : List UInt8) : (trimZ l).length ≤ l.length := by
  unfold trimZ
  rw [List.length_reverse]
  exact Nat.le_trans (List.dropWhile_sublist _).length_le (by simp)
/-- The digits behind the point. -/
def fracS (R P D : Nat) : List UInt8 := trimZ ((frd R D 60 (P % D)).map dg)
def pointS (q t : List UInt8) : List UInt8 := if t = [] then q else q ++ [46] ++ t
def radS (R P D : Nat) : List UInt8 := pointS (digs R (P / D)) (fracS R P D)
theorem fracS_len (R P D : Nat) : (fracS R P D).length ≤ 60 := by
  unfold fracS
  refine Nat.le_trans (trimZ_len _) ?_
  rw [List.length_map]
  exact frd_len _ _ _ _
theorem radS_cross {R P D P' D' r : Nat} (h : Frac r P D 0) (h' : Frac r P' D' 0) : radS R P D = radS R P' D' := by
  obtain ⟨a, b⟩ := cross_div h.pos h'.pos (h.cross h')
  unfold radS fracS
  rw [a, frd_cross h.pos h'.pos 60 b]
/-- What Radix tells. -/
def RadW (f : Nat) (radix : Int) (s : List UInt8) (e : Int) : Prop :=
  ((radix < 2 ∨ 36 < radix) ∧ s = [] ∧ e = 1) ∨
  ((2 ≤ radix ∧ radix ≤ 36) ∧ (radix = 10 ∨ nanB f = true ∨ f % 9223372036854775808 = infR) ∧ (∃ t, TxtW f t ∧ s = wide t) ∧ e = 0) ∨
  ((2 ≤ radix ∧ radix ≤ 36) ∧ ¬ (radix = 10 ∨ nanB f = true ∨ f % 9223372036854775808 = infR) ∧ (∃ P D, Frac (f % 9223372036854775808) P D 0 ∧ s = wide (sgnS f ++ radS radix.toNat P D)) ∧ e = 0)
theorem RadW.one {f : Nat} {radix : Int} {s t : List UInt8} {e g : Int} (h : RadW f radix s e) (k : RadW f radix t g) : s = t ∧ e = g := by
  rcases h with ⟨a, rfl, rfl⟩ | ⟨a, b, ⟨s, c, rfl⟩, rfl⟩ | ⟨a, b, ⟨P, D, c, rfl⟩, rfl⟩
  · rcases k with ⟨a', rfl, rfl⟩ | ⟨a', b', ⟨s', c', rfl⟩, rfl⟩ | ⟨a', b', ⟨P', D', c', rfl⟩, rfl⟩
    · exact ⟨rfl, rfl⟩
    · omega
    · omega
  · rcases k with ⟨a', rfl, rfl⟩ | ⟨a', b', ⟨s', c', rfl⟩, rfl⟩ | ⟨a', b', ⟨P', D', c', rfl⟩, rfl⟩
    · omega
    · rw [c.one c']
      exact ⟨rfl, rfl⟩
    · exact (b' b).elim
  · rcases k with ⟨a', rfl, rfl⟩ | ⟨a', b', ⟨s', c', rfl⟩, rfl⟩ | ⟨a', b', ⟨P', D', c', rfl⟩, rfl⟩
    · omega
    · exact (b b').elim
    · rw [radS_cross c c']
      exact ⟨rfl, rfl⟩
/-- A whole number's digits with a point so many places from the end. -/
def fixS (d : Nat) (s : List UInt8) : List UInt8 :=
  let t := List.replicate (d + 1 - s.length) 48 ++ s
  if d = 0 then t else t.take (t.length - d) ++ [46] ++ t.drop (t.length - d)
def bigB (f : Nat) : Bool := FloatKind.f64.format.order (f % 9223372036854775808) 4921056587992461136 != some .lt
/-- What Fixed tells. -/
def FixW (f : Nat) (d : Int) (s : List UInt8) (e : Int) : Prop :=
  ((d < 0 ∨ 20 < d) ∧ s = [] ∧ e = 1) ∨
  ((0 ≤ d ∧ d ≤ 20) ∧ (nanB f = true ∨ bigB f = true) ∧ (∃ t, TxtW f t ∧ s = wide t) ∧ e = 0) ∨
  ((0 ≤ d ∧ d ≤ 20) ∧ ¬ (nanB f = true ∨ bigB f = true) ∧ (∃ P D, Frac (f % 9223372036854775808) P D (-d) ∧ s = wide (sgnS f ++ fixS d.toNat (digs 10 (rh P D)))) ∧ e = 0)
theorem FixW.one {f : Nat} {radix : Int} {s t : List UInt8} {e g : Int} (h : FixW f radix s e) (k : FixW f radix t g) : s = t ∧ e = g := by
  rcases h with ⟨a, rfl, rfl⟩ | ⟨a, b, ⟨s, c, rfl⟩, rfl⟩ | ⟨a, b, ⟨P, D, c, rfl⟩, rfl⟩
  · rcases k with ⟨a', rfl, rfl⟩ | ⟨a', b', ⟨s', c', rfl⟩, rfl⟩ | ⟨a', b', ⟨P', D', c', rfl⟩, rfl⟩
    · exact ⟨rfl, rfl⟩
    · omega
    · omega
  · rcases k with ⟨a', rfl, rfl⟩ | ⟨a', b', ⟨s', c', rfl⟩, rfl⟩ | ⟨a', b', ⟨P', D', c', rfl⟩, rfl⟩
    · omega
    · rw [c.one c']
      exact ⟨rfl, rfl⟩
    · exact (b' b).elim
  · rcases k with ⟨a', rfl, rfl⟩ | ⟨a', b', ⟨s', c', rfl⟩, rfl⟩ | ⟨a', b', ⟨P', D', c', rfl⟩, rfl⟩
    · omega
    · exact (b b').elim
    · rw [rh_cross c.pos c'.pos (c.cross c')]
      exact ⟨rfl, rfl⟩
/-- So many digits of a number, and the exponent of the first one. -/
def cutS (n : Nat) (t : List UInt8) (e : Int) : List UInt8 × Int := if n < t.length then (t.take n, e + 1) else (t, e)
def PlaceR (r n : Nat) (t : List UInt8) (E : Int) : Prop :=
  (r = 0 ∧ t = List.replicate n 48 ∧ E = 0) ∨ (1 ≤ r ∧ ∃ m P D, (Le r 1 (m - 1) ∧ ¬ Le r 1 m) ∧ Frac r P D (-((n : Int) - m)) ∧ (t, E) = cutS n (digs 10 (rh P D)) (m - 1))
theorem PlaceR.one {r n : Nat} {t t' : List UInt8} {E E' : Int} (h : PlaceR r n t E) (k : PlaceR r n t' E') : t = t' ∧ E = E' := by
  rcases h with ⟨rfl, rfl, rfl⟩ | ⟨a, m, P, D, b, c, d⟩
  · rcases k with ⟨-, rfl, rfl⟩ | ⟨a', -⟩
    · exact ⟨rfl, rfl⟩
    · omega
  · rcases k with ⟨rfl, -⟩ | ⟨a', m', P', D', b', c', d'⟩
    · omega
    · obtain rfl := pt_one b.1 b.2 b'.1 b'.2
      rw [rh_cross c.pos c'.pos (c.cross c'), ← d'] at d
      exact Prod.mk.inj d
/-- What Exponential tells. -/
def ExpW (f : Nat) (d : Int) (s : List UInt8) (e : Int) : Prop :=
  ((d < -1 ∨ 20 < d) ∧ s = [] ∧ e = 1) ∨
  ((-1 ≤ d ∧ d ≤ 20) ∧ (nanB f = true ∨ f % 9223372036854775808 = infR) ∧ (∃ t, TxtW f t ∧ s = wide t) ∧ e = 0) ∨
  ((-1 ≤ d ∧ d ≤ 20) ∧ ¬ (nanB f = true ∨ f % 9223372036854775808 = infR) ∧ (∃ t E, ((0 ≤ d ∧ PlaceR (f % 9223372036854775808) (d + 1).toNat t E) ∨ (d = -1 ∧ f % 9223372036854775808 = 0 ∧ t = [48] ∧ E = 0) ∨ (d = -1 ∧ 1 ≤ f % 9223372036854775808 ∧ ∃ c j, Short (f % 9223372036854775808) c j ∧ t = digs 10 c ∧ E = j + ((digs 10 c).length : Int) - 1)) ∧ s = wide (sgnS f ++ expS t E)) ∧ e = 0)
theorem ExpW.one {f : Nat} {radix : Int} {s t : List UInt8} {e g : Int} (h : ExpW f radix s e) (k : ExpW f radix t g) : s = t ∧ e = g := by
  rcases h with ⟨a, rfl, rfl⟩ | ⟨a, b, ⟨s, c, rfl⟩, rfl⟩ | ⟨a, b, ⟨u, E, c, rfl⟩, rfl⟩
  · rcases k with ⟨a', rfl, rfl⟩ | ⟨a', b', ⟨s', c', rfl⟩, rfl⟩ | ⟨a', b', ⟨u', E', c', rfl⟩, rfl⟩
    · exact ⟨rfl, rfl⟩
    · omega
    · omega
  · rcases k with ⟨a', rfl, rfl⟩ | ⟨a', b', ⟨s', c', rfl⟩, rfl⟩ | ⟨a', b', ⟨u', E', c', rfl⟩, rfl⟩
    · omega
    · rw [c.one c']
      exact ⟨rfl, rfl⟩
    · exact (b' b).elim
  · rcases k with ⟨a', rfl, rfl⟩ | ⟨a', b', ⟨s', c', rfl⟩, rfl⟩ | ⟨a', b', ⟨u', E', c', rfl⟩, rfl⟩
    · omega
    · exact (b b').elim
    · have : u = u' ∧ E = E' := by
        rcases c with ⟨c1, c2⟩ | ⟨c1, c2, rfl, rfl⟩ | ⟨c1, c2, p, j, c3, rfl, rfl⟩
        · rcases c' with ⟨d1, d2⟩ | ⟨d1, d2, rfl, rfl⟩ | ⟨d1, d2, p', j', d3, rfl, rfl⟩
          · exact c2.one d2
          · omega
          · omega
        · rcases c' with ⟨d1, d2⟩ | ⟨d1, d2, rfl, rfl⟩ | ⟨d1, d2, p', j', d3, rfl, rfl⟩
          · omega
          · exact ⟨rfl, rfl⟩
          · omega
        · rcases c' with ⟨d1, d2⟩ | ⟨d1, d2, rfl, rfl⟩ | ⟨d1, d2, p', j', d3, rfl, rfl⟩
          · omega
          · omega
          · obtain ⟨rfl, rfl⟩ := c3.one d3
            exact ⟨rfl, rfl⟩
      obtain ⟨rfl, rfl⟩ := this
      exact ⟨rfl, rfl⟩
/-- So many digits, with or without an exponent. -/
def preS (n : Nat) (t : List UInt8) (E : Int) : List UInt8 :=
  if E < -6 ∨ (n : Int) ≤ E then expS t E else if E = (n : Int) - 1 then t else if 0 ≤ E then t.take (E + 1).toNat ++ [46] ++ t.drop (E + 1).toNat else [48, 46] ++ List.replicate (-E - 1).toNat 48 ++ t
/-- What Precision tells. -/
def PreW (f : Nat) (d : Int) (s : List UInt8) (e : Int) : Prop :=
  ((d < 1 ∨ 21 < d) ∧ s = [] ∧ e = 1) ∨
  ((1 ≤ d ∧ d ≤ 21) ∧ (nanB f = true ∨ f % 9223372036854775808 = infR) ∧ (∃ t, TxtW f t ∧ s = wide t) ∧ e = 0) ∨
  ((1 ≤ d ∧ d ≤ 21) ∧ ¬ (nanB f = true ∨ f % 9223372036854775808 = infR) ∧ (∃ t E, PlaceR (f % 9223372036854775808) d.toNat t E ∧ s = wide (sgnS f ++ preS d.toNat t E)) ∧ e = 0)
theorem PreW.one {f : Nat} {radix : Int} {s t : List UInt8} {e g : Int} (h : PreW f radix s e) (k : PreW f radix t g) : s = t ∧ e = g := by
  rcases h with ⟨a, rfl, rfl⟩ | ⟨a, b, ⟨s, c, rfl⟩, rfl⟩ | ⟨a, b, ⟨u, E, c, rfl⟩, rfl⟩
  · rcases k with ⟨a', rfl, rfl⟩ | ⟨a', b', ⟨s', c', rfl⟩, rfl⟩ | ⟨a', b', ⟨u', E', c', rfl⟩, rfl⟩
    · exact ⟨rfl, rfl⟩
    · omega
    · omega
  · rcases k with ⟨a', rfl, rfl⟩ | ⟨a', b', ⟨s', c', rfl⟩, rfl⟩ | ⟨a', b', ⟨u', E', c', rfl⟩, rfl⟩
    · omega
    · rw [c.one c']
      exact ⟨rfl, rfl⟩
    · exact (b' b).elim
  · rcases k with ⟨a', rfl, rfl⟩ | ⟨a', b', ⟨s', c', rfl⟩, rfl⟩ | ⟨a', b', ⟨u', E', c', rfl⟩, rfl⟩
    · omega
    · exact (b b').elim
    · obtain ⟨rfl, rfl⟩ := c.one c'
      exact ⟨rfl, rfl⟩
end Us
end Go.Proofs.YtdpbpdhamekcdaaGreatDoor
