/-
  Plain laws of PlaceR: a number has a point; so many digits are told, and the exponent is no great one. No program's function. Contracts of quillref03.signed and places: a float's sign; so many of its digits. Conditions: the float is a number. Contracts of numtext.below, rounded: a float beside a ten's power; so many of its digits. Conditions: the laid tables have their values. A contract of quillref03.Exponential. No condition but that the arguments are what they are.
-/
import Derived.Test.YtdpbpdhamekcdaaGreatDoorFxM31
import Derived.Test.YtdpbpdhamekcdaaGreatDoorFxM32
import Derived.Test.YtdpbpdhamekcdaaGreatDoorFxM33
namespace Go.Proofs.YtdpbpdhamekcdaaGreatDoor
open Go.RowKit
namespace Us
open Nv
theorem le_low {r : Nat} (h : 1 ≤ r) : Le r 1 (-340) := by
  unfold Le dv
  have hv : 1 ≤ val r := Nat.le_trans (ulp_pos r) (val_ge_ulp h)
  have e1 : hiP (-340) = 1 := rfl
  have e2 : tiny ≤ loQ (-340) := by decide +kernel
  simp only [e1, Nat.one_mul]
  rw [Nat.mul_assoc]
  refine Nat.mul_le_mul_left 2 (Nat.le_trans e2 ?_)
  exact Nat.le_mul_of_pos_left _ hv
theorem pt_from {r : Nat} (k : Nat) : Le r 1 (-340) → ¬ Le r 1 (-340 + k) → ∃ n : Int, Le r 1 (n - 1) ∧ ¬ Le r 1 n ∧ -340 < n ∧ n ≤ -340 + k := by
  induction k with
  | zero => intro h h2; exact (h2 (by simpa using h)).elim
  | succ k ih =>
    intro h h2
    by_cases g : Le r 1 (-340 + k)
    · exact ⟨-340 + (k + 1 : Nat), by rw [show (-340 + ((k + 1 : Nat) : Int)) - 1 = -340 + k by omega]; exact g, h2, by omega, by omega⟩
    · obtain ⟨n, a, b, c, d⟩ := ih h g
      exact ⟨n, a, b, c, by omega⟩
theorem pt_of {r : Nat} (h1 : 1 ≤ r) (h2 : r < infR) : ∃ n : Int, Le r 1 (n - 1) ∧ ¬ Le r 1 n ∧ -340 < n ∧ n ≤ 310 := by
  obtain ⟨n, a, b, c, d⟩ := pt_from (r := r) 650 (le_low h1) (not_le_309 h2 (by omega))
  exact ⟨n, a, b, c, by omega⟩
/-- One more place or none: what the shortest digits tell. -/
theorem pt_told {r c : Nat} {j : Int} (h1 : 1 ≤ r) (h2 : r < infR) (hs : Short r c j) :
    (Le r 1 (j + ((digs 10 c).length : Int) - 1) ∧ ¬ Le r 1 (j + ((digs 10 c).length : Int))) ∨ (¬ Le r 1 (j + ((digs 10 c).length : Int) - 1) ∧ Le r 1 (j + ((digs 10 c).length : Int) - 1 - 1)) := by
  obtain ⟨n, a, b, -, -⟩ := pt_of h1 h2
  have hp := hs.pos
  have hl1 : 1 ≤ (digs 10 c).length := by
    obtain ⟨c0, l0, e, -⟩ := digs_head hp
    rw [e]
    simp
  have hlo : 10 ^ ((digs 10 c).length - 1) ≤ c := by
    rcases Nat.lt_or_ge c (10 ^ ((digs 10 c).length - 1)) with g | g
    · rcases Nat.lt_or_ge 1 (digs 10 c).length with g1 | g1
      · have := digs_le (by omega) g
        omega
      · rw [show (digs 10 c).length - 1 = 0 by omega] at g ⊢
        exact hp
    · exact g
  have hhi : c < 10 ^ (digs 10 c).length := by
    rcases Nat.lt_or_ge c (10 ^ (digs 10 c).length) with g | g
    · exact g
    · have := digs_ge g
      omega
  rcases pt_short h1 hs hl1 hlo hhi a b with e | e
  · rw [e]
    exact .inl ⟨a, b⟩
  · rw [e]
    rw [show n + 1 - 1 = n by omega]
    exact .inr ⟨b, a⟩
theorem rh_bounds {r n P D : Nat} {m : Int} (hn : 1 ≤ n) (h1 : Le r 1 (m - 1)) (h2 : ¬ Le r 1 m) (h : Frac r P D (-((n : Int) - m))) : 10 ^ (n - 1) ≤ rh P D ∧ rh P D ≤ 10 ^ n := by
  have hD := h.pos
  have a : 10 ^ (n - 1) * D ≤ P := by
    rw [← h.le, ← Nat.one_mul (10 ^ (n - 1)), le_pow, show (-((n : Int) - m) + ((n - 1 : Nat) : Int)) = m - 1 by omega]
    exact h1
  have b : ¬ 10 ^ n * D ≤ P := by
    rw [← h.le, ← Nat.one_mul (10 ^ n), le_pow, show (-((n : Int) - m) + (n : Int)) = m by omega]
    exact h2
  have a' := (Nat.le_div_iff_mul_le hD).2 a
  have b' := (Nat.div_lt_iff_lt_mul hD).2 (Nat.lt_of_not_le b)
  unfold rh
  split <;> omega
theorem cutS_len {n q : Nat} (hn : 1 ≤ n) (h1 : 10 ^ (n - 1) ≤ q) (e : Int) : (cutS n (digs 10 q) e).1.length = n ∧ e ≤ (cutS n (digs 10 q) e).2 ∧ (cutS n (digs 10 q) e).2 ≤ e + 1 := by
  have hl := digs_ge h1
  unfold cutS
  split
  · refine ⟨?_, by show e ≤ e + 1; omega, by show e + 1 ≤ e + 1; omega⟩
    show ((digs 10 q).take n).length = n
    rw [List.length_take]
    omega
  · exact ⟨by show (digs 10 q).length = n; omega, Int.le_refl _, by show e ≤ e + 1; omega⟩
theorem PlaceR.len {r n : Nat} {t : List UInt8} {E : Int} (h : PlaceR r n t E) (hn : 1 ≤ n) (hr : r < infR) : t.length = n ∧ -410 ≤ E ∧ E ≤ 400 := by
  rcases h with ⟨-, rfl, rfl⟩ | ⟨a, m, P, D, b, c, d⟩
  · exact ⟨List.length_replicate, by omega, by omega⟩
  · obtain ⟨h1, -⟩ := rh_bounds hn b.1 b.2 c
    obtain ⟨k1, k2, k3⟩ := cutS_len hn h1 (m - 1)
    rw [← d] at k1 k2 k3
    obtain ⟨n', a', b', c', d'⟩ := pt_of a hr
    obtain rfl := pt_one a' b' b.1 b.2
    exact ⟨k1, by show -410 ≤ E; simp at k2; omega, by simp at k3; omega⟩
end Us
end Go.Proofs.YtdpbpdhamekcdaaGreatDoor
namespace Go.Proofs.YtdpbpdhamekcdaaGreatDoor
open Go.RowKit
namespace Us
open Nv
/-- What rounded (places) tells. -/
def RndQ (r n : Nat) (w : World) (x : Ending) (w' : World) : Prop := ∃ t E, x = .returned (.tuple #[.string (S t), .int .i64 E]) ∧ PlaceR r n t E ∧ t.length = n ∧ (-410 ≤ E ∧ E ≤ 400) ∧ Below w.heap.size w w'
theorem order_rungs {r f : Nat} (h : Rung r f) : FloatKind.f64.format.order f 0 = some (if r = 0 then .eq else .gt) ∧ (1 ≤ r → f = r) := by
  rcases h with ⟨h1, h2, rfl⟩ | ⟨rfl, h⟩
  · refine ⟨?_, fun _ => rfl⟩
    rw [if_neg (by omega)]
    exact (order_rung h2 (by decide)).trans (by rw [Nat.compare_eq_gt.2 (by omega)])
  · rw [if_pos rfl]
    exact ⟨(nought_facts h).2.1, fun h => by omega⟩
theorem Rung.lt {r f : Nat} (h : Rung r f) : r < infR := by
  rcases h with ⟨-, h, -⟩ | ⟨rfl, -⟩
  · exact h
  · decide
theorem rh_lenE {r P D : Nat} {p : Int} (h : FracT r P D p) (hp : -1000 ≤ p ∧ p ≤ 1000) : (Nv.words (rh P D)).length ≤ 202 := by
  have l := (h.lens hp).1
  refine Nat.le_trans (len_mono ?_) (rh_le P D l)
  unfold rh
  split <;> omega
def SgQ (f r : Nat) (w : World) (x : Ending) (w' : World) : Prop := ∃ y, x = .returned (.tuple #[.string (S (sgnS f)), .float .f64 y]) ∧ Rung r y ∧ w' = w
theorem ref_signed {f r : Nat} (hk : (∃ o, FloatKind.f64.format.order f 0 = some o ∧ (o = .eq ∨ o = .gt) ∧ sgnS f = [] ∧ Rung r f) ∨ (FloatKind.f64.format.order f 0 = some .lt ∧ sgnS f = [45] ∧ Rung r r ∧ ∀ W, (Op.unary .neg (.float .f64 f)).run Tryz.prog W = .ok (.float .f64 r) W)) (w : World) : Calls Tryz.prog 93 #[.float .f64 f] w (SgQ f r w) := by
  go_enter Tryz.func93, Tryz.ntmps93
  rcases hk with ⟨o, ho2, rfl | rfl, hsg, hrg⟩ | ⟨ho2, hsg, hrg, hneg⟩
  all_goals
    replace hrg := Far.mk hrg
    go_wp2_with fail
    go_ret2
    exact ⟨_, by rw [hsg]; rfl, hrg.out, rfl⟩
attribute [local go_sem] S_size
set_option maxRecDepth 100000 in
set_option maxHeartbeats 1600000 in
theorem ref_places {r f n : Nat} (h : Rung r f) (hn : 1 ≤ n) (hn2 : n ≤ 30) (w : World) : Calls Tryz.prog 94 #[.float .f64 f, .int .i64 (n : Int)] w (RndQ r n w) := by
  obtain ⟨ho, hfr⟩ := order_rungs h
  have hlt := h.lt
  rcases Nat.eq_zero_or_pos r with rfl | h1
  · have hT : PlaceR 0 n (List.replicate n 48) 0 := .inl ⟨rfl, rfl, rfl⟩
    have hl : (List.replicate n (48 : UInt8)).length = n := List.length_replicate
    rw [if_pos rfl] at ho
    replace hT := Far.mk hT
    clear h hfr hlt
    go_enter Tryz.func94, Tryz.ntmps94
    go_wp2_with fail
    with_reducible refine (ref_noughts (by omega)).mono ?_
    rintro x w3 ⟨rfl, rfl⟩
    rw [Int.toNat_natCast]
    go_wp2_with fail
    go_ret2
    exact ⟨_, _, rfl, hT.out, hl, by omega, Below.refl _ _⟩
  · obtain rfl := hfr h1
    rw [if_neg (by omega)] at ho
    have hPt := Far.mk (ref_point h1 hlt w)
    have hrg : Rung f f := .inl ⟨h1, hlt, rfl⟩
    have hRo := Far.mk (fun W (p : Int) (hp : -1000 ≤ p ∧ p ≤ 1000) => ref_rounded hrg hp W)
    have hLen := Far.mk (fun t E (h : PlaceR f n t E) => h.len hn hlt)
    have hr1 := Far.mk h1
    clear h hfr hrg hlt h1
    go_enter Tryz.func94, Tryz.ntmps94
    go_wp2_with fail
    with_reducible refine hPt.out.mono ?_
    rintro x w3 ⟨m, rfl, hpt, hb⟩
    have hm := hpt.2.2
    replace hpt := Far.mk hpt
    replace hb := Far.mk hb
    clear hPt
    go_wp2_with fail
    with_reducible refine (hRo.out _ _ (by omega)).mono ?_
    rintro x w4 ⟨P, D, rfl, hF, hb4⟩
    obtain ⟨p, hp, hF⟩ : ∃ p, p = (n : Int) - m ∧ FracT f P D p := ⟨_, by omega, hF⟩
    subst hp
    have hPR : ∀ t E, (t, E) = cutS n (digs 10 (rh P D)) (m - 1) → PlaceR f n t E := fun t E h => .inr ⟨hr1.out, m, P, D, ⟨hpt.out.1, hpt.out.2.1⟩, hF.frac, h⟩
    have hdl : (digs 10 (rh P D)).length ≤ 32 * 202 := digs_lenR (by decide) (rh_lenE hF (by omega)) (by decide)
    replace hb := Far.mk (hb.out.trans (hb4.mono hb.out.size))
    obtain ⟨s, hs⟩ : ∃ s, digs 10 (rh P D) = s := ⟨_, rfl⟩
    rw [hs] at hdl hPR ⊢
    clear hs hF hb4 hpt hRo
    have hss : (S s).size = s.length := S_size s
    have x1 : (S s).extract 0 n = S (s.take n) := by rw [S_extract, List.drop_zero]
    have hPR2 : ∀ t E, (t, E) = cutS n s (m - 1) → PlaceR f n t E ∧ t.length = n ∧ (-410 ≤ E ∧ E ≤ 400) := fun t E h => ⟨hPR t E h, hLen.out t E (hPR t E h)⟩
    unfold cutS at hPR2
    by_cases g : n < s.length
    · rw [if_pos g, show m - 1 + 1 = m by omega] at hPR2
      replace hPR2 := Far.mk (hPR2 _ _ rfl)
      clear hPR
      go_wp2_with fail
      go_ret2
      exact ⟨_, _, rfl, hPR2.out.1, hPR2.out.2.1, hPR2.out.2.2, hb.out⟩
    · rw [if_neg g] at hPR2
      replace hPR2 := Far.mk (hPR2 _ _ rfl)
      clear hPR
      go_wp2_with fail
      go_ret2
      exact ⟨_, _, rfl, hPR2.out.1, hPR2.out.2.1, hPR2.out.2.2, hb.out⟩
end Us
end Go.Proofs.YtdpbpdhamekcdaaGreatDoor
namespace Go.Proofs.YtdpbpdhamekcdaaGreatDoor
open Go.RowKit
namespace Us
open Nv
/-- What below tells. -/
def BelQ (r : Nat) (n : Int) (w : World) (x : Ending) (w' : World) : Prop := x = .returned (.bool (@decide (¬ Le r 1 n) (Classical.propDecidable _))) ∧ Below w.heap.size w w'
set_option maxRecDepth 100000 in
set_option maxHeartbeats 1600000 in
theorem nt_below {r f : Nat} {n : Int} (h : Rung r f) (hp : -400 ≤ n ∧ n ≤ 400) {w : World} (hT : Tz w) : Calls Tryz.prog 157 #[.float .f64 f, .int .i64 n] w (BelQ r n w) := by
  have hP := Far.mk (bn_PartsT h hT)
  clear h hT
  have l10 := len_ten (-n).toNat
  have l10' := len_ten n.toNat
  go_enter Tryz.func157, Tryz.ntmps157
  go_wp2_with fail
  with_reducible refine hP.out.mono ?_
  rintro x w3 ⟨m, e, A, c, rfl, hFr, hm, he, hR, hb⟩
  have hF := Far.mk (hFr (-n))
  rw [Int.neg_neg] at hF
  have hlm : (Nv.words m).length ≤ 2 := words_len (by omega)
  replace hR := Far.mk hR
  replace hb := Far.mk hb
  clear hFr hP
  obtain ⟨T1, hT1⟩ : ∃ T, 10 ^ (-n).toNat = T := ⟨_, rfl⟩
  obtain ⟨T2, hT2⟩ : ∃ T, 10 ^ n.toNat = T := ⟨_, rfl⟩
  have hT20 : 0 < T2 := by rw [← hT2]; exact Nat.pow_pos (by decide)
  rw [hT1] at l10 hF
  rw [hT2] at l10' hF
  go_wp2_with fail
  with_reducible refine (nt_ten (by omega) _).mono ?_
  rw [hT1]
  rintro x w4 ⟨A4, c4, rfl, hR4, hb4⟩
  replace hR := Far.mk (hR.out.below hb4)
  replace hb := Far.mk (hb.out.trans (hb4.mono hb.out.size))
  have lmt : (Nv.words (m * T1)).length ≤ 53 := Nat.le_trans (len_mul _ _) (by omega)
  clear hb4
  go_wp2_with fail
  with_reducible refine (bMul hR.out (by omega) hR4 (by omega) (by omega)).mono ?_
  rintro x w5 ⟨A5, c5, rfl, hR5, hb5⟩
  replace hb := Far.mk (hb.out.trans (hb5.mono hb.out.size))
  replace hR5 := Far.mk hR5
  clear hb5 hR hR4
  obtain ⟨k1, k2, hk1, hk2, hkk⟩ : ∃ k1 k2 : Nat, e.toNat = k1 ∧ (-e).toNat = k2 ∧ ((e = (k1 : Int) ∧ k2 = 0) ∨ (e = -(k2 : Int) ∧ k1 = 0)) := ⟨_, _, rfl, rfl, by omega⟩
  have hk1l : k1 ≤ 1100 := by omega
  have hk2l : k2 ≤ 1100 := by omega
  rw [hk1, hk2] at hF
  have ln := Nat.le_trans (len_mul (m * T1) (2 ^ k1)) (Nat.add_le_add lmt (len_two k1))
  have ld := Nat.le_trans (len_mul T2 (2 ^ k2)) (Nat.add_le_add l10' (len_two k2))
  have ePe : m * 2 ^ k1 * T1 = m * T1 * 2 ^ k1 := by ac_rfl
  have eDe : 2 ^ k2 * T2 = T2 * 2 ^ k2 := by ac_rfl
  rw [ePe, eDe] at hF
  clear hk1 hk2 ePe eDe l10
  obtain ⟨P, hPP⟩ : ∃ P, m * T1 * 2 ^ k1 = P := ⟨_, rfl⟩
  obtain ⟨D, hDD⟩ : ∃ P, T2 * 2 ^ k2 = P := ⟨_, rfl⟩
  rw [hPP] at hF ln
  rw [hDD] at hF ld
  have ln' : (Nv.words P).length ≤ 100 := by omega
  have ld' : (Nv.words D).length ≤ 100 := by omega
  have hle : (P < D) = ¬ Le r 1 n := by
    apply propext
    rw [hF.out.le 1, Nat.one_mul, Nat.not_le]
  clear ln ld hF
  rcases hkk with ⟨rfl, h2⟩ | ⟨rfl, h1⟩
  · have hmx : max (-(k1 : Int)) 0 = 0 := by omega
    replace h2 : k2 ≤ 0 := by omega
    go_wp2_with fail
    with_reducible refine (bShl (k := k1) (by omega) hR5.out (by omega) (by omega) (by rw [hPP]; omega)).mono ?_
    rw [hPP]
    rintro x w6 ⟨A6, c6, rfl, hR6, hb6⟩
    replace hR6 := Far.mk hR6
    replace hb := Far.mk (hb.out.trans (hb6.mono hb.out.size))
    clear hb6 hR5
    go_wp2_with fail
    with_reducible refine (nt_ten (by omega) _).mono ?_
    rw [hT2]
    rintro x w7 ⟨A7, c7, rfl, hR7, hb7⟩
    replace hR6 := Far.mk (hR6.out.below hb7)
    replace hR7 := Far.mk hR7
    replace hb := Far.mk (hb.out.trans (hb7.mono hb.out.size))
    clear hb7
    go_wp2_with fail
    with_reducible refine (bShl (k := k2) (by omega) hR7.out (by omega) (by omega) (by rw [hDD]; omega)).mono ?_
    rw [hDD]
    rintro x w8 ⟨A8, c8, rfl, hR8, hb8⟩
    replace hR6 := Far.mk (hR6.out.below hb8)
    replace hR8 := Far.mk hR8
    replace hb := Far.mk (hb.out.trans (hb8.mono hb.out.size))
    clear hb8 hR7
    go_wp2_with fail
    with_reducible refine (bCmp hR6.out (by omega) hR8.out (by omega)).mono ?_
    rintro x w12 ⟨rfl, z12, hw⟩
    replace hb : Far (Below w.heap.size w w12) := ⟨by rw [hw]; exact below_drawn hb.out⟩
    clear hw hR6 hR8
    have hcg := cmp_ge P D
    obtain ⟨cc, hcc⟩ : ∃ cc, cmpN P D = cc := ⟨_, rfl⟩
    rw [hcc] at hcg ⊢
    replace hcg := Far.mk (show decide (cc < 0) = @decide (¬ Le r 1 n) (Classical.propDecidable _) from decide_eq_decide.2 (by rw [← Int.not_le, hcg, Nat.not_le, hle]))
    clear hcc hle
    go_wp2_with fail
    go_ret
    exact ⟨congrArg (fun b => Ending.returned (.bool b)) hcg.out, hb.out⟩
  · have hmx : max (-(k2 : Int)) 0 = 0 := by omega
    replace h1 : k1 ≤ 0 := by omega
    go_wp2_with fail
    with_reducible refine (bShl (k := k1) (by omega) hR5.out (by omega) (by omega) (by rw [hPP]; omega)).mono ?_
    rw [hPP]
    rintro x w6 ⟨A6, c6, rfl, hR6, hb6⟩
    replace hR6 := Far.mk hR6
    replace hb := Far.mk (hb.out.trans (hb6.mono hb.out.size))
    clear hb6 hR5
    go_wp2_with fail
    with_reducible refine (nt_ten (by omega) _).mono ?_
    rw [hT2]
    rintro x w7 ⟨A7, c7, rfl, hR7, hb7⟩
    replace hR6 := Far.mk (hR6.out.below hb7)
    replace hR7 := Far.mk hR7
    replace hb := Far.mk (hb.out.trans (hb7.mono hb.out.size))
    clear hb7
    go_wp2_with fail
    with_reducible refine (bShl (k := k2) (by omega) hR7.out (by omega) (by omega) (by rw [hDD]; omega)).mono ?_
    rw [hDD]
    rintro x w8 ⟨A8, c8, rfl, hR8, hb8⟩
    replace hR6 := Far.mk (hR6.out.below hb8)
    replace hR8 := Far.mk hR8
    replace hb := Far.mk (hb.out.trans (hb8.mono hb.out.size))
    clear hb8 hR7
    go_wp2_with fail
    with_reducible refine (bCmp hR6.out (by omega) hR8.out (by omega)).mono ?_
    rintro x w12 ⟨rfl, z12, hw⟩
    replace hb : Far (Below w.heap.size w w12) := ⟨by rw [hw]; exact below_drawn hb.out⟩
    clear hw hR6 hR8
    have hcg := cmp_ge P D
    obtain ⟨cc, hcc⟩ : ∃ cc, cmpN P D = cc := ⟨_, rfl⟩
    rw [hcc] at hcg ⊢
    replace hcg := Far.mk (show decide (cc < 0) = @decide (¬ Le r 1 n) (Classical.propDecidable _) from decide_eq_decide.2 (by rw [← Int.not_le, hcg, Nat.not_le, hle]))
    clear hcc hle
    go_wp2_with fail
    go_ret
    exact ⟨congrArg (fun b => Ending.returned (.bool b)) hcg.out, hb.out⟩
attribute [local go_sem] S_size
set_option maxRecDepth 100000 in
set_option maxHeartbeats 1600000 in
theorem nt_rounded {r n : Nat} (h1 : 1 ≤ r) (h2 : r < infR) (hn : 1 ≤ n) (hn2 : n ≤ 30) {w : World} (hTb : Tabs w) (hT : Tz w) : Calls Tryz.prog 91 #[.float .f64 r, .int .i64 (n : Int)] w (RndQ r n w) := by
  have hSh := Far.mk (nt_shortest h1 h2 hTb)
  have hK := Far.mk (fun W (hb : Below w.heap.size w W) => hT.keep hb rfl)
  have hrg : Rung r r := .inl ⟨h1, h2, rfl⟩
  have hBe := Far.mk (fun W (hb : Below w.heap.size w W) (e : Int) (he : -400 ≤ e ∧ e ≤ 400) => nt_below (n := e) hrg he (hT.keep hb rfl))
  have hSc := Far.mk (fun W (hb : Below w.heap.size w W) (e : Int) (he : -400 ≤ e ∧ e ≤ 400) => nt_scaled (p := e) hrg he (hT.keep hb rfl))
  have hPl := Far.mk (fun c j (h : Short r c j) => pt_told h1 h2 h)
  have hPt := Far.mk (pt_of h1 h2)
  have hLen := Far.mk (fun t E (h : PlaceR r n t E) => h.len hn h2)
  have hr1 := Far.mk h1
  clear hT hTb hrg h2 h1
  go_enter Tryz.func91, Tryz.ntmps91
  go_wp2_with fail
  with_reducible refine hSh.out.mono ?_
  rintro x w3 ⟨c, j, rfl, hs, hl, hj1, hj2, hb⟩
  replace hPl := hPl.out _ _ hs
  replace hb := Far.mk hb
  obtain ⟨t0, ht0⟩ : ∃ t, digs 10 c = t := ⟨_, rfl⟩
  rw [ht0] at hPl hl ⊢
  obtain ⟨m, hm⟩ : ∃ m : Int, j + (t0.length : Int) - 1 = m := ⟨_, rfl⟩
  have hm2 : j + (t0.length : Int) = m + 1 := by omega
  rw [hm, hm2] at hPl
  rw [hm2]
  have hmm : m + 1 - 1 = m := by omega
  obtain ⟨n0, a0, b0, c0, d0⟩ := hPt.out
  have hmr : -345 < m ∧ m ≤ 310 := by
    rcases hPl with ⟨a, b⟩ | ⟨a, b⟩
    · have := pt_one a0 b0 (by rw [show m + 1 - 1 = m by omega]; exact a) b
      omega
    · have := pt_one a0 b0 b a
      omega
  obtain ⟨bb, hbb⟩ : ∃ b : Bool, @decide (¬ Le r 1 m) (Classical.propDecidable _) = b := ⟨_, rfl⟩
  have hcase : (bb = false ∧ (Le r 1 (m + 1 - 1) ∧ ¬ Le r 1 (m + 1))) ∨ (bb = true ∧ (Le r 1 (m - 1) ∧ ¬ Le r 1 m)) := by
    rcases hPl with ⟨a, b⟩ | ⟨a, b⟩
    · refine .inl ⟨?_, by rw [hmm]; exact a, b⟩
      rw [← hbb]
      exact @decide_eq_false _ (Classical.propDecidable _) (fun h => h a)
    · refine .inr ⟨?_, b, a⟩
      rw [← hbb]
      exact @decide_eq_true _ (Classical.propDecidable _) a
  clear hPl hPt a0 b0 c0 d0 hs hm hm2 ht0 hj1 hj2 hSh
  go_wp2_with fail
  with_reducible refine (hBe.out _ hb.out m (by omega)).mono ?_
  unfold BelQ
  rw [hbb]
  rintro x w4 ⟨rfl, hb4⟩
  replace hb := Far.mk (hb.out.trans (hb4.mono hb.out.size))
  clear hb4 hbb hBe
  rcases hcase with ⟨rfl, hle⟩ | ⟨rfl, hle⟩
  · replace hle := Far.mk hle
    go_wp2_with fail
    with_reducible refine (hSc.out _ hb.out _ (by omega)).mono ?_
    rintro x w5 ⟨P, D, A, c5, rfl, hF, hlw, hR, hb5⟩
    have hdl := digs_lenR (r := 10) (by decide) hlw (by decide)
    obtain ⟨p, hp, hF⟩ : ∃ p, p = (n : Int) - (m + 1) ∧ Frac r P D (-p) := ⟨_, by omega, hF⟩
    subst hp
    have hPR : ∀ t E, (t, E) = cutS n (digs 10 (rh P D)) ((m + 1) - 1) → PlaceR r n t E := fun t E h => .inr ⟨hr1.out, (m + 1), P, D, hle.out, hF, h⟩
    replace hb := Far.mk (hb.out.trans (hb5.mono hb.out.size))
    replace hR := Far.mk hR
    clear hF hb5 hSc
    go_wp2_with fail
    with_reducible refine (bText (r := 10) (R := 10) hR.out (by omega) rfl (by decide) (by decide)).mono ?_
    rintro x w6 ⟨rfl, hb6⟩
    replace hb := Far.mk (hb.out.trans (hb6.mono hb.out.size))
    clear hb6 hR
    obtain ⟨s, hs⟩ : ∃ s, digs 10 (rh P D) = s := ⟨_, rfl⟩
    rw [hs] at hdl hPR ⊢
    clear hs
    have hss : (S s).size = s.length := S_size s
    have x1 : (S s).extract 0 n = S (s.take n) := by rw [S_extract, List.drop_zero]
    have hPR2 : ∀ t E, (t, E) = cutS n s ((m + 1) - 1) → PlaceR r n t E ∧ t.length = n ∧ (-410 ≤ E ∧ E ≤ 400) := fun t E h => ⟨hPR t E h, hLen.out t E (hPR t E h)⟩
    rw [hmm] at hPR2
    unfold cutS at hPR2
    by_cases g : n < s.length
    · rw [if_pos g] at hPR2
      replace hPR2 := Far.mk (hPR2 _ _ rfl)
      clear hPR
      go_wp2_with fail
      go_ret2
      exact ⟨_, _, rfl, hPR2.out.1, hPR2.out.2.1, hPR2.out.2.2, hb.out⟩
    · rw [if_neg g] at hPR2
      replace hPR2 := Far.mk (hPR2 _ _ rfl)
      clear hPR
      go_wp2_with fail
      go_ret2
      exact ⟨_, _, rfl, hPR2.out.1, hPR2.out.2.1, hPR2.out.2.2, hb.out⟩
  · replace hle := Far.mk hle
    go_wp2_with fail
    with_reducible refine (hSc.out _ hb.out _ (by omega)).mono ?_
    rintro x w5 ⟨P, D, A, c5, rfl, hF, hlw, hR, hb5⟩
    have hdl := digs_lenR (r := 10) (by decide) hlw (by decide)
    obtain ⟨p, hp, hF⟩ : ∃ p, p = (n : Int) - m ∧ Frac r P D (-p) := ⟨_, by omega, hF⟩
    subst hp
    have hPR : ∀ t E, (t, E) = cutS n (digs 10 (rh P D)) (m - 1) → PlaceR r n t E := fun t E h => .inr ⟨hr1.out, m, P, D, hle.out, hF, h⟩
    replace hb := Far.mk (hb.out.trans (hb5.mono hb.out.size))
    replace hR := Far.mk hR
    clear hF hb5 hSc
    go_wp2_with fail
    with_reducible refine (bText (r := 10) (R := 10) hR.out (by omega) rfl (by decide) (by decide)).mono ?_
    rintro x w6 ⟨rfl, hb6⟩
    replace hb := Far.mk (hb.out.trans (hb6.mono hb.out.size))
    clear hb6 hR
    obtain ⟨s, hs⟩ : ∃ s, digs 10 (rh P D) = s := ⟨_, rfl⟩
    rw [hs] at hdl hPR ⊢
    clear hs
    have hss : (S s).size = s.length := S_size s
    have x1 : (S s).extract 0 n = S (s.take n) := by rw [S_extract, List.drop_zero]
    have hPR2 : ∀ t E, (t, E) = cutS n s (m - 1) → PlaceR r n t E ∧ t.length = n ∧ (-410 ≤ E ∧ E ≤ 400) := fun t E h => ⟨hPR t E h, hLen.out t E (hPR t E h)⟩
    unfold cutS at hPR2
    by_cases g : n < s.length
    · rw [if_pos g, show m - 1 + 1 = m by omega] at hPR2
      replace hPR2 := Far.mk (hPR2 _ _ rfl)
      clear hPR
      go_wp2_with fail
      go_ret2
      exact ⟨_, _, rfl, hPR2.out.1, hPR2.out.2.1, hPR2.out.2.2, hb.out⟩
    · rw [if_neg g] at hPR2
      replace hPR2 := Far.mk (hPR2 _ _ rfl)
      clear hPR
      go_wp2_with fail
      go_ret2
      exact ⟨_, _, rfl, hPR2.out.1, hPR2.out.2.1, hPR2.out.2.2, hb.out⟩
end Us
end Go.Proofs.YtdpbpdhamekcdaaGreatDoor
namespace Go.Proofs.YtdpbpdhamekcdaaGreatDoor
open Go.RowKit
namespace Us
open Nv
attribute [local go_sem] S_append S_e S_m
def ExpQ (f : Nat) (d : Int) (w : World) (x : Ending) (w' : World) : Prop := ∃ s e, x = .returned (.tuple #[.string (S s), .int .i64 e]) ∧ ExpW f d s e ∧ Below w.heap.size w w'
theorem ref_Exponential_out {f : Nat} {d : Int} (h : d < -1 ∨ 20 < d) (w : World) : Calls Tryz.prog 42 #[.float .f64 f, .int .i64 d] w (ExpQ f d w) := by
  have hT : ExpW f d [] 1 := .inl ⟨h, rfl, rfl⟩
  replace hT := Far.mk hT
  go_enter Tryz.func42, Tryz.ntmps42
  by_cases g : d < -1
  · go_wp2_with fail
    go_ret2
    exact ⟨_, _, rfl, hT.out, Below.refl _ _⟩
  · have g2 : 20 < d := by omega
    go_wp2_with fail
    go_ret2
    exact ⟨_, _, rfl, hT.out, Below.refl _ _⟩
theorem ref_Exponential_text {f : Nat} (hf : f < 18446744073709551616) {d : Int} (h1 : -1 ≤ d) (h2 : d ≤ 20) (hk : nanB f = true ∨ f % 9223372036854775808 = infR) {w : World} : Calls Tryz.prog 42 #[.float .f64 f, .int .i64 d] w (ExpQ f d w) := by
  have hT : ∀ t, TxtW f t → ExpW f d (wide t) 0 := fun t h => .inr (.inl ⟨⟨h1, h2⟩, hk, ⟨t, h, rfl⟩, rfl⟩)
  have hR := Far.mk (ref_Text_float hf w)
  obtain ⟨b, hb⟩ : ∃ b, nanB f = b := ⟨_, rfl⟩
  have hI := Far.mk (fun (hn : nanB f = false) W => math_IsInf0 hf (isinf_kind hn) W)
  replace hT := Far.mk hT
  go_enter Tryz.func42, Tryz.ntmps42
  cases b with
  | true =>
    clear hk hf
    go_wp2_with (go_at_call 20; refine (math_IsNaN f _).mono ?_; rintro e w' ⟨rfl, hw⟩; subst hw; rw [hb])
    with_reducible refine hR.out.mono ?_
    rintro x w3 ⟨s, hs, hl, rfl, hb3⟩
    go_wp2_with fail
    go_ret2
    exact ⟨_, _, rfl, hT.out _ hs, hb3⟩
  | false =>
    have hi : f % 9223372036854775808 = infR := by
      rcases hk with h | h
      · rw [hb] at h; cases h
      · exact h
    replace hI := Far.mk (hI.out hb)
    rw [decide_eq_true hi] at hI
    clear hk hf hi
    go_wp2_with (first
      | (go_at_call 23; go_must (with_reducible refine (hI.out _).mono ?_); rintro e w' ⟨rfl, hw⟩; replace hw := hw.symm; subst hw)
      | (go_at_call 20; refine (math_IsNaN f _).mono ?_; rintro e w' ⟨rfl, hw⟩; subst hw; rw [hb]))
    with_reducible refine hR.out.mono ?_
    rintro x w3 ⟨s, hs, hl, rfl, hb3⟩
    go_wp2_with fail
    go_ret2
    exact ⟨_, _, rfl, hT.out _ hs, hb3⟩
set_option maxRecDepth 100000 in
set_option maxHeartbeats 1600000 in
theorem ref_Exponential_num {f r : Nat} {d : Int} (hf : f < 18446744073709551616) (h1 : -1 ≤ d) (h2 : d ≤ 20) (hn : nanB f = false) (hi : f % 9223372036854775808 < infR) (hr : f % 9223372036854775808 = r)
    (hk : (∃ o, FloatKind.f64.format.order f 0 = some o ∧ (o = .eq ∨ o = .gt) ∧ sgnS f = [] ∧ Rung r f) ∨ (FloatKind.f64.format.order f 0 = some .lt ∧ sgnS f = [45] ∧ Rung r r ∧ ∀ W, (Op.unary .neg (.float .f64 f)).run Tryz.prog W = .ok (.float .f64 r) W)) {w : World} : Calls Tryz.prog 42 #[.float .f64 f, .int .i64 d] w (ExpQ f d w) := by
  have hT : ∀ t E, ((0 ≤ d ∧ PlaceR r (d + 1).toNat t E) ∨ (d = -1 ∧ r = 0 ∧ t = [48] ∧ E = 0) ∨ (d = -1 ∧ 1 ≤ r ∧ ∃ c j, Short r c j ∧ t = digs 10 c ∧ E = j + ((digs 10 c).length : Int) - 1)) → ExpW f d (wide (sgnS f ++ expS t E)) 0 := fun t E h => .inr (.inr ⟨⟨by omega, by omega⟩, (show ¬ (nanB f = true ∨ f % 9223372036854775808 = infR) from fun h => by rcases h with h | h; (rw [hn] at h; cases h); omega), ⟨t, E, by rw [hr]; exact h, rfl⟩, rfl⟩)
  have hI := Far.mk (fun W => math_IsInf0 hf (isinf_kind hn) W)
  rw [decide_eq_false (by omega)] at hI
  have hSg := Far.mk (fun W => ref_signed hk W)
  have hsl : (sgnS f).length ≤ 1 := by unfold sgnS; split <;> simp
  replace hT := Far.mk hT
  clear hf hr hi
  go_enter Tryz.func42, Tryz.ntmps42
  go_wp2_with (first
    | (go_at_call 23; go_must (with_reducible refine (hI.out _).mono ?_); rintro e w' ⟨rfl, hw⟩; replace hw := hw.symm; subst hw)
    | (go_at_call 20; refine (math_IsNaN f _).mono ?_; rintro e w' ⟨rfl, hw⟩; subst hw; rw [hn]))
  with_reducible refine (hSg.out _).mono ?_
  rintro x w3 ⟨y, rfl, hrg, rfl⟩
  obtain ⟨g, hg⟩ : ∃ g, sgnS f = g := ⟨_, rfl⟩
  rw [hg] at hT hsl ⊢
  clear hg hk hSg
  have hgs : (S g).size = g.length := S_size g
  obtain ⟨ho, hfr⟩ := order_rungs hrg
  have hlt := hrg.lt
  have hPl := Far.mk (fun W (n : Nat) (a : 1 ≤ n) (b : n ≤ 30) => ref_places hrg a b W)
  have hP1 := hPl.out
  have hP1 := fun W => hP1 W 1 (by omega) (by omega)
  rw [Int.natCast_one] at hP1
  replace hP1 := Far.mk hP1
  clear hn
  go_wp2_with fail
  with_reducible refine (hP1.out _).mono ?_
  rintro x w4 ⟨t1, E1, rfl, hpr1, hl1, hE1, hb⟩
  replace hb := Far.mk hb
  replace hfr := Far.mk hfr
  replace hpr1 := Far.mk hpr1
  clear hrg hP1
  rcases Int.lt_or_le d 0 with gd | gd
  · obtain rfl : d = -1 := by omega
    clear hPl
    rcases Nat.eq_zero_or_pos r with rfl | hr0
    · rw [if_pos rfl] at ho
      obtain ⟨q1, q2⟩ := hpr1.out.one (.inl ⟨rfl, rfl, rfl⟩)
      have hX : ((0 : Int) ≤ -1 ∧ PlaceR 0 ((-1 : Int) + 1).toNat t1 E1) ∨ ((-1 : Int) = -1 ∧ (0 : Nat) = 0 ∧ t1 = ([48] : List UInt8) ∧ E1 = 0) ∨ ((-1 : Int) = -1 ∧ 1 ≤ 0 ∧ ∃ c j, Short 0 c j ∧ t1 = digs 10 c ∧ E1 = j + ((digs 10 c).length : Int) - 1) := .inr (.inl ⟨rfl, rfl, q1, q2⟩)
      replace hX := Far.mk hX
      clear q1 q2 hpr1
      have hlE := expS_len t1 E1 (by omega) (by omega)
      go_wp2_with fail
      with_reducible refine (ref_exponent (l := t1) (e := E1) (by omega) (by omega) (by omega)).mono ?_
      rintro x w8 ⟨rfl, hb8⟩
      replace hb := Far.mk (hb.out.trans (hb8.mono hb.out.size))
      replace hT := Far.mk (hT.out t1 E1 hX.out)
      clear hb8
      obtain ⟨u, hu⟩ : ∃ u, expS t1 E1 = u := ⟨_, rfl⟩
      rw [hu] at hlE hT ⊢
      clear hu hX
      have hus : (S u).size = u.length := S_size u
      have hcat := S_append (g) u
      have hcs : (S ((g) ++ u)).size = (g).length + u.length := by rw [S_size, List.length_append]
      go_wp2_with fail
      with_reducible refine (ref01_Wide _ _ (by rw [hcs]; omega)).mono ?_
      rintro x w9 ⟨rfl, hb9⟩
      go_wp2_with fail
      go_ret2
      exact ⟨wide ((g) ++ u), _, rfl, hT.out, hb.out.trans (hb9.mono hb.out.size)⟩
    · rw [if_neg (by omega)] at ho
      obtain rfl := hfr.out hr0
      have hDg := Far.mk (fun W => ref_Digits hr0 hlt W)
      have hr1 := Far.mk hr0
      clear hfr hlt hr0 hpr1
      go_wp2_with fail
      with_reducible refine (hDg.out _).mono ?_
      rintro x w5 ⟨c, j, rfl, hsh, hj1, hj2, hl, hb5⟩
      replace hb := Far.mk (hb.out.trans (hb5.mono hb.out.size))
      have hpos := hsh.pos
      have hl1' : 1 ≤ (digs 10 c).length := by
        obtain ⟨c0, l0, e, -⟩ := digs_head hpos
        rw [e]
        simp
      have hX := Far.mk (show ∀ E : Int, j + ((digs 10 c).length : Int) - 1 = E → (((0 : Int) ≤ -1 ∧ PlaceR y ((-1 : Int) + 1).toNat (digs 10 c) E) ∨ ((-1 : Int) = -1 ∧ y = 0 ∧ (digs 10 c) = ([48] : List UInt8) ∧ E = 0) ∨ ((-1 : Int) = -1 ∧ 1 ≤ y ∧ ∃ c' j', Short y c' j' ∧ (digs 10 c) = digs 10 c' ∧ E = j' + ((digs 10 c').length : Int) - 1)) from fun E hE => .inr (.inr ⟨rfl, hr1.out, c, j, hsh, rfl, hE.symm⟩))
      clear hb5 hsh hDg hpos
      obtain ⟨t, ht⟩ : ∃ t : List UInt8, digs 10 c = t := ⟨_, rfl⟩
      rw [ht] at hX hl hl1' ⊢
      obtain ⟨E, hE⟩ : ∃ E : Int, j + (t.length : Int) - 1 = E := ⟨_, rfl⟩
      replace hX := Far.mk (hX.out E hE)
      clear ht
      have hlE := expS_len t E (by omega) (by omega)
      go_wp2_with fail
      with_reducible refine (ref_exponent (l := t) (e := E) (by omega) (by omega) (by omega)).mono ?_
      rintro x w8 ⟨rfl, hb8⟩
      replace hb := Far.mk (hb.out.trans (hb8.mono hb.out.size))
      replace hT := Far.mk (hT.out t E hX.out)
      clear hb8
      obtain ⟨u, hu⟩ : ∃ u, expS t E = u := ⟨_, rfl⟩
      rw [hu] at hlE hT ⊢
      clear hu hX
      have hus : (S u).size = u.length := S_size u
      have hcat := S_append (g) u
      have hcs : (S ((g) ++ u)).size = (g).length + u.length := by rw [S_size, List.length_append]
      go_wp2_with fail
      with_reducible refine (ref01_Wide _ _ (by rw [hcs]; omega)).mono ?_
      rintro x w9 ⟨rfl, hb9⟩
      go_wp2_with fail
      go_ret2
      exact ⟨wide ((g) ++ u), _, rfl, hT.out, hb.out.trans (hb9.mono hb.out.size)⟩
  · obtain ⟨k, hk⟩ : ∃ k : Nat, d + 1 = (k : Int) := ⟨(d + 1).toNat, by omega⟩
    have hk2 : (d + 1).toNat = k := by omega
    have hPk := Far.mk (fun W => hPl.out W k (by omega) (by omega))
    clear hPl hlt hfr ho hpr1
    go_wp2_with fail
    with_reducible refine (hPk.out _).mono ?_
    rintro x w5 ⟨t, E, rfl, hpr, hl, hE, hb5⟩
    replace hb := Far.mk (hb.out.trans (hb5.mono hb.out.size))
    have hX := Far.mk (show (0 ≤ d ∧ PlaceR r (d + 1).toNat t E) ∨ (d = -1 ∧ r = 0 ∧ t = ([48] : List UInt8) ∧ E = 0) ∨ (d = -1 ∧ 1 ≤ r ∧ ∃ c j, Short r c j ∧ t = digs 10 c ∧ E = j + ((digs 10 c).length : Int) - 1) from .inl ⟨gd, by rw [hk2]; exact hpr⟩)
    clear hb5 hpr hPk hk2
    have hlE := expS_len t E (by omega) (by omega)
    go_wp2_with fail
    with_reducible refine (ref_exponent (l := t) (e := E) (by omega) (by omega) (by omega)).mono ?_
    rintro x w8 ⟨rfl, hb8⟩
    replace hb := Far.mk (hb.out.trans (hb8.mono hb.out.size))
    replace hT := Far.mk (hT.out t E hX.out)
    clear hb8
    obtain ⟨u, hu⟩ : ∃ u, expS t E = u := ⟨_, rfl⟩
    rw [hu] at hlE hT ⊢
    clear hu hX
    have hus : (S u).size = u.length := S_size u
    have hcat := S_append (g) u
    have hcs : (S ((g) ++ u)).size = (g).length + u.length := by rw [S_size, List.length_append]
    go_wp2_with fail
    with_reducible refine (ref01_Wide _ _ (by rw [hcs]; omega)).mono ?_
    rintro x w9 ⟨rfl, hb9⟩
    go_wp2_with fail
    go_ret2
    exact ⟨wide ((g) ++ u), _, rfl, hT.out, hb.out.trans (hb9.mono hb.out.size)⟩
end Us
end Go.Proofs.YtdpbpdhamekcdaaGreatDoor
