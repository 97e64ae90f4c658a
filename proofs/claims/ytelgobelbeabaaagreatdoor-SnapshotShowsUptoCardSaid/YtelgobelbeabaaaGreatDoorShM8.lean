/-
  A contract of quillref02.Near: the float nearest to a number times a two's power. Conditions: the words are a number's; the power is no great one. Contracts of quillref02.Parts and quillref03.scaled: a positive float as a fraction, times a ten's power. Conditions: the float is a number above nought; the power is no great one. A contract of quillref03.scaled: a positive float times a ten's power, as a fraction. Conditions: the float is a number above nought; the power is no great one. A contract of quillref03.point: where the point of a positive float is. Condition: the float is a number above nought. A contract of quillref03.decimal at a number's digits: the float that is nearest. Conditions: the number is above nought, its digits and the power are no great ones.
-/
import Derived.Test.YtelgobelbeabaaaGreatDoorShM7
import Derived.Test.YtelgobelbeabaaaGreatDoorShM3
import Derived.Test.YtelgobelbeabaaaGreatDoorShM6
namespace Go.Proofs.YtelgobelbeabaaaGreatDoor
open Go.RowKit
namespace Us
open Nv

theorem bit_log {N : Nat} (h : 0 < N) : bitN N = N.log2 + 1 := by unfold bitN; rw [if_neg (by omega)]
theorem add_nought (a : Addr) : a.add 0 = a := by cases a; simp [Addr.add]
theorem fl_int (q : Nat) : floatOfInt .f64 (q : Int) = Ieee.double.nearest false q 0 := by
  unfold floatOfInt FloatKind.nearest
  rw [show decide ((q : Int) < 0) = false from decide_eq_false (by omega), Int.natAbs_natCast]
  rfl
/-- Two words of a number, put together. -/
theorem two_words {q : Nat} (h : q < 18446744073709551616) : ∃ x0 x1 : Int, (Nv.words q).getD 0 0 = x0 ∧ (Nv.words q).getD 1 0 = x1 ∧ 0 ≤ x0 ∧ x0 < 4294967296 ∧ 0 ≤ x1 ∧ x1 < 4294967296 ∧ bits .or .u64 (x1 * 4294967296) x0 = (q : Int) := by
  have h0 := words_get q 0
  have h1 := words_get q 1
  rw [Nat.pow_zero, Nat.div_one] at h0
  rw [Nat.pow_one] at h1
  refine ⟨_, _, h0, h1, by omega, by omega, by omega, by omega, ?_⟩
  rw [bits_join .u64 64 (by decide) (fun n h1 h2 => wrapU64_eq h1 (by omega)) 32 _ _ (by omega) (by omega) (by omega) (by omega) (by omega) (by omega)]
  omega
set_option maxRecDepth 100000 in
set_option maxHeartbeats 4000000 in
theorem ref_Near {N : Nat} {A : Option Addr} {c : Nat} {e : Int} {w : World} (hR : Rd w A c (Nv.words N)) (hs : (Nv.words N).length ≤ 20000) (he : -100000 ≤ e ∧ e ≤ 100000) :
    Calls Tryz.prog 142 #[.slice A (Nv.words N).length c, .int .i64 e] w fun x w' => x = .returned (.float .f64 (Ieee.double.nearest false N e)) ∧ Below w.heap.size w w' := by
  have hB := Far.mk (cBits hR (by omega))
  obtain ⟨n, hn⟩ : ∃ n, bitN N = n := ⟨_, rfl⟩
  rw [hn] at hB
  have hnl : n ≤ 32 * 20000 := by
    rcases Nat.lt_or_ge (32 * 20000) n with g | g
    · exfalso
      have h0 : N ≠ 0 := by
        rintro rfl
        rw [show bitN 0 = 0 from rfl] at hn
        omega
      have h1 := bitN_le h0
      rw [hn] at h1
      have h2 := lt_len N
      have h3 : (4294967296 : Nat) ^ (Nv.words N).length ≤ 2 ^ (n - 1) := by
        rw [show (4294967296 : Nat) = 2 ^ 32 from rfl, ← Nat.pow_mul]
        exact Nat.pow_le_pow_right (by decide) (by omega)
      omega
    · exact g
  rcases Nat.eq_zero_or_pos N with rfl | hN0
  · rw [show bitN 0 = 0 from rfl] at hn
    subst hn
    rw [nearest_zero]
    go_enter Tryz.func142, Tryz.ntmps142
    go_wp2_with (go_at_call 133; go_must (with_reducible refine hB.out.mono ?_); rintro x w3 ⟨rfl, hb3⟩)
    go_ret
    exact ⟨rfl, hb3⟩
  have hlog := bit_log hN0
  rw [hn] at hlog
  by_cases c1 : 1024 < (n : Int) + e
  · rw [nearest_inf hN0 e (by omega)]
    go_enter Tryz.func142, Tryz.ntmps142
    go_wp2_with (first
      | (go_at_call 133; go_must (with_reducible refine hB.out.mono ?_); rintro x w3 ⟨rfl, hb3⟩)
      | (go_at_call 140; refine (math_Inf1 _).mono ?_; rintro x w' ⟨rfl, rfl⟩))
    go_ret
    exact ⟨rfl, hb3⟩
  obtain ⟨last, hlast⟩ : ∃ last, last = max (e + N.log2 - 52) (-1074) := ⟨_, rfl⟩
  obtain ⟨cut, hcut⟩ : ∃ cut, last - e = cut := ⟨_, rfl⟩
  have hlw : -1074 ≤ last ∧ last ≤ 100000 := by omega
  -- the cut as the code has it
  have hc1 : (n : Int) - 53 + e < -1074 → cut = -1074 - e := by omega
  have hc2 : -1074 ≤ (n : Int) - 53 + e → cut = (n : Int) - 53 := by omega
  by_cases c3 : (n : Int) + 1 < cut
  · have hz : Ieee.double.nearest false N e = 0 := near_nought hN0 (by omega)
    rw [hz]
    have hc4 := hc1 (by omega)
    subst hc4
    clear hc1 hc2 hcut
    go_enter Tryz.func142, Tryz.ntmps142
    go_wp2_with (go_at_call 133; go_must (with_reducible refine hB.out.mono ?_); rintro x w3 ⟨rfl, hb3⟩)
    go_ret
    exact ⟨rfl, hb3⟩
  by_cases c2 : cut ≤ 0
  · have hN53 : N < 9007199254740992 := by
      have h1 : N < 2 ^ (N.log2 + 1) := Nat.lt_log2_self
      have h2 : 2 ^ (N.log2 + 1) ≤ 2 ^ 53 := Nat.pow_le_pow_right (by decide) (by omega)
      rw [show (2 : Nat) ^ 53 = 9007199254740992 by decide] at h2
      omega
    have hLd := fun W => Far.mk (math_Ldexp (w := W) (m := N) (by omega) rfl (E := e) (by omega) (by omega))
    have hNm := fun (W : World) (hb : Below w.heap.size w W) => Far.mk (cNorm (W := W) (hR.below hb) (by omega))
    have hg := words_get N
    have hlt := lt_len N
    obtain ⟨L, hL⟩ : ∃ L, (Nv.words N).length = L := ⟨_, rfl⟩
    rw [hL] at hlt hB hs ⊢
    have hstart : Ieee.double.nearest false (N / 4294967296 ^ L) 0 = 0 := by rw [Nat.div_eq_of_lt hlt, nearest_zero]
    have hn0 : ((n : Int) == 0) = false := beq_eq_false_iff_ne.2 (by omega)
    have e32 : (4751297606875873280 : Nat) = Ieee.double.nearest false 4294967296 0 := by decide +kernel
    replace hg := Far.mk hg
    replace hstart := Far.mk hstart
    go_enter Tryz.func142, Tryz.ntmps142
    by_cases g1 : (n : Int) - 53 + e < -1074
    all_goals
      first | (have p1 : -1074 - e ≤ 0 := (by have := hc1 g1; omega)) | (have p1 : (n : Int) - 53 ≤ 0 := (by have := hc2 (by omega); omega))
      clear hc1 hc2 hlog hlast hcut hlt
      go_wp2_with (first
        | (go_at_call 133; go_must (with_reducible refine hB.out.mono ?_); rintro x w3 ⟨rfl, hb3⟩))
      have hNm3 := hNm _ hb3
      rw [hL] at hNm3
      refine hNm3.out.mono ?_
      rintro x w4 ⟨v4, rfl, hu4, hb4⟩
      obtain ⟨A4, c4, rfl, hR4⟩ := hu4.rd
      rw [hL]
      have hbw4 := hb3.trans (hb4.mono hb3.size)
      clear hNm hNm3 hu4 hb3 hb4 hB hR
      go_wp2_with fail
      go_loopw [7, 9] (fun m i wr => ∃ (j : Nat), j ≤ L ∧ i = .int .i64 ((j : Int) - 1) ∧ m = .float .f64 (Ieee.double.nearest false (N / 4294967296 ^ j) 0) ∧ wr = w4) (fun _ i _ => (intOf i + 1).toNat)
      case atStart => exact ⟨L, Nat.le_refl _, rfl, by rw [hstart.out], rfl⟩
      case round =>
        obtain ⟨j, hj, rfl, rfl, rfl⟩ := hrel
        cases j with
        | zero =>
          rw [Nat.pow_zero, Nat.div_one]
          go_wp2_with fail
          refine ((hLd _).out).mono ?_
          rintro x w9 ⟨rfl, rfl⟩
          go_wp2_with fail
          go_ret
          exact ⟨rfl, hbw4⟩
        | succ j =>
          obtain ⟨ad, rfl, x, hx, hc⟩ := hR4.get (j := j) (by omega)
          rw [hg.out] at hx
          obtain ⟨M, hM⟩ : ∃ M, N / 4294967296 ^ j = M := ⟨_, rfl⟩
          have hM2 : N / 4294967296 ^ (j + 1) = M / 4294967296 := by rw [Nat.pow_succ, ← Nat.div_div_eq_div_mul, hM]
          have hMl : M ≤ N := by rw [← hM]; exact Nat.div_le_self _ _
          rw [hM] at hx
          rw [hM2]
          have r1 := run_fmul (mul_fl (a := M / 4294967296) (b := 4294967296) (by omega) (by decide))
          have r2 := run_fadd (add_fl (a := M / 4294967296 * 4294967296) (b := M % 4294967296) (by omega) (by omega))
          rw [← e32] at r1
          rw [show M / 4294967296 * 4294967296 + M % 4294967296 = M by omega] at r2
          have hfi := fl_int (M % 4294967296)
          rw [← hx] at hfi
          obtain ⟨F0, hF0⟩ : ∃ F, Ieee.double.nearest false (M / 4294967296) 0 = F := ⟨_, rfl⟩
          obtain ⟨F1, hF1⟩ : ∃ F, Ieee.double.nearest false (M / 4294967296 * 4294967296) 0 = F := ⟨_, rfl⟩
          obtain ⟨F2, hF2⟩ : ∃ F, Ieee.double.nearest false (M % 4294967296) 0 = F := ⟨_, rfl⟩
          obtain ⟨F3, hF3⟩ : ∃ F, Ieee.double.nearest false M 0 = F := ⟨_, rfl⟩
          rw [hF0] at r1 ⊢
          rw [hF1] at r1 r2
          rw [hF2] at r2 hfi
          rw [hF3] at r2
          have hx2 : 0 ≤ x ∧ x < 4294967296 := by omega
          replace hF3 := Far.mk hF3
          replace hM := Far.mk hM
          clear hx hF0 hF1 hF2 hM2 e32 hLd hMl
          go_wp2
          go_roundw
          case rel => exact ⟨j, by omega, by go_num, by rw [hM.out, hF3.out], by first | rfl | trivial⟩
          case measure => simp [intOf] <;> omega
  · have hcn := cut_shr (N := N) (c := cut.toNat) (by omega)
    obtain ⟨k, hk⟩ : ∃ k : Nat, cut = (k : Int) + 1 := ⟨(cut - 1).toNat, by omega⟩
    subst hk
    rw [show ((k : Int) + 1).toNat = k + 1 by omega, Nat.add_sub_cancel] at hcn
    have hcn2 := (show Ieee.Toward.even.cut false N (last - e).toNat = Ieee.Toward.even.cut false N (k + 1) by rw [show (last - e).toNat = k + 1 by omega]).trans hcn
    have hne := near_even hN0 hlast (by omega) hcn2
    have hq53 := (even_facts hN0 hlast (by omega) hcn2).1
    rw [← hne, show last = e + ((k : Int) + 1) by omega]
    have hS1 := Far.mk (fun (W : World) (hb : Below w.heap.size w W) => cShr (W := W) (k := k + 1) (K := (k : Int) + 1) (by omega) (hR.below hb) (by omega) (by omega))
    have hS2 := Far.mk (fun (W : World) (hb : Below w.heap.size w W) => cShr (W := W) (k := k) (K := (k : Int)) (by omega) (hR.below hb) (by omega) (by omega))
    clear hcn hcn2 hne hR hN0
    -- the tests of the last place
    obtain ⟨q, hq⟩ : ∃ q, N / 2 ^ (k + 1) = q := ⟨_, rfl⟩
    obtain ⟨h, hh⟩ : ∃ h, N / 2 ^ k = h := ⟨_, rfl⟩
    have hqh : q = h / 2 := by rw [← hq, ← hh, Nat.div_div_eq_div_mul, Nat.pow_succ]
    have hmore : lost N k = decide (N % 2 ^ k ≠ 0) := rfl
    obtain ⟨b, hb⟩ : ∃ b, lost N k = b := ⟨_, rfl⟩
    rw [hb] at hS2 hmore
    rw [hq] at hS1 hq53 ⊢
    rw [hh] at hS2 hq53 ⊢
    obtain ⟨u, hu⟩ : ∃ u, (if h % 2 = 1 ∧ (N % 2 ^ k ≠ 0 ∨ q % 2 = 1) then 1 else 0) = u := ⟨_, rfl⟩
    rw [hu] at hq53 ⊢
    have hbt : b = true → N % 2 ^ k ≠ 0 := fun g => by rw [hmore] at g; simpa using g
    have hbf : b = false → ¬ N % 2 ^ k ≠ 0 := fun g => by rw [hmore] at g; simpa using g
    have u1 : h % 2 = 1 → b = true → u = 1 := fun a g => by rw [← hu, if_pos ⟨a, .inl (hbt g)⟩]
    have u2 : h % 2 = 0 → u = 0 := fun a => by rw [← hu, if_neg (by omega)]
    have u3 : q % 2 = 0 → b = false → u = 0 := fun a g => by rw [← hu, if_neg (fun x => by rcases x.2 with y | y; exact hbf g y; omega)]
    have u4 : h % 2 = 1 → q % 2 = 1 → u = 1 := fun a g => by rw [← hu, if_pos ⟨a, .inr g⟩]
    clear hmore hb hq hh hbt hbf hu
    have hql : (Nv.words q).length ≤ 2 := words_len (by omega)
    have hhl : (Nv.words h).length ≤ 2 := words_len (by omega)
    have gq := words_get q 0
    have gh := words_get h 0
    have lq := words_len_zero (n := q)
    have lh := words_len_zero (n := h)
    rw [Nat.pow_zero, Nat.div_one] at gq gh
    obtain ⟨Lq, hLq⟩ : ∃ L, (Nv.words q).length = L := ⟨_, rfl⟩
    obtain ⟨Lh, hLh⟩ : ∃ L, (Nv.words h).length = L := ⟨_, rfl⟩
    rw [hLq] at hql lq
    rw [hLh] at hhl lh
    have hsN : ∃ L, (Nv.words N).length = L := ⟨_, rfl⟩
    obtain ⟨LN, hLN⟩ := hsN
    rw [hLN] at hB hS1 hS2 hs ⊢
    have hlen : Lh = 0 → Lq = 0 := fun g => lq.2 (by have := lh.1 g; omega)
    have hn0 : ((n : Int) == 0) = false := beq_eq_false_iff_ne.2 (by omega)
    clear hlog hlast hcut hqh
    go_enter Tryz.func142, Tryz.ntmps142
    by_cases g1 : (n : Int) - 53 + e < -1074
    all_goals
      first | (have g2 := Far.mk (hc1 g1); have p1 : ¬ -1074 - e ≤ 0 := (by have := g2.out; omega); have p2 : ¬ (n : Int) + 1 < -1074 - e := (by have := g2.out; omega)) | (have g2 := Far.mk (hc2 (by omega)); have p1 : ¬ (n : Int) - 53 ≤ 0 := (by have := g2.out; omega); have p2 : ¬ (n : Int) + 1 < (n : Int) - 53 := (by have := g2.out; omega))
      clear hc1 hc2
      go_wp2_with (first
        | (go_at_call 133; go_must (with_reducible refine hB.out.mono ?_); rintro x w3 ⟨rfl, hb3⟩))
      rw [← g2.out]
      refine (hS1.out _ hb3).mono ?_
      rintro x w4 ⟨v4, rfl, hu4, hb4⟩
      obtain ⟨A4, c4, rfl, hR4⟩ := hu4.rd
      rw [hLq]
      have hbw4 := hb3.trans (hb4.mono hb3.size)
      have hs3 := hb3.size
      have hs4 := hb4.size
      go_wp2_with fail
      with_reducible refine (hS2.out _ hbw4).mono ?_
      rintro x w5 ⟨v5, rfl, hu5, hb5⟩
      obtain ⟨A5, c5, rfl, hR5⟩ := hu5.rd
      rw [hLh]
      have hbw5 := hbw4.trans (hb5.mono (by omega))
      replace hR4 := hR4.below hb5
      have hs5 := hb5.size
      clear hS1 hS2 hB hu4 hu5 hb3 hb4 hb5
      have hR4' := Far.mk hR4
      by_cases k0 : Lh = 0
      · have k1 := hlen k0
        have u0 := u2 (by have := lh.1 k0; omega)
        subst k0
        subst k1
        subst u0
        clear hlen u1 u2 u3 u4 lh lq hR4 hR5 hhl
        go_wp2_with fail
        obtain ⟨x0, x1, w0, w1, b0, b1, b2, b3, hor⟩ := two_words (q := q) (by omega)
        have hfi := fl_int (q)
        have hLd := fun W => Far.mk (math_Ldexp (w := W) (m := q) hq53 rfl (E := e + ((k : Int) + 1)) (by have := g2.out; omega) (by have := g2.out; omega))
        refine (ref_word 1 x1 w1 rfl hLq hR4'.out (isW_words _)).mono ?_
        rintro x w7 ⟨rfl, rfl⟩
        go_wp2_with fail
        refine (ref_word 0 x0 w0 rfl hLq hR4'.out (isW_words _)).mono ?_
        rintro x w8 ⟨rfl, rfl⟩
        clear w0 w1
        go_wp2_with fail
        refine ((hLd _).out).mono ?_
        rintro x w9 ⟨rfl, rfl⟩
        go_wp2_with fail
        go_ret
        exact ⟨rfl, hbw5⟩
      · obtain ⟨ad5, rfl, x5, hx5, hc5⟩ := hR5.get (j := 0) (by omega)
        rw [gh] at hx5
        have hc5' := hc5
        rw [add_nought] at hc5'
        have hand5 : bits .and .u32 x5 1 = ((h % 2 : Nat) : Int) := by rw [hx5, and_one32 (by omega) (by omega)]; omega
        rcases Nat.mod_two_eq_zero_or_one h with m5 | m5
        · have u0 := u2 m5
          subst u0
          rw [m5] at hand5
          clear hlen u1 u2 u3 u4 lh lq hR4 hR5 hx5 gh
          go_wp2_with fail
          obtain ⟨x0, x1, w0, w1, b0, b1, b2, b3, hor⟩ := two_words (q := q) (by omega)
          have hfi := fl_int (q)
          have hLd := fun W => Far.mk (math_Ldexp (w := W) (m := q) hq53 rfl (E := e + ((k : Int) + 1)) (by have := g2.out; omega) (by have := g2.out; omega))
          refine (ref_word 1 x1 w1 rfl hLq hR4'.out (isW_words _)).mono ?_
          rintro x w7 ⟨rfl, rfl⟩
          go_wp2_with fail
          refine (ref_word 0 x0 w0 rfl hLq hR4'.out (isW_words _)).mono ?_
          rintro x w8 ⟨rfl, rfl⟩
          clear w0 w1
          go_wp2_with fail
          refine ((hLd _).out).mono ?_
          rintro x w9 ⟨rfl, rfl⟩
          go_wp2_with fail
          go_ret
          exact ⟨rfl, hbw5⟩
        · rw [m5] at hand5
          clear hR5 hx5 gh
          cases b with
          | true =>
            have u0 := u1 m5 rfl
            subst u0
            clear hlen u1 u2 u3 u4 lh lq hR4
            go_wp2_with fail
            rw [show (1 : Int) = 1 from rfl]
            refine (ref_Plus (m := [1]) hLq rfl (hR4'.out.below ((Below.refl _ _).alloc (Nat.le_refl _) _)) (isW_words _) (by omega) (Rd.one _ _) (IsW.one (by decide) (by decide)) (by simp)).mono ?_
            rintro x w6 ⟨v6, rfl, hu6, hb6⟩
            rw [nv_words, show nv [1] = 1 from rfl] at hu6
            obtain ⟨Q, hQ⟩ : ∃ Q, q + 1 = Q := ⟨_, rfl⟩
            rw [hQ] at hu6 hq53
            have hbw6 : Below w.heap.size w w6 := (hbw5.alloc (by omega) _).trans (hb6.mono (by simp; omega))
            obtain ⟨A6, c6, rfl, hR6⟩ := hu6.rd
            clear hu6 hb6 hbw5 hR4'
            go_wp2_with fail
            obtain ⟨x0, x1, w0, w1, b0, b1, b2, b3, hor⟩ := two_words (q := Q) (by omega)
            have hfi := fl_int Q
            have hLd := fun W => Far.mk (math_Ldexp (w := W) (m := Q) hq53 rfl (E := e + ((k : Int) + 1)) (by have := g2.out; omega) (by have := g2.out; omega))
            refine (ref_word 1 x1 w1 rfl rfl hR6 (isW_words _)).mono ?_
            rintro x w7 ⟨rfl, rfl⟩
            go_wp2_with fail
            refine (ref_word 0 x0 w0 rfl rfl hR6 (isW_words _)).mono ?_
            rintro x w8 ⟨rfl, rfl⟩
            clear w0 w1
            go_wp2_with fail
            refine ((hLd _).out).mono ?_
            rintro x w9 ⟨rfl, rfl⟩
            go_wp2_with fail
            go_ret
            subst hQ
            exact ⟨rfl, hbw6⟩
          | false =>
            by_cases k1 : Lq = 0
            · have u0 := u3 (by have := lq.1 k1; omega) rfl
              subst u0
              subst k1
              clear hlen u1 u2 u3 u4 lh lq hR4
              go_wp2_with fail
              obtain ⟨x0, x1, w0, w1, b0, b1, b2, b3, hor⟩ := two_words (q := q) (by omega)
              have hfi := fl_int (q)
              have hLd := fun W => Far.mk (math_Ldexp (w := W) (m := q) hq53 rfl (E := e + ((k : Int) + 1)) (by have := g2.out; omega) (by have := g2.out; omega))
              refine (ref_word 1 x1 w1 rfl hLq hR4'.out (isW_words _)).mono ?_
              rintro x w7 ⟨rfl, rfl⟩
              go_wp2_with fail
              refine (ref_word 0 x0 w0 rfl hLq hR4'.out (isW_words _)).mono ?_
              rintro x w8 ⟨rfl, rfl⟩
              clear w0 w1
              go_wp2_with fail
              refine ((hLd _).out).mono ?_
              rintro x w9 ⟨rfl, rfl⟩
              go_wp2_with fail
              go_ret
              exact ⟨rfl, hbw5⟩
            · obtain ⟨ad4, rfl, x4, hx4, hc4⟩ := hR4.get (j := 0) (by omega)
              rw [gq] at hx4
              have hc4' := hc4
              rw [add_nought] at hc4'
              have hand4 : bits .and .u32 x4 1 = ((q % 2 : Nat) : Int) := by rw [hx4, and_one32 (by omega) (by omega)]; omega
              rcases Nat.mod_two_eq_zero_or_one q with m4 | m4
              · have u0 := u3 m4 rfl
                subst u0
                rw [m4] at hand4
                clear hlen u1 u2 u3 u4 lh lq hR4 hx4
                go_wp2_with fail
                obtain ⟨x0, x1, w0, w1, b0, b1, b2, b3, hor⟩ := two_words (q := q) (by omega)
                have hfi := fl_int (q)
                have hLd := fun W => Far.mk (math_Ldexp (w := W) (m := q) hq53 rfl (E := e + ((k : Int) + 1)) (by have := g2.out; omega) (by have := g2.out; omega))
                refine (ref_word 1 x1 w1 rfl hLq hR4'.out (isW_words _)).mono ?_
                rintro x w7 ⟨rfl, rfl⟩
                go_wp2_with fail
                refine (ref_word 0 x0 w0 rfl hLq hR4'.out (isW_words _)).mono ?_
                rintro x w8 ⟨rfl, rfl⟩
                clear w0 w1
                go_wp2_with fail
                refine ((hLd _).out).mono ?_
                rintro x w9 ⟨rfl, rfl⟩
                go_wp2_with fail
                go_ret
                exact ⟨rfl, hbw5⟩
              · have u0 := u4 m5 m4
                subst u0
                rw [m4] at hand4
                clear hlen u1 u2 u3 u4 lh lq hR4 hx4
                go_wp2_with fail
                rw [show (1 : Int) = 1 from rfl]
                refine (ref_Plus (m := [1]) hLq rfl (hR4'.out.below ((Below.refl _ _).alloc (Nat.le_refl _) _)) (isW_words _) (by omega) (Rd.one _ _) (IsW.one (by decide) (by decide)) (by simp)).mono ?_
                rintro x w6 ⟨v6, rfl, hu6, hb6⟩
                rw [nv_words, show nv [1] = 1 from rfl] at hu6
                obtain ⟨Q, hQ⟩ : ∃ Q, q + 1 = Q := ⟨_, rfl⟩
                rw [hQ] at hu6 hq53
                have hbw6 : Below w.heap.size w w6 := (hbw5.alloc (by omega) _).trans (hb6.mono (by simp; omega))
                obtain ⟨A6, c6, rfl, hR6⟩ := hu6.rd
                clear hu6 hb6 hbw5 hR4'
                go_wp2_with fail
                obtain ⟨x0, x1, w0, w1, b0, b1, b2, b3, hor⟩ := two_words (q := Q) (by omega)
                have hfi := fl_int Q
                have hLd := fun W => Far.mk (math_Ldexp (w := W) (m := Q) hq53 rfl (E := e + ((k : Int) + 1)) (by have := g2.out; omega) (by have := g2.out; omega))
                refine (ref_word 1 x1 w1 rfl rfl hR6 (isW_words _)).mono ?_
                rintro x w7 ⟨rfl, rfl⟩
                go_wp2_with fail
                refine (ref_word 0 x0 w0 rfl rfl hR6 (isW_words _)).mono ?_
                rintro x w8 ⟨rfl, rfl⟩
                clear w0 w1
                go_wp2_with fail
                refine ((hLd _).out).mono ?_
                rintro x w9 ⟨rfl, rfl⟩
                go_wp2_with fail
                go_ret
                subst hQ
                exact ⟨rfl, hbw6⟩
end Us
end Go.Proofs.YtelgobelbeabaaaGreatDoor
namespace Go.Proofs.YtelgobelbeabaaaGreatDoor
open Go.RowKit
namespace Us
open Nv
attribute [local go_sem] run_Float64bits

theorem mant_lt (r : Nat) : mantOf r < 9007199254740992 := by unfold mantOf; split <;> omega
theorem or_bit {a : Int} (h0 : 0 ≤ a) (h1 : a < 4503599627370496) : bits .or .u64 a 4503599627370496 = 4503599627370496 + a := by
  have h := or_exp (t := 1) h0 h1 (by decide) (by decide)
  rw [Int.one_mul] at h
  exact h
theorem and_one64 {x : Nat} (h : x < 9223372036854775808) : bits .and .u64 (x : Int) 1 = ((x % 2 : Nat) : Int) := by
  have h := bits_mask .u64 64 (by decide) (fun n h1 h2 => wrapU64_eq h1 (by omega)) 1 (by decide) (x : Int) (by omega) (by omega)
  rw [show ((2 : Int) ^ 1 - 1) = 1 by decide, show ((2 : Int) ^ 1) = 2 by decide] at h
  rw [h]
  omega
set_option maxRecDepth 100000 in
theorem ref_Parts {r : Nat} (h1 : 1 ≤ r) (h2 : r < infR) (w : World) : Calls Tryz.prog 136 #[.float .f64 r] w fun x w' =>
    ∃ (m t : Nat) (v : Value), x = .returned (.tuple #[v, .int .i64 ((kOf r : Int) - 1074 + (t : Int)), .int .i64 0]) ∧ mantOf r = m * 2 ^ t ∧ U w' w.heap.size v (Nv.words m) ∧ Below w.heap.size w w' := by
  have o1 : FloatKind.f64.format.order r 0 = some .gt := (order_rung h2 (by decide)).trans (by rw [Nat.compare_eq_gt.2 (by omega)])
  have o3 : FloatKind.f64.format.order r r = some .eq := (order_rung h2 h2).trans (by rw [Nat.compare_eq_eq.2 rfl])
  have hnan : nanB r = false := by unfold nanB; rw [o3]; rfl
  have hr : r < 9218868437227405312 := h2
  have hand : bits .and .u64 (r : Int) 4503599627370495 = ((r % 4503599627370496 : Nat) : Int) := by
    have h := bits_mask .u64 64 (by decide) (fun n h1 h2 => wrapU64_eq h1 (by omega)) 52 (by decide) (r : Int) (by omega) (by omega)
    rw [show ((2 : Int) ^ 52 - 1) = 4503599627370495 by decide, show ((2 : Int) ^ 52) = 4503599627370496 by decide] at h
    rw [h]
    omega
  have hor := or_bit (a := ((r % 4503599627370496 : Nat) : Int)) (by omega) (by omega)
  have hdiv : (r : Int) / 4503599627370496 = ((r / 4503599627370496 : Nat) : Int) := by omega
  obtain ⟨f, hf⟩ : ∃ f, r % 4503599627370496 = f := ⟨_, rfl⟩
  obtain ⟨b, hb⟩ : ∃ b, r / 4503599627370496 = b := ⟨_, rfl⟩
  rw [hf] at hand hor
  rw [hb] at hdiv
  have hb2 : b ≤ 2046 := by omega
  have hf2 : f < 4503599627370496 := by omega
  have hmp := mant_pos h1
  have hml := mant_lt r
  by_cases hb0 : b = 0
  · have hm : mantOf r = f := by unfold mantOf; rw [if_pos (by omega)]; omega
    have hk : kOf r = 0 := by unfold kOf; omega
    rw [hm] at hmp hml
    rw [hk, hm]
    subst hb0
    clear hm hk hor hf hb
    go_enter Tryz.func136, Tryz.ntmps136
    go_wp2_with (first
      | (go_at_call 59; refine (math_IsInf h2).mono ?_; rintro e w' ⟨rfl, rfl⟩)
      | (go_at_call 56; refine (math_IsNaN r _).mono ?_; rintro e w' ⟨rfl, rfl⟩; rw [hnan]))
    go_loopw [6, 7] (fun x e wr => ∃ (m t : Nat), x = .int .u64 m ∧ e = .int .i64 (-1074 + (t : Int)) ∧ Far (f = m * 2 ^ t) ∧ 0 < m ∧ m < 9007199254740992 ∧ t + m ≤ f ∧ wr = w') (fun x _ _ => (intOf x).toNat)
    case atStart => exact ⟨f, 0, rfl, by simp, ⟨by simp⟩, hmp, by omega, by omega, rfl⟩
    case round =>
      obtain ⟨m, t, rfl, rfl, hv, hm0, hml2, htm, rfl⟩ := hrel
      have ha := and_one64 (x := m) (by omega)
      by_cases hm2 : m % 2 = 0
      · rw [hm2] at ha
        go_wp2
        go_roundw
        case rel => exact ⟨m / 2, t + 1, by go_num, by go_num, ⟨by rw [Nat.pow_succ, Nat.mul_comm (2 ^ t), ← Nat.mul_assoc, show m / 2 * 2 = m by omega]; exact hv.out⟩, by omega, by omega, by omega, by first | rfl | trivial⟩
        case measure => simp [intOf]; omega
      · rw [show m % 2 = 1 by omega] at ha
        have hO := Far.mk (ref_Of (x := (m : Int)) (by omega) (by omega) wr)
        rw [Int.toNat_natCast] at hO
        go_wp2_with (go_at_call 144; go_must (with_reducible refine hO.out.mono ?_); rintro e w3 ⟨v3, rfl, hu3, hb3⟩)
        go_ret3
        exact ⟨m, t, v3, by simp, hv.out, hu3, hb3⟩
  · have hm : mantOf r = 4503599627370496 + f := by unfold mantOf; rw [if_neg (by omega)]; omega
    have hk : ((kOf r : Nat) : Int) - 1074 = (b : Int) - 1075 := by unfold kOf; omega
    rw [hm] at hmp hml
    rw [hk, hm]
    clear hm hk hf hb
    go_enter Tryz.func136, Tryz.ntmps136
    go_wp2_with (first
      | (go_at_call 59; refine (math_IsInf h2).mono ?_; rintro e w' ⟨rfl, rfl⟩)
      | (go_at_call 56; refine (math_IsNaN r _).mono ?_; rintro e w' ⟨rfl, rfl⟩; rw [hnan]))
    go_loopw [6, 7] (fun x e wr => ∃ (m t : Nat), x = .int .u64 m ∧ e = .int .i64 ((b : Int) - 1075 + (t : Int)) ∧ Far (4503599627370496 + f = m * 2 ^ t) ∧ 0 < m ∧ m < 9007199254740992 ∧ t + m ≤ 4503599627370496 + f ∧ wr = w') (fun x _ _ => (intOf x).toNat)
    case atStart => exact ⟨4503599627370496 + f, 0, by go_num, by simp, ⟨by simp⟩, by omega, by omega, by omega, rfl⟩
    case round =>
      obtain ⟨m, t, rfl, rfl, hv, hm0, hml2, htm, rfl⟩ := hrel
      have ha := and_one64 (x := m) (by omega)
      by_cases hm2 : m % 2 = 0
      · rw [hm2] at ha
        go_wp2
        go_roundw
        case rel => exact ⟨m / 2, t + 1, by go_num, by go_num, ⟨by rw [Nat.pow_succ, Nat.mul_comm (2 ^ t), ← Nat.mul_assoc, show m / 2 * 2 = m by omega]; exact hv.out⟩, by omega, by omega, by omega, by first | rfl | trivial⟩
        case measure => simp [intOf]; omega
      · rw [show m % 2 = 1 by omega] at ha
        have hO := Far.mk (ref_Of (x := (m : Int)) (by omega) (by omega) wr)
        rw [Int.toNat_natCast] at hO
        go_wp2_with (go_at_call 144; go_must (with_reducible refine hO.out.mono ?_); rintro e w3 ⟨v3, rfl, hu3, hb3⟩)
        go_ret3
        exact ⟨m, t, v3, by simp, hv.out, hu3, hb3⟩
end Us
end Go.Proofs.YtelgobelbeabaaaGreatDoor
namespace Go.Proofs.YtelgobelbeabaaaGreatDoor
open Go.RowKit
namespace Us
open Nv

/-- A fraction that is no longer than may be. -/
structure FracS (r P D : Nat) (p : Int) : Prop where
  frac : Frac r P D (-p)
  one : 1 ≤ P
  sP : P < 2 ^ (1100 + 4 * p.toNat)
  sD : D < 2 ^ (1100 + 4 * (-p).toNat)
theorem ten_le (k : Nat) : 10 ^ k ≤ 2 ^ (4 * k) := by
  rw [Nat.pow_mul]
  exact Nat.pow_le_pow_left (by decide) k
theorem frac_of {r m t P D : Nat} {e p : Int} (h1 : 1 ≤ r) (h2 : r < infR) (hm : mantOf r = m * 2 ^ t) (he : (kOf r : Int) - 1074 + (t : Int) = e) (hP : P = m * 2 ^ e.toNat * 10 ^ p.toNat) (hD : D = 2 ^ (-e).toNat * 10 ^ (-p).toNat) : FracS r P D p := by
  have hmp := mant_pos h1
  have hml := mant_lt r
  have hm0 : 0 < m := by
    rcases Nat.eq_zero_or_pos m with h | h
    · rw [h, Nat.zero_mul] at hm
      omega
    · exact h
  have hmle : m ≤ mantOf r := by rw [hm]; exact Nat.le_mul_of_pos_right _ (Nat.two_pow_pos t)
  have htl : t < 53 := by
    rcases Nat.lt_or_ge t 53 with h | h
    · exact h
    · have a : 2 ^ 53 ≤ 2 ^ t := Nat.pow_le_pow_right (by decide) h
      have b : 2 ^ t ≤ m * 2 ^ t := Nat.le_mul_of_pos_left _ hm0
      rw [show (2 : Nat) ^ 53 = 9007199254740992 by decide] at a
      omega
  have hk : kOf r ≤ 2045 := by unfold kOf infR at *; omega
  subst hP
  subst hD
  refine ⟨⟨Nat.mul_pos (Nat.two_pow_pos _) (Nat.pow_pos (by decide)), ?_⟩, Nat.mul_pos (Nat.mul_pos hm0 (Nat.two_pow_pos _)) (Nat.pow_pos (by decide)), ?_, ?_⟩
  · obtain ⟨T, hT⟩ : ∃ T : Nat, T = 1074 := ⟨_, rfl⟩
    rw [val_eq, hm, tiny_pow hT]
    have e1 : hiP (-p) = 10 ^ (-p).toNat := rfl
    have e2 : loQ (-p) = 10 ^ p.toNat := by unfold loQ; rw [Int.neg_neg]
    rw [e1, e2]
    have e3 : 2 ^ e.toNat * 2 ^ T = 2 ^ (-e).toNat * (2 ^ t * 2 ^ kOf r) := by
      rw [← Nat.pow_add, ← Nat.pow_add, ← Nat.pow_add]
      congr 1
      omega
    generalize 10 ^ p.toNat = X
    generalize 10 ^ (-p).toNat = Y
    have e4 : m * 2 ^ e.toNat * X * (2 ^ T * Y) = (2 ^ e.toNat * 2 ^ T) * (m * X * Y) := by
      generalize 2 ^ e.toNat = a
      generalize 2 ^ T = b
      ac_rfl
    have e5 : 2 ^ (-e).toNat * Y * (m * 2 ^ t * 2 ^ kOf r * X) = 2 ^ (-e).toNat * (2 ^ t * 2 ^ kOf r) * (m * X * Y) := by
      generalize 2 ^ (-e).toNat = a
      generalize 2 ^ t = b
      generalize 2 ^ kOf r = c
      ac_rfl
    rw [e4, e5, e3]
  · have a := ten_le p.toNat
    obtain ⟨T, hT⟩ : ∃ T : Nat, T = 1100 := ⟨_, rfl⟩
    rw [← hT]
    have b : m * 2 ^ e.toNat < 2 ^ T := by
      have h3 : m < 2 ^ 53 := by rw [show (2 : Nat) ^ 53 = 9007199254740992 by decide]; omega
      have h4 := Nat.mul_lt_mul_of_pos_right h3 (Nat.two_pow_pos e.toNat)
      rw [← Nat.pow_add] at h4
      exact Nat.lt_of_lt_of_le h4 (Nat.pow_le_pow_right (by decide) (by omega))
    rw [Nat.pow_add]
    exact Nat.lt_of_le_of_lt (Nat.mul_le_mul_left _ a) (Nat.mul_lt_mul_of_pos_right b (Nat.two_pow_pos _))
  · have a := ten_le (-p).toNat
    obtain ⟨T, hT⟩ : ∃ T : Nat, T = 1100 := ⟨_, rfl⟩
    rw [← hT]
    have b : 2 ^ (-e).toNat < 2 ^ T := Nat.pow_lt_pow_right (by decide) (by omega)
    rw [Nat.pow_add]
    exact Nat.lt_of_le_of_lt (Nat.mul_le_mul_left _ a) (Nat.mul_lt_mul_of_pos_right b (Nat.two_pow_pos _))
theorem FracS.lens {r P D : Nat} {p : Int} (h : FracS r P D p) (hp : -1000 ≤ p ∧ p ≤ 1000) : (Nv.words P).length ≤ 200 ∧ (Nv.words D).length ≤ 200 := ⟨len_pow h.sP (by omega), len_pow h.sD (by omega)⟩
/-- What scaled tells. -/
def ScaledQ (r : Nat) (p : Int) (w : World) (x : Ending) (w' : World) : Prop := ∃ (P D : Nat) (v1 v2 : Value), x = .returned (.tuple #[v1, v2]) ∧ FracS r P D p ∧ U w' w.heap.size v1 (Nv.words P) ∧ U w' w.heap.size v2 (Nv.words D) ∧ Below w.heap.size w w'
set_option maxRecDepth 100000 in
theorem ref_scaled {r : Nat} {p : Int} (h1 : 1 ≤ r) (h2 : r < infR) (hp : -1000 ≤ p ∧ p ≤ 1000) (w : World) : Calls Tryz.prog 99 #[.float .f64 r, .int .i64 p] w (ScaledQ r p w) := by
  have hP := Far.mk (ref_Parts h1 h2 w)
  have hml := mant_lt r
  have hkl : kOf r ≤ 2045 := by unfold kOf infR at *; omega
  go_enter Tryz.func99, Tryz.ntmps99
  go_wp2_with fail
  go_at_call 136
  refine hP.out.mono ?_
  rintro x w3 ⟨m, t, v3, rfl, hm, hu3, hb3⟩
  have hfr := fun P D => frac_of (P := P) (D := D) (p := p) h1 h2 hm rfl
  have hmle : m ≤ mantOf r := by rw [hm]; exact Nat.le_mul_of_pos_right _ (Nat.two_pow_pos t)
  have hl3 : (Nv.words m).length ≤ 2 := words_len (by omega)
  have htl : t < 64 := by
    rcases Nat.lt_or_ge t 64 with h | h
    · exact h
    · have hmp := mant_pos h1
      have a : 2 ^ 64 ≤ 2 ^ t := Nat.pow_le_pow_right (by decide) h
      have hm0 : 0 < m := by
        rcases Nat.eq_zero_or_pos m with h | h
        · rw [h, Nat.zero_mul] at hm
          omega
        · exact h
      have b : 2 ^ t ≤ m * 2 ^ t := Nat.le_mul_of_pos_left _ hm0
      rw [show (2 : Nat) ^ 64 = 18446744073709551616 by decide] at a
      omega
  obtain ⟨e, he⟩ : ∃ e, (kOf r : Int) - 1074 + (t : Int) = e := ⟨_, rfl⟩
  rw [he] at hfr ⊢
  have heb : -1074 ≤ e ∧ e ≤ 1100 := by omega
  clear he hm hmle htl hml hkl hP h1 h2
  replace hfr := Far.mk hfr
  obtain ⟨A3, c3, rfl, hR3⟩ := hu3.rd
  have hu3' := hu3
  clear hu3
  have hs3 := hb3.size
  have w1 : Nv.words 1 = [1] := words_1
  have h64 : m < 2 ^ 64 := by
    have := lt_len m
    have h4 : (4294967296 : Nat) ^ (Nv.words m).length ≤ 4294967296 ^ 2 := Nat.pow_le_pow_right (by decide) hl3
    omega
  have hup : ∀ a k : Nat, a < 2 ^ 64 → k ≤ 1100 → (Nv.words (a * 2 ^ k)).length ≤ 40 := fun a k ha hk => by
    obtain ⟨b, hb⟩ : ∃ b : Nat, b = 1264 := ⟨_, rfl⟩
    refine len_pow (b := b) ?_ (by omega)
    have h5 := Nat.mul_lt_mul_of_pos_right ha (Nat.two_pow_pos k)
    rw [← Nat.pow_add] at h5
    exact Nat.lt_of_lt_of_le h5 (Nat.pow_le_pow_right (by decide) (by omega))
  replace hup := Far.mk hup
  obtain ⟨k, hk⟩ : ∃ k : Nat, k = e.natAbs := ⟨_, rfl⟩
  obtain ⟨z, hz⟩ : ∃ z : Nat, z = p.natAbs := ⟨_, rfl⟩
  have hten : (Nv.words (10 ^ z)).length ≤ 4000 := by have := pow_len z; omega
  by_cases g1 : 0 ≤ e
  · obtain rfl : e = (k : Int) := by omega
    clear hk
    go_wp2_with fail
    refine (cUp rfl (hR3.below ((Below.refl _ _).alloc (Nat.le_refl _) _)) (by omega) (by omega)).mono ?_
    rintro x w5 ⟨v5, rfl, hu5, hb5⟩
    have huD := (U.lit1 w3 1).keep hb5
    have hbw : Below w.heap.size w w5 := (hb3.alloc hs3 _).trans (hb5.mono (by simp; omega))
    replace huD := huD.lower hs3
    replace hu5 := hu5.lower (base' := w.heap.size) (by simp; omega)
    obtain ⟨A5, c5, rfl, hR5⟩ := hu5.rd
    have hl5 := hup.out m k h64 (by omega)
    obtain ⟨LN, hLN⟩ : ∃ L, (Nv.words (m * 2 ^ k)).length = L := ⟨_, rfl⟩
    rw [hLN] at hu5 hl5 ⊢
    obtain ⟨AD, cD, hDe, hRD⟩ := huD.rd
    cases hDe
    have hs5 := hbw.size
    clear hb3 hb5 hR3
    by_cases g2 : 0 ≤ p
    · obtain rfl : p = (z : Int) := by omega
      clear hz
      go_wp2_with fail
      refine (ref_pow (by omega) _).mono ?_
      rintro x w6 ⟨v6, rfl, hu6, hb6⟩
      obtain ⟨A6, c6, rfl, hR6⟩ := hu6.rd
      go_wp2_with fail
      refine (ref_Times hLN rfl (hR5.below hb6) (isW_words _) (by omega) hR6 (isW_words _) (by omega)).mono ?_
      rintro x w7 ⟨v7, rfl, hu7, hb7⟩
      rw [nv_words, nv_words] at hu7
      have hs6 := hb6.size
      go_wp2_with fail
      go_ret2
      exact ⟨m * 2 ^ k * 10 ^ z, 1, _, _, rfl, hfr.out _ _ (by simp) (by simp), hu7.lower (by omega), by rw [w1]; exact (huD.keep hb6).keep hb7, (hbw.trans (hb6.mono hs5)).trans (hb7.mono (by omega))⟩
    · obtain rfl : p = -(z : Int) := by omega
      clear hz
      go_wp2_with fail
      refine (ref_pow (by omega) _).mono ?_
      rintro x w6 ⟨v6, rfl, hu6, hb6⟩
      obtain ⟨A6, c6, rfl, hR6⟩ := hu6.rd
      go_wp2_with fail
      refine (ref_Times (l := [1]) rfl rfl (hRD.below hb6) (IsW.one (by decide) (by decide)) (by decide) hR6 (isW_words _) (by omega)).mono ?_
      rintro x w7 ⟨v7, rfl, hu7, hb7⟩
      rw [nv_words, show nv [1] = 1 from rfl, Nat.one_mul] at hu7
      have hs6 := hb6.size
      go_wp2_with fail
      go_ret2
      exact ⟨m * 2 ^ k, 10 ^ z, _, _, rfl, hfr.out _ _ (by simp) (by simp), (hu5.keep hb6).keep hb7, hu7.lower (by omega), (hbw.trans (hb6.mono hs5)).trans (hb7.mono (by omega))⟩
  · obtain rfl : e = -(k : Int) := by omega
    clear hk
    go_wp2_with fail
    refine (ref_Up (l := [1]) rfl rfl (Rd.one _ _) (IsW.one (by decide) (by decide)) (by decide) (by omega)).mono ?_
    rintro x w5 ⟨v5, rfl, hu5, hb5⟩
    rw [show nv [1] = 1 from rfl, Nat.one_mul] at hu5
    have hu3 := (hu3'.alloc (.cells #[.int .u32 1] 99)).keep hb5
    have hbw : Below w.heap.size w w5 := (hb3.alloc hs3 _).trans (hb5.mono (by simp; omega))
    replace hu5 := hu5.lower (base' := w.heap.size) (by simp; omega)
    obtain ⟨A5, c5, rfl, hR5⟩ := hu5.rd
    have hl5 := hup.out 1 k (by decide) (by omega)
    rw [Nat.one_mul] at hl5
    obtain ⟨LN, hLN⟩ : ∃ L, (Nv.words (2 ^ k)).length = L := ⟨_, rfl⟩
    rw [hLN] at hu5 hl5 ⊢
    replace hR3 := (hR3.below ((Below.refl _ _).alloc (Nat.le_refl _) (.cells #[.int .u32 1] 99))).below hb5
    have hs5 := hbw.size
    clear hb3 hb5
    by_cases g2 : 0 ≤ p
    · obtain rfl : p = (z : Int) := by omega
      clear hz
      go_wp2_with fail
      refine (ref_pow (by omega) _).mono ?_
      rintro x w6 ⟨v6, rfl, hu6, hb6⟩
      obtain ⟨A6, c6, rfl, hR6⟩ := hu6.rd
      go_wp2_with fail
      refine (ref_Times rfl rfl (hR3.below hb6) (isW_words _) (by omega) hR6 (isW_words _) (by omega)).mono ?_
      rintro x w7 ⟨v7, rfl, hu7, hb7⟩
      rw [nv_words, nv_words] at hu7
      have hs6 := hb6.size
      go_wp2_with fail
      go_ret2
      exact ⟨m * 10 ^ z, 2 ^ k, _, _, rfl, hfr.out _ _ (by simp) (by simp), hu7.lower (by omega), (hu5.keep hb6).keep hb7, (hbw.trans (hb6.mono hs5)).trans (hb7.mono (by omega))⟩
    · obtain rfl : p = -(z : Int) := by omega
      clear hz
      go_wp2_with fail
      refine (ref_pow (by omega) _).mono ?_
      rintro x w6 ⟨v6, rfl, hu6, hb6⟩
      obtain ⟨A6, c6, rfl, hR6⟩ := hu6.rd
      go_wp2_with fail
      refine (ref_Times hLN rfl (hR5.below hb6) (isW_words _) (by omega) hR6 (isW_words _) (by omega)).mono ?_
      rintro x w7 ⟨v7, rfl, hu7, hb7⟩
      rw [nv_words, nv_words] at hu7
      have hs6 := hb6.size
      go_wp2_with fail
      go_ret2
      exact ⟨m, 2 ^ k * 10 ^ z, _, _, rfl, hfr.out _ _ (by simp) (by simp), (hu3.keep hb6).keep hb7, hu7.lower (by omega), (hbw.trans (hb6.mono hs5)).trans (hb7.mono (by omega))⟩
end Us
end Go.Proofs.YtelgobelbeabaaaGreatDoor
namespace Go.Proofs.YtelgobelbeabaaaGreatDoor
open Go.RowKit
namespace Us
open Nv

/-- The first place that a number does not reach. -/
def IsPt (r : Nat) (n : Int) : Prop := Le r 1 (n - 1) ∧ ¬ Le r 1 n ∧ -400 ≤ n ∧ n ≤ 400
theorem cmpN_lt {a b : Nat} (h : a < b) : cmpN a b = -1 := by unfold cmpN; rw [if_pos h]
theorem cmpN_ge {a b : Nat} (h : ¬ a < b) : (cmpN a b < 0) = False := by
  unfold cmpN
  rw [if_neg h]
  apply propext
  split <;> simp
theorem bit_of {P b : Nat} (h1 : 1 ≤ P) (h : P < 2 ^ b) : 1 ≤ bitN P ∧ bitN P ≤ b := by
  have h2 := bitN_le (n := P) (by omega)
  have h3 : 1 ≤ bitN P := by unfold bitN; rw [if_neg (by omega)]; omega
  refine ⟨h3, ?_⟩
  rcases Nat.lt_or_ge b (bitN P) with g | g
  · have := Nat.pow_le_pow_right (n := 2) (by decide) (show b ≤ bitN P - 1 by omega)
    omega
  · exact g
set_option maxRecDepth 100000 in
set_option maxHeartbeats 800000 in
theorem ref_point {r : Nat} (h1 : 1 ≤ r) (h2 : r < infR) (w : World) : Calls Tryz.prog 98 #[.float .f64 r] w fun x w' => ∃ n : Int, x = .returned (.int .i64 n) ∧ IsPt r n ∧ Below w.heap.size w w' := by
  have hS := Far.mk (ref_scaled (p := 0) h1 h2 (by omega) w)
  have hn309 := fun n hn => not_le_309 h2 (n := n) hn
  go_enter Tryz.func98, Tryz.ntmps98
  go_wp2_with fail
  refine hS.out.mono ?_
  rintro x w3 ⟨P, D, v1, v2, rfl, hF, hu1, hu2, hb3⟩
  obtain ⟨A1, c1, rfl, hR1⟩ := hu1.rd
  obtain ⟨A2, c2, rfl, hR2⟩ := hu2.rd
  obtain ⟨l1, l2⟩ := hF.lens (by omega)
  have hB1 := bit_of hF.one hF.sP
  have hD1 := hF.frac.pos
  have hB2 := bit_of hD1 hF.sD
  have hfr : Frac r P D 0 := hF.frac
  have hpt := hfr.point
  have hlow := guess_low (bP := bitN P) (bD := bitN D) hfr (bitN_le (by have := hF.one; omega)) hB1.1 (Nat.le_of_lt (bitN_lt D)) (by simp at hB1 hB2; omega) (by simp at hB1 hB2; omega)
  have hgb := guess_ok (d := (bitN P : Int) - bitN D) (by simp at hB1 hB2; omega) (by simp at hB1 hB2; omega)
  have hge : guess ((bitN P : Int) - bitN D) = (((bitN P : Int) - bitN D) * 30103).tdiv 100000 - 3 := rfl
  have hbb : bitN P ≤ 1100 ∧ bitN D ≤ 1100 := by simp at hB1 hB2; omega
  clear hS hF hfr hu1 hu2 h1 h2 hB1 hB2
  obtain ⟨LP, hLP⟩ : ∃ L, (Nv.words P).length = L := ⟨_, rfl⟩
  obtain ⟨LD, hLD⟩ : ∃ L, (Nv.words D).length = L := ⟨_, rfl⟩
  rw [hLP] at l1 ⊢
  rw [hLD] at l2 ⊢
  obtain ⟨bP, hbP⟩ : ∃ b, bitN P = b := ⟨_, rfl⟩
  obtain ⟨bD, hbD⟩ : ∃ b, bitN D = b := ⟨_, rfl⟩
  rw [hbP, hbD] at hlow hgb hge hbb
  have hC1 := Far.mk (ref_Bits hLP hR1 (isW_words P) (by omega))
  rw [nv_words, hbP] at hC1
  go_wp2_with fail
  refine hC1.out.mono ?_
  rintro x w4 ⟨rfl, hb4⟩
  have hC2 := Far.mk (ref_Bits hLD (hR2.below hb4) (isW_words D) (by omega))
  rw [nv_words, hbD] at hC2
  clear hC1
  go_wp2_with fail
  refine hC2.out.mono ?_
  rintro x w5 ⟨rfl, hb5⟩
  replace hR1 := (hR1.below hb4).below hb5
  replace hR2 := (hR2.below hb4).below hb5
  have hs3 := hb3.size
  have hs4 := hb4.size
  have hbw := (hb3.trans (hb4.mono hs3)).trans (hb5.mono (by omega))
  clear hb3 hb4 hb5 hC2 hbP hbD
  obtain ⟨n0, hn0⟩ : ∃ n, guess ((bP : Int) - bD) = n := ⟨_, rfl⟩
  rw [hn0] at hlow hgb hge
  replace hlow := Far.mk hlow
  replace hpt := Far.mk hpt
  replace hn309 := Far.mk hn309
  clear hn0
  go_wp2_with fail
  rw [← hge]
  have hgb2 := hgb.2
  clear hge hgb hbb
  go_loopw [5] (fun n wr => ∃ k : Int, n = .int .i64 k ∧ Far (Le r 1 (k - 1)) ∧ -400 ≤ k ∧ Far (Below w5.heap.size w5 wr)) (fun n _ => (400 - intOf n).toNat)
  case atStart => exact ⟨n0, rfl, hlow, hgb2.1, ⟨Below.refl _ _⟩⟩
  case round =>
    obtain ⟨k, rfl, hle, hk1, hb⟩ := hrel
    have hk2 : k ≤ 310 := by
      rcases Int.lt_or_le 310 k with g | g
      · exact (hn309.out (k - 1) (by omega) hle.out).elim
      · exact g
    have hp := hpt.out k
    have hsz := hb.out.size
    obtain ⟨z, hz⟩ : ∃ z : Nat, z = k.natAbs := ⟨_, rfl⟩
    have hten : (Nv.words (10 ^ z)).length ≤ 401 := by have := pow_len z; omega
    by_cases g1 : 0 ≤ k
    · obtain rfl : k = (z : Int) := by omega
      clear hz
      have e1 : hiP (z : Int) = 10 ^ z := rfl
      have e2 : loQ (z : Int) = 1 := by unfold loQ; rw [show (-(z : Int)).toNat = 0 by omega, Nat.pow_zero]
      rw [e1, e2, Nat.mul_one, Nat.mul_comm] at hp
      have hlenT : (Nv.words (D * 10 ^ z)).length ≤ 2000 := Nat.le_trans (len_mul _ _) (by omega)
      replace hp := Far.mk hp
      go_wp2_with fail
      refine (ref_pow (by omega) _).mono ?_
      rintro x w6 ⟨v6, rfl, hu6, hb6⟩
      obtain ⟨A6, c6, rfl, hR6⟩ := hu6.rd
      go_wp2_with fail
      refine (ref_Times hLD rfl ((hR2.below hb.out).below hb6) (isW_words _) (by omega) hR6 (isW_words _) (by omega)).mono ?_
      rintro x w7 ⟨v7, rfl, hu7, hb7⟩
      rw [nv_words, nv_words] at hu7
      obtain ⟨A7, c7, rfl, hR7⟩ := hu7.rd
      have hs6 := hb6.size
      have hs7 := hb7.size
      have hb' : Below w5.heap.size w5 w7 := (hb.out.trans (hb6.mono hsz)).trans (hb7.mono (by omega))
      clear hu6 hu7 hR6 hb6 hb7 hb
      go_wp2_with fail
      refine (ref_Cmp hLP rfl (hR1.below hb') (isW_words _) (by omega) hR7 (isW_words _) (by omega)).mono ?_
      rw [nv_words, nv_words]
      rintro x w8 ⟨rfl, q8, rfl⟩
      by_cases hlt : P < D * 10 ^ z
      · rw [cmpN_lt hlt]
        go_wp2_with fail
        go_ret
        exact ⟨(z : Int), rfl, ⟨hle.out, fun h => by have := hp.out.1 h; omega, hk1, by omega⟩, hbw.trans (below_drawn (hb'.mono (by have := hbw.size; omega)))⟩
      · have hc := cmpN_ge hlt
        obtain ⟨cc, hcc⟩ : ∃ cc, cmpN P (D * 10 ^ z) = cc := ⟨_, rfl⟩
        rw [hcc] at hc ⊢
        have hc' : ¬ cc < 0 := by rw [hc]; exact not_false
        clear hc hcc
        go_wp2_with fail
        go_roundw
        case rel => exact ⟨(z : Int) + 1, by go_num, ⟨by rw [show (z : Int) + 1 - 1 = z by omega]; exact hp.out.2 (by omega)⟩, by omega, ⟨below_drawn hb'⟩⟩
        case measure => simp [intOf] <;> omega
    · obtain rfl : k = -(z : Int) := by omega
      clear hz
      have e1 : hiP (-(z : Int)) = 1 := by unfold hiP; rw [show (-(z : Int)).toNat = 0 by omega, Nat.pow_zero]
      have e2 : loQ (-(z : Int)) = 10 ^ z := by unfold loQ; rw [Int.neg_neg]; rfl
      rw [e1, e2, Nat.one_mul] at hp
      have hlenT : (Nv.words (P * 10 ^ z)).length ≤ 2000 := Nat.le_trans (len_mul _ _) (by omega)
      replace hp := Far.mk hp
      go_wp2_with fail
      refine (ref_pow (by omega) _).mono ?_
      rintro x w6 ⟨v6, rfl, hu6, hb6⟩
      obtain ⟨A6, c6, rfl, hR6⟩ := hu6.rd
      go_wp2_with fail
      refine (ref_Times hLP rfl ((hR1.below hb.out).below hb6) (isW_words _) (by omega) hR6 (isW_words _) (by omega)).mono ?_
      rintro x w7 ⟨v7, rfl, hu7, hb7⟩
      rw [nv_words, nv_words] at hu7
      obtain ⟨A7, c7, rfl, hR7⟩ := hu7.rd
      have hs6 := hb6.size
      have hs7 := hb7.size
      have hb' : Below w5.heap.size w5 w7 := (hb.out.trans (hb6.mono hsz)).trans (hb7.mono (by omega))
      clear hu6 hu7 hR6 hb6 hb7 hb
      go_wp2_with fail
      refine (ref_Cmp rfl hLD hR7 (isW_words _) (by omega) (hR2.below hb') (isW_words _) (by omega)).mono ?_
      rw [nv_words, nv_words]
      rintro x w8 ⟨rfl, q8, rfl⟩
      by_cases hlt : P * 10 ^ z < D
      · rw [cmpN_lt hlt]
        go_wp2_with fail
        go_ret
        exact ⟨-(z : Int), rfl, ⟨hle.out, fun h => by have := hp.out.1 h; omega, hk1, by omega⟩, hbw.trans (below_drawn (hb'.mono (by have := hbw.size; omega)))⟩
      · have hc := cmpN_ge hlt
        obtain ⟨cc, hcc⟩ : ∃ cc, cmpN (P * 10 ^ z) D = cc := ⟨_, rfl⟩
        rw [hcc] at hc ⊢
        have hc' : ¬ cc < 0 := by rw [hc]; exact not_false
        clear hc hcc
        go_wp2_with fail
        go_roundw
        case rel => exact ⟨-(z : Int) + 1, by go_num, ⟨by rw [show -(z : Int) + 1 - 1 = -(z : Int) by omega]; exact hp.out.2 (by omega)⟩, by omega, ⟨below_drawn hb'⟩⟩
        case measure => simp [intOf] <;> omega
end Us
end Go.Proofs.YtelgobelbeabaaaGreatDoor
namespace Go.Proofs.YtelgobelbeabaaaGreatDoor
open Go.RowKit
namespace Us
open Nv

theorem near_quo {q den up Qt R : Nat} {e : Int} {z : Nat} (hq : 1 ≤ q) (he : e = -(z : Int)) (hden : den = 10 ^ z) (hz : z ≤ 440) (hup : (bitN den : Int) - bitN q + 70 ≤ up) (hup2 : up ≤ 2000) (hdm : q * 2 ^ up / den = Qt) (hrm : q * 2 ^ up % den = R) :
    Rnd (Ieee.double.nearest false (Qt * 2 + (if R = 0 then 0 else 1)) (-(up : Int) - 1)) (q * hiP e * tiny) (loQ e) := by
  have hdp : 0 < den := by rw [hden]; exact Nat.pow_pos (by decide)
  have e1 : hiP e = 1 := by unfold hiP; rw [show e.toNat = 0 by omega, Nat.pow_zero]
  have e2 : loQ e = den := by unfold loQ; rw [he, Int.neg_neg, hden]; rfl
  rw [e1, e2, Nat.mul_one]
  have hdm2 : q * 2 ^ up = Qt * den + R := by rw [← hdm, ← hrm, Nat.div_add_mod']
  have h69 : 590295810358705651712 ≤ Qt := by
    rw [← hdm, Nat.le_div_iff_mul_le hdp, show (590295810358705651712 : Nat) = 2 ^ 69 by decide]
    have a := bitN_le (n := q) (by omega)
    have b := bitN_lt den
    have h1 : 1 ≤ bitN q := by unfold bitN; rw [if_neg (by omega)]; omega
    refine Nat.le_trans (Nat.mul_le_mul_left _ (Nat.le_of_lt b)) (Nat.le_trans (Nat.le_of_eq (Nat.pow_add 2 69 (bitN den)).symm) (Nat.le_trans (Nat.pow_le_pow_right (by decide) (show 69 + bitN den ≤ bitN q - 1 + up by omega)) ?_))
    rw [Nat.pow_add]
    exact Nat.mul_le_mul_right _ a
  have hpos : 0 < Qt * 2 + (if R = 0 then 0 else 1) := by omega
  have hr := nearest_rnd (Qt * 2 + (if R = 0 then 0 else 1)) (-(up : Int) - 1) hpos
  exact sticky_rnd (s := (-(up : Int) - 1 + 1074).toNat) (t := (-(-(up : Int) - 1 + 1074)).toNat) hdp hdm2 (by rw [← hrm]; exact Nat.mod_lt _ hdp) (by rw [Nat.mul_comm]) h69 hup2 (by omega) hr
theorem len_mono {N M : Nat} (h : N ≤ M) : (Nv.words N).length ≤ (Nv.words M).length := words_len (Nat.lt_of_le_of_lt h (lt_len M))
theorem len_succ (N : Nat) : (Nv.words (N + 1)).length ≤ (Nv.words N).length + 1 := words_len (by
  have := lt_len N
  rw [Nat.pow_succ]
  omega)
theorem near_whole {q z : Nat} {e : Int} (hq : 1 ≤ q) (he : e = (z : Int)) : Rnd (Ieee.double.nearest false (q * 10 ^ z) 0) (q * hiP e * tiny) (loQ e) := by
  have e1 : hiP e = 10 ^ z := by unfold hiP; rw [he]; rfl
  have e2 : loQ e = 1 := by unfold loQ; rw [show (-e).toNat = 0 by omega, Nat.pow_zero]
  rw [e1, e2]
  have hr := nearest_rnd (q * 10 ^ z) 0 (Nat.mul_pos hq (Nat.pow_pos (by decide)))
  obtain ⟨t, ht⟩ : ∃ t : Nat, t = 1074 := ⟨_, rfl⟩
  rw [tiny_pow ht]
  rw [show ((0 : Int) + 1074).toNat = t by omega, show (-((0 : Int) + 1074)).toNat = 0 by omega, Nat.pow_zero] at hr
  exact hr
theorem bit_ten {z : Nat} (hz : z ≤ 440) : bitN (10 ^ z) ≤ 1761 := by
  rcases Nat.lt_or_ge 1761 (bitN (10 ^ z)) with g | g
  · exfalso
    have a := bitN_le (n := 10 ^ z) (Nat.pos_iff_ne_zero.1 (Nat.pow_pos (by decide)))
    have b := ten_le z
    have c : 2 ^ (4 * z) < 2 ^ (bitN (10 ^ z) - 1) := Nat.pow_lt_pow_right (by decide) (by omega)
    omega
  · exact g
/-- What decimal tells. -/
def DecQ (q : Nat) (e : Int) (w : World) (x : Ending) (w' : World) : Prop := ∃ f : Nat, x = .returned (.float .f64 f) ∧ Rnd f (q * hiP e * tiny) (loQ e) ∧ Below w.heap.size w w'
set_option maxRecDepth 100000 in
set_option maxHeartbeats 1600000 in
theorem ref_decimal {q : Nat} {e : Int} (hq : 1 ≤ q) (hl : (digs 10 q).length ≤ 40) (he : -400 ≤ ((digs 10 q).length : Int) + e ∧ ((digs 10 q).length : Int) + e ≤ 400) (w : World) :
    Calls Tryz.prog 104 #[.string (S (digs 10 q)), .int .i64 e] w (DecQ q e w) := by
  obtain ⟨c, l, hdc, hc49⟩ := digs_head hq
  obtain ⟨s, hs⟩ : ∃ s, S (digs 10 q) = s := ⟨_, rfl⟩
  have hsz : s.size = (digs 10 q).length := by rw [← hs, S_size]
  have hsd : s.data.toList = digs 10 q := by rw [← hs]; rfl
  have hpos : 0 < s.size := by rw [hsz, hdc]; simp
  have hlenq : (Nv.words q).length ≤ 20 := by
    have hq10 : q < 10 ^ (digs 10 q).length := by
      rcases Nat.lt_or_ge q (10 ^ (digs 10 q).length) with g | g
      · exact g
      · have := digs_ge g
        omega
    have h2 := Nat.lt_of_lt_of_le hq10 (ten_le _)
    exact len_pow h2 (by omega)
  have hP := Far.mk (fun W => ref_Parse (w := W) (s := s) (r := 10) (R := 10) rfl (by decide) (by decide) hpos (by omega) (fun k h => by
    have hm : s[k] ∈ digs 10 q := by
      rw [← hsd]
      show s.data[k] ∈ s.data.toList
      exact Array.getElem_mem_toList _
    have hd := digs_digit q _ hm
    unfold digitN
    rw [if_pos (by omega)]
    omega) (by rw [hsd, digs_val]; omega))
  rw [hsd, digs_val] at hP
  have h0 : ((s[0].toNat : Int) == 48) = false := by
    have e0 : s[0] = c := by
      show s.data[0] = c
      have h1 : s.data.toList[0]? = some c := by rw [hsd, hdc]; rfl
      have h2 : s.data[0]? = some c := by rw [← Array.getElem?_toList]; exact h1
      exact (Array.getElem?_eq_some_iff.1 h2).2
    rw [e0]
    exact beq_eq_false_iff_ne.2 (by omega)
  have hx : s.extract 0 s.size = s := by
    rw [← hs, S_extract, List.drop_zero, List.take_of_length_le (by rw [S_size]; exact Nat.le_refl _)]
  rw [hs]
  have hs0 : ((s.size : Int) == 0) = false := beq_eq_false_iff_ne.2 (by omega)
  rw [← hsz] at he hl
  clear hs hsd hdc hc49 hsz
  go_enter Tryz.func104, Tryz.ntmps104
  go_wp2
  go_loopw [5] (fun i wr => i = .int .i64 0 ∧ wr = w) (fun i _ => 0)
  case atStart => exact ⟨rfl, rfl⟩
  case round =>
    obtain ⟨rfl, rfl⟩ := hrel
    go_wp2_with fail
    with_reducible refine (hP.out _).mono ?_
    rintro x w3 ⟨v3, rfl, hu3, hb3⟩
    obtain ⟨A3, c3, rfl, hR3⟩ := hu3.rd
    obtain ⟨LQ, hLQ⟩ : ∃ L, (Nv.words q).length = L := ⟨_, rfl⟩
    rw [hLQ] at hlenq ⊢
    have hs3 := hb3.size
    clear hP hu3 h0 hx hs0
    obtain ⟨z, hz⟩ : ∃ z : Nat, z = e.natAbs := ⟨_, rfl⟩
    have hten : (Nv.words (10 ^ z)).length ≤ 441 := by have := pow_len z; omega
    by_cases g1 : 0 ≤ e
    · obtain rfl : e = (z : Int) := by omega
      clear hz
      have hfin := near_whole (z := z) hq rfl
      go_wp2_with fail
      refine (ref_pow (by omega) _).mono ?_
      rintro x w6 ⟨v6, rfl, hu6, hb6⟩
      obtain ⟨A6, c6, rfl, hR6⟩ := hu6.rd
      go_wp2_with fail
      refine (ref_Times hLQ rfl (hR3.below hb6) (isW_words _) (by omega) hR6 (isW_words _) (by omega)).mono ?_
      rintro x w7 ⟨v7, rfl, hu7, hb7⟩
      rw [nv_words, nv_words] at hu7
      obtain ⟨A7, c7, rfl, hR7⟩ := hu7.rd
      have hl7 := len_mul q (10 ^ z)
      have hs6 := hb6.size
      have hs7 := hb7.size
      have hbw := (hb3.trans (hb6.mono hs3)).trans (hb7.mono (by omega))
      clear hb3 hb6 hb7 hu6 hu7 hR6
      go_wp2_with fail
      refine (ref_Near hR7 (by omega) (by decide)).mono ?_
      rintro x w8 ⟨rfl, hb8⟩
      go_wp2_with fail
      go_ret
      exact ⟨_, rfl, hfin, hbw.trans (hb8.mono (by omega))⟩
    · obtain rfl : e = -(z : Int) := by omega
      clear hz
      have hzb : z ≤ 440 := by omega
      have hbt := bit_ten hzb
      have hC1 := fun (W : World) (A : Option Addr) (c : Nat) (h : Rd W A c (Nv.words (10 ^ z))) => Far.mk (ref_Bits (w := W) rfl h (isW_words _) (by omega))
      have hC2 := fun (W : World) (A : Option Addr) (c : Nat) (h : Rd W A c (Nv.words q)) => Far.mk (ref_Bits (w := W) hLQ h (isW_words _) (by omega))
      have hq1 : 1 ≤ bitN q := by unfold bitN; rw [if_neg (by omega)]; omega
      have hqb : bitN q ≤ 700 := by
        rcases Nat.lt_or_ge 700 (bitN q) with g | g
        · exfalso
          have a := bitN_le (n := q) (by omega)
          have b := lt_len q
          have c : (4294967296 : Nat) ^ (Nv.words q).length ≤ 2 ^ (bitN q - 1) := by
            rw [show (4294967296 : Nat) = 2 ^ 32 from rfl, ← Nat.pow_mul]
            exact Nat.pow_le_pow_right (by decide) (by omega)
          omega
        · exact g
      obtain ⟨bD, hbD⟩ : ∃ b, bitN (10 ^ z) = b := ⟨_, rfl⟩
      obtain ⟨bQ, hbQ⟩ : ∃ b, bitN q = b := ⟨_, rfl⟩
      simp only [nv_words, hbD, hbQ] at hC1 hC2
      rw [hbD] at hbt
      rw [hbQ] at hq1 hqb
      replace hC1 := Far.mk hC1
      replace hC2 := Far.mk hC2
      go_wp2_with fail
      refine (ref_pow (by omega) _).mono ?_
      rintro x w6 ⟨v6, rfl, hu6, hb6⟩
      obtain ⟨A6, c6, rfl, hR6⟩ := hu6.rd
      have hs6 := hb6.size
      replace hR3 := hR3.below hb6
      have hbw6 := hb3.trans (hb6.mono hs3)
      clear hb3 hb6 hu6
      go_wp2_with fail
      with_reducible refine (hC1.out _ _ _ hR6).out.mono ?_
      rintro x w7 ⟨rfl, hb7⟩
      replace hR3 := hR3.below hb7
      replace hR6 := hR6.below hb7
      have hs7 := hb7.size
      have hbw7 := hbw6.trans (hb7.mono (by omega))
      clear hbw6 hb7
      go_wp2_with fail
      with_reducible refine (hC2.out _ _ _ hR3).out.mono ?_
      rintro x w8 ⟨rfl, hb8⟩
      replace hR3 := hR3.below hb8
      replace hR6 := hR6.below hb8
      have hs8 := hb8.size
      have hbw8 := hbw7.trans (hb8.mono (by omega))
      clear hbw7 hb8 hC1 hC2
      obtain ⟨up, hup⟩ : ∃ up : Nat, (up : Int) = max ((bD : Int) - bQ + 70) 0 := ⟨(max ((bD : Int) - bQ + 70) 0).toNat, by omega⟩
      obtain ⟨Qt, hQt⟩ : ∃ Q, q * 2 ^ up / 10 ^ z = Q := ⟨_, rfl⟩
      obtain ⟨R, hRt⟩ : ∃ R, q * 2 ^ up % 10 ^ z = R := ⟨_, rfl⟩
      have hfin := near_quo (den := 10 ^ z) (up := up) hq rfl rfl hzb (by omega) (by omega) hQt hRt
      have hl9 : (Nv.words (q * 2 ^ up)).length ≤ 1000 := by
        have a := len_mul q (2 ^ up)
        have b : (Nv.words (2 ^ up)).length ≤ 900 := len_pow (b := up + 1) (Nat.pow_lt_pow_right (by decide) (by omega)) (by omega)
        omega
      have hup1 : (bD : Int) - bQ + 70 < 0 → (0 : Int) = (up : Int) := by omega
      have hup2 : ¬ (bD : Int) - bQ + 70 < 0 → (bD : Int) - bQ + 70 = (up : Int) := by omega
      clear hup
      obtain ⟨pl, hpl⟩ : ∃ pl : Int, -(up : Int) - 1 = pl := ⟨_, rfl⟩
      rw [hpl] at hfin
      have hplb : -100000 ≤ pl ∧ pl ≤ 100000 := by
        have : up ≤ 2000 := by
          rcases Int.lt_or_le ((bD : Int) - bQ + 70) 0 with g | g
          · have := hup1 g
            omega
          · have := hup2 (by omega)
            omega
        omega
      have hq9 : (Nv.words Qt).length ≤ 1000 := Nat.le_trans (len_mono (Nat.le_trans (Nat.le_of_eq hQt.symm) (Nat.div_le_self _ _))) hl9
      replace hfin := Far.mk hfin
      by_cases g2 : (bD : Int) - bQ + 70 < 0
      all_goals
        go_wp2_with fail
        refine (ref_Up (k := up) (by omega) hLQ hR3 (isW_words _) (by omega) (by omega)).mono ?_
        rintro x w9 ⟨v9, rfl, hu9, hb9⟩
        rw [nv_words] at hu9
        obtain ⟨A9, c9, rfl, hR9⟩ := hu9.rd
        replace hR6 := hR6.below hb9
        have hs9 := hb9.size
        have hbw9 := hbw8.trans (hb9.mono (by omega))
        clear hbw8 hb9 hu9 hR3
        go_wp2_with fail
        refine (cHalved hR9 (by omega) hR6 (by omega) (Nat.pow_pos (by decide))).mono ?_
        rintro x w10 ⟨v10, v11, rfl, hu10, hu11, hb10⟩
        rw [hQt] at hu10
        rw [hRt] at hu11
        obtain ⟨A10, c10, rfl, hR10⟩ := hu10.rd
        obtain ⟨A11, c11, rfl, hR11⟩ := hu11.rd
        have hs10 := hb10.size
        have hbw10 := hbw9.trans (hb10.mono (by omega))
        have hlr := words_len_zero (n := R)
        obtain ⟨LR, hLR⟩ : ∃ L, (Nv.words R).length = L := ⟨_, rfl⟩
        rw [hLR] at hlr ⊢
        clear hbw9 hb10 hu10 hu11 hR9 hR6 hQt hRt
        go_wp2_with fail
        refine (cUp (k := 1) rfl hR10 (by omega) (by decide)).mono ?_
        rintro x w12 ⟨v12, rfl, hu12, hb12⟩
        rw [Nat.pow_one] at hu12
        obtain ⟨A12, c12, rfl, hR12⟩ := hu12.rd
        have hs12 := hb12.size
        have hbw12 := hbw10.trans (hb12.mono (by omega))
        have hl12 : (Nv.words (Qt * 2)).length ≤ 1001 := Nat.le_trans (len_mul _ _) (by rw [words_one (n := 2) (by decide) (by decide)]; simp; omega)
        clear hbw10 hb12 hu12 hR10 hR11
        by_cases g3 : LR = 0
        · have hR0 : R = 0 := hlr.1 g3
          rw [if_pos hR0, Nat.add_zero] at hfin
          go_wp2_with fail
          first
            | with_reducible refine (ref_Near (e := pl) hR12 (by omega) hplb).mono ?_
            | (rw [show (-1 : Int) = pl by omega]; refine (ref_Near (e := pl) hR12 (by omega) hplb).mono ?_)
          rintro x w13 ⟨rfl, hb13⟩
          go_wp2_with fail
          go_ret
          exact ⟨_, rfl, hfin.out, hbw12.trans (hb13.mono (by omega))⟩
        · have hR0 : ¬ R = 0 := fun h => g3 (hlr.2 h)
          rw [if_neg hR0] at hfin
          go_wp2_with fail
          refine (cPlus1 (hR12.below ((Below.refl _ _).alloc (Nat.le_refl _) _)) (by omega) (Rd.one _ _)).mono ?_
          rintro x w13 ⟨v13, rfl, hu13, hb13⟩
          obtain ⟨A13, c13, rfl, hR13⟩ := hu13.rd
          have hbw13 := (hbw12.alloc (by omega) (.cells #[.int .u32 1] 99)).trans (hb13.mono (by simp; omega))
          have hl13 : (Nv.words (Qt * 2 + 1)).length ≤ 1002 := Nat.le_trans (len_succ _) (by omega)
          have hs13 := hbw13.size
          clear hbw12 hb13 hu13 hR12
          go_wp2_with fail
          first
            | with_reducible refine (ref_Near (e := pl) hR13 (by omega) hplb).mono ?_
            | (rw [show (-1 : Int) = pl by omega]; refine (ref_Near (e := pl) hR13 (by omega) hplb).mono ?_)
          rintro x w14 ⟨rfl, hb14⟩
          go_wp2_with fail
          go_ret
          exact ⟨_, rfl, hfin.out, hbw13.trans (hb14.mono (by omega))⟩
end Us
end Go.Proofs.YtelgobelbeabaaaGreatDoor
