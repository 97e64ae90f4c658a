/-
  A contract of bignum.divide (Knuth's algorithm D). Conditions: the divisor has two words at least and is no greater; the numbers are no longer than may be.
-/
import Derived.Test.YtdpbpdhamekcdaaGreatDoorFxM28
namespace Go.Proofs.YtdpbpdhamekcdaaGreatDoor
open Go.RowKit
namespace Us
open Nv

theorem wlen_mono {N M : Nat} (h : N ≤ M) : (Nv.words N).length ≤ (Nv.words M).length := words_len (Nat.lt_of_le_of_lt h (lt_len M))
theorem u_oth {w w' : World} {base b : Nat} {v : Value} {l : List Int} (h : U w base v l) (hO : Oth b w w') (hne : ∀ k, v.ownBlock = some k → k ≠ b) : U w' base v l := by
  refine ⟨h.1, ?_⟩
  rcases h.2 with h2 | ⟨g, cap, cur, rfl, hg, hh, r⟩
  · exact .inl h2
  · exact .inr ⟨g, cap, cur, rfl, hg, (hO g (hne g rfl)).trans hh, r⟩
theorem u_form {w : World} {base : Nat} {v : Value} {l : List Int} (h : U w base v l) (hp : 0 < l.length) : ∃ g cap, v = .slice (some ⟨g, 0, none⟩) l.length cap ∧ base ≤ g ∧ l.length ≤ cap := by
  rcases h.2 with ⟨rfl, h0⟩ | ⟨g, cap, cur, rfl, hg, hh, hnc, r⟩
  · omega
  · exact ⟨g, cap, rfl, hg, hnc⟩
theorem run_window (W : World) (b T cap j n : Nat) (h1 : j + (n + 1) ≤ cap) : (Instr.slice 73 (.slice (some ⟨b, 0, none⟩) T cap) (some (.int .i64 (j : Int))) (some (.int .i64 ((j : Int) + (n : Int) + 1))) none).run Tryz.prog W = .ok (.slice (some ⟨b, j, none⟩) (n + 1) (cap - j)) W := by
  obtain ⟨i0, hi, hz0, hz1, hz2⟩ := info_parts info_w
  have hel : Tryz.prog.elem 73 = 22 := by simp [Program.elem, Tryz.underlying73]
  rw [run_slice_lh W 73 (some ⟨b, 0, none⟩) T cap (by rw [hel]; exact Tryz.underlying73) .i64 .i64 (j : Int) ((j : Int) + (n : Int) + 1) (by omega) (by omega) (by omega), hel]
  have e1 : ((j : Int) + (n : Int) + 1).toNat - j = n + 1 := by omega
  have e2 : ¬ cap = j := by omega
  have e3 : (⟨b, 0, none⟩ : Addr).add j = ⟨b, j, none⟩ := by
    by_cases h : j = 0
    · subst h; rfl
    · simp [Addr.add, h]
  simp [sizeOf, typeInfo, hi, hz1, sliced, Result.andThen, e1, e2, e3]
theorem rd_block {w : World} {A : Option Addr} {c : Nat} {l : List Int} (h : Rd w A c l) (hp : 0 < l.length) : ∀ ad, A = some ad → ad.block < w.heap.size := by
  intro ad e
  obtain ⟨ad', e', hc⟩ := h.2.2 0 hp
  rw [e] at e'
  cases e'
  have := World.block_lt_of_cell? w _ hc
  rwa [add_block] at this
theorem Rd.two (w : World) (x y : Int) : Rd (w.alloc (.cells #[.int .u32 x, .int .u32 y] 22)) (some ⟨w.heap.size, 0, none⟩) 2 [x, y] := ⟨Nat.le_refl _, fun h => (by cases h), fun j hj => ⟨_, rfl, by
  have : j = 0 ∨ j = 1 := by simp at hj; omega
  rcases this with rfl | rfl
  · exact HasB.cell (HasB.new w _ _) 0
  · exact HasB.cell (HasB.new w _ _) 1⟩⟩
theorem quo_eq {x y : Int} (h0 : 0 ≤ x) : Int.tdiv x y = x / y ∧ Int.tmod x y = x % y := ⟨Int.tdiv_eq_ediv_of_nonneg h0, Int.tmod_eq_emod_of_nonneg h0⟩
set_option maxRecDepth 100000 in
set_option maxHeartbeats 3200000 in
theorem bn_divide {a b n M c d : Nat} {A B : Option Addr} {w : World} (hR : Rd w A c (Nv.words a)) (hR2 : Rd w B d (Nv.words b)) (la : (Nv.words a).length ≤ 1024) (lb : (Nv.words b).length = n + 2) (hM : M = n + 2) (hle : b ≤ a) :
    Calls Tryz.prog 201 #[.slice A (Nv.words a).length c, .slice B M d] w fun x w' => ∃ A1 c1 A2 c2, x = .returned (.tuple #[.slice A1 (Nv.words (a / b)).length c1, .slice A2 (Nv.words (a % b)).length c2]) ∧ Rd w' A1 c1 (Nv.words (a / b)) ∧ Rd w' A2 c2 (Nv.words (a % b)) ∧ Below w.heap.size w w' := by
  obtain ⟨adB, rfl, tz, htz, hcB⟩ := hR2.get (j := n + 1) (by omega)
  have hlab : n + 2 ≤ (Nv.words a).length := by rw [← lb]; exact wlen_mono hle
  have btz := (isW_words b).get (n + 1)
  rw [← htz] at btz
  obtain ⟨t, rfl⟩ := Int.eq_ofNat_of_zero_le btz.1
  have ht1 : 1 ≤ t := by
    rcases Nat.eq_zero_or_pos t with h0 | h0
    · exfalso
      have h1 := words_get b (n + 1)
      rw [← htz, h0] at h1
      have hl := lt_len b
      rw [lb] at hl
      have h2 : b / 4294967296 ^ (n + 1) < 4294967296 := by
        apply Nat.div_lt_of_lt_mul
        rw [← Nat.pow_succ]
        exact hl
      rw [Nat.mod_eq_of_lt h2] at h1
      have h3 : b / 4294967296 ^ (n + 1) = 0 := by omega
      have h4 : b < 4294967296 ^ (n + 1) := by
        rcases Nat.div_eq_zero_iff.1 h3 with h | h
        · have := Nat.pow_pos (n := n + 1) (show 0 < 4294967296 by decide)
          omega
        · exact h
      have := words_len h4
      omega
    · exact h0
  obtain ⟨s, hs, hs32, h3, h4⟩ := lead0 ht1 (by omega)
  obtain ⟨m1, m2, m3, m4⟩ := normed lb htz.symm h3 h4
  obtain ⟨q1, q2⟩ := shift_div (a := a) (b := b) (s := s)
  have hleV : b * 2 ^ s ≤ a * 2 ^ s := Nat.mul_le_mul_right _ hle
  obtain ⟨V, hV⟩ : ∃ V, b * 2 ^ s = V := ⟨_, rfl⟩
  obtain ⟨Ua, hUa⟩ : ∃ V, a * 2 ^ s = V := ⟨_, rfl⟩
  have hlV := wlen_mono hleV
  have hlU : (Nv.words Ua).length ≤ 1026 := by
    rw [← hUa]
    refine Nat.le_trans (len_mul _ _) ?_
    have : (Nv.words (2 ^ s)).length ≤ 2 := len_pow (b := 64) (Nat.pow_lt_pow_right (by decide) (by omega)) (by omega)
    omega
  have hS1 := Far.mk (fun W (h : Below w.heap.size w W) => bn_shl (w := W) (n := M) (K := (s : Int)) rfl (lb.trans hM.symm) (hR2.below h) (isW_words b) (by omega) (by omega))
  have hS2 := Far.mk (fun W (h : Below w.heap.size w W) => bn_shl (w := W) (K := (s : Int)) rfl rfl (hR.below h) (isW_words a) (by omega) (by omega))
  rw [nv_words, hV] at hS1
  rw [nv_words, hUa] at hS2
  rw [hV] at m1 m2 m3 m4 q1 q2 hlV
  rw [hUa] at q1 q2 hlV
  rw [m1] at hlV
  have hV0 : 0 < V := Nat.lt_of_lt_of_le (Nat.pow_pos (by decide)) m3
  have hLZ := Far.mk (bits_LeadingZeros32 (t : Int) w (by omega) (by omega))
  rw [Int.toNat_natCast, hs] at hLZ
  clear h3 h4 hs hle hleV hV hUa htz ht1
  rw [show n + 1 = M - 1 by omega] at hcB
  replace m2 := Far.mk m2
  replace m3 := Far.mk m3
  replace m4 := Far.mk m4
  replace q1 := Far.mk q1
  replace q2 := Far.mk q2
  replace hR := Far.mk hR
  replace hR2 := Far.mk hR2
  have hMa : n + 2 ≤ M := by omega
  have hMb : M ≤ n + 2 := by omega
  replace hM := Far.mk hM
  replace lb := Far.mk lb
  replace m1 := Far.mk m1
  go_enter Tryz.func201, Tryz.ntmps201
  go_wp2_with fail
  with_reducible refine hLZ.out.mono ?_
  rintro x w3 ⟨rfl, hw⟩
  replace hw := hw.symm
  subst hw
  go_wp2_with fail
  with_reducible refine (hS1.out _ (Below.refl _ _)).mono ?_
  rintro x w3 ⟨Av, rfl, hRv, hb3⟩
  rw [m1.out, ← hM.out] at hRv ⊢
  have hbv := rd_block hRv (by rw [m1.out]; omega)
  clear hLZ hcB hS1
  go_wp2_with fail
  with_reducible refine (hS2.out _ hb3).mono ?_
  rintro x w4 ⟨Au, rfl, hRu, hb4⟩
  obtain ⟨L, hL⟩ : ∃ L, (Nv.words Ua).length = L := ⟨_, rfl⟩
  rw [hL] at hRu hlU hlV ⊢
  have hs3 := hb3.size
  have hs4 := hb4.size
  replace hRv := hRv.below hb4
  have hbw := Far.mk (hb3.trans (hb4.mono hs3))
  have hal := (Below.refl w4.heap.size w4).alloc (Nat.le_refl _) (.cells #[.int .u32 0, .int .u32 0] 22)
  clear hb3 hb4 hS2
  go_wp2_with (at_builtin; go_must (refine append_full rfl _ _ rfl rfl (hRu.below hal) hL rfl (Rd.two w4 0 0) rfl (by decide) (by omega) ?_))
  intro v5 w5 hU5 hg5
  have hb5 : Below w.heap.size w w5 := (hbw.out.trans (hal.mono (by omega))).grown hg5 (by simp; omega) (by simp)
  have hRv5 : Rd w5 Av M (Nv.words V) := (hRv.below hal).below ((Below.refl _ _).grown hg5 (Nat.le_refl _) (by simp))
  have hlu : (Nv.words Ua ++ [0, 0]).length = L + 2 := by simp [hL]
  obtain ⟨bu, cu, rfl, hbu, hcu⟩ := u_form hU5 (by omega)
  rw [hlu] at hcu ⊢
  replace hU5 := hU5.lower (show w.heap.size ≤ w4.heap.size + 1 by omega)
  rw [hlu] at hU5
  have hbub : bu < w5.heap.size := (World.ownsRow.lt hU5 bu rfl).2
  replace hb5 := Far.mk hb5
  clear hg5 hal hRu hRv hbw
  obtain ⟨K, hK⟩ : ∃ K, L + 2 = M + K := ⟨L - n, by omega⟩
  have hK1 : 1 ≤ K := by omega
  have hDv := Divd.first (A := Ua) (V := V) (n := n) (K := K) m3.out (by omega)
  rw [← hM.out] at hDv
  replace hDv := Far.mk hDv
  have hbvu : ∀ ad, Av = some ad → ad.block ≠ bu := fun ad e => by have := hbv ad e; omega
  have hKl : M + K ≤ 1028 := by omega
  rw [hK] at hU5 hlu hcu
  replace hK := Far.mk hK
  have e1 : decide ((M : Int) + (K : Int) ≤ (M : Int)) = false := decide_eq_false (by omega)
  have e3 : (M : Int) + (K : Int) - (M : Int) = (K : Int) := by omega
  rw [hK.out]
  go_wp2_with (at_make; go_must (refine make_words rfl _ _ rfl w5.heap.size _ _ K rfl rfl (by omega) (by omega) (by omega) (Nat.le_refl _) ?_))
  intro w6 hU6 hg6
  have hb56 : Below w5.heap.size w5 w6 := (Below.refl _ _).grown hg6 (Nat.le_refl _) (by simp)
  replace hU5 := hU5.keep hb56
  have hRv6 := Far.mk (hRv5.below hb56)
  have hs5 := hb5.out.size
  have hb6 := Far.mk (hb5.out.trans (hb56.mono hs5))
  replace hU6 := hU6.lower hs5
  have hqu : w5.heap.size ≠ bu := by omega
  obtain ⟨bq, hbq⟩ : ∃ bq, w5.heap.size = bq := ⟨_, rfl⟩
  rw [hbq] at hU6 hqu hs5 hbub ⊢
  clear hg6 hb56 hb5 hRv5 hbq
  go_wp2_with fail
  go_loopw [12] (fun i wr => ∃ (k : Nat) (u q : List Int), k ≤ K ∧ i = .int .i64 ((k : Int) - 1) ∧ U wr w.heap.size (.slice (some ⟨bu, 0, none⟩) (M + K) cu) u ∧ u.length = M + K ∧ U wr w.heap.size (.slice (some ⟨bq, 0, none⟩) K K) q ∧ q.length = K ∧ Far (Divd Ua V M k u q) ∧ Far (Rd wr Av M (Nv.words V)) ∧ Far (Below w.heap.size w wr)) (fun i _ => (intOf i + 1).toNat)
  case atStart => exact ⟨K, _, _, Nat.le_refl _, by go_num, hU5, hlu, hU6, by simp, hDv, hRv6, hb6⟩
  case round =>
    clear hU5 hU6 hDv hRv6 hb6 hlu
    obtain ⟨k, u, q, hk, rfl, hU, hlu, hQ, hlq, hDv, hRv, hb⟩ := hrel
    have hsz := hb.out.size
    by_cases hk0 : 0 < k
    · obtain ⟨j, rfl⟩ : ∃ j, k = j + 1 := ⟨k - 1, by omega⟩
      have ej : ((j + 1 : Nat) : Int) - 1 = (j : Int) := by omega
      rw [ej]
      have hVl : V < 4294967296 ^ M := by have := m4.out; rwa [← hM.out] at this
      have hDv2 := hDv.out
      rw [hM.out] at hDv2
      have htops := hDv2.tops (nv_words V) m1.out (isW_words V) m2.out
      rw [show n + 2 + 1 = M + 1 by omega] at htops
      obtain ⟨adv, rfl, v1, hv1, hcv1⟩ := hRv.out.get (j := M - 1) (by rw [m1.out]; omega)
      obtain ⟨adv', e', v2, hv2, hcv2⟩ := hRv.out.get (j := M - 2) (by rw [m1.out]; omega)
      cases e'
      obtain ⟨u1, hu1, hcu1, hfu1⟩ := hU.cell hlu (j := j + M - 1) (by omega)
      obtain ⟨u2, hu2, hcu2, hfu2⟩ := hU.cell hlu (j := j + M - 2) (by omega)
      obtain ⟨u0, hu0⟩ : ∃ x, u.getD (j + M) 0 = x := ⟨_, rfl⟩
      rw [show n + 1 = M - 1 by omega, show n = M - 2 by omega, ← hv1, ← hv2, show j + (M - 2 + 2) = j + M by omega, show j + (M - 1) = j + M - 1 by omega, show j + (M - 2) = j + M - 2 by omega, hu0, hu1, hu2] at htops
      have bv1 := (isW_words V).get (M - 1)
      have bv2 := (isW_words V).get (M - 2)
      have bu0 := hDv2.wu.get (j + M)
      have bu1 := hDv2.wu.get (j + M - 1)
      have bu2 := hDv2.wu.get (j + M - 2)
      rw [← hv1] at bv1
      rw [← hv2] at bv2
      rw [hu0] at bu0
      rw [hu1] at bu1
      rw [hu2] at bu2
      obtain ⟨A8, c8, e8, hRu⟩ := hU.rd
      have hAt := Far.mk (fun W (h : ∃ z, W = wr.drewN z) => bn_at (w := W) (n := M + K) (c := c8) (A := A8) (J := (j : Int) + (M : Int)) (j + M) u0 hu0 (by omega) hlu (by obtain ⟨z, rfl⟩ := h; exact hRu) hDv2.wu)
      simp only [Value.slice.injEq] at e8
      obtain ⟨rfl, -, rfl⟩ := e8
      have hadb : adv.block < bu := by have := hbv adv rfl; omega
      have hadq : adv.block ≠ bq := by omega
      clear hu0 hu1 hu2 hv1 hv2 hDv2 hRu hbv hfu1 hfu2
      obtain ⟨v1, rfl⟩ := Int.eq_ofNat_of_zero_le bv1.1
      obtain ⟨v2, rfl⟩ := Int.eq_ofNat_of_zero_le bv2.1
      obtain ⟨u0, rfl⟩ := Int.eq_ofNat_of_zero_le bu0.1
      obtain ⟨u1, rfl⟩ := Int.eq_ofNat_of_zero_le bu1.1
      obtain ⟨u2, rfl⟩ := Int.eq_ofNat_of_zero_le bu2.1
      simp only [Int.toNat_natCast] at htops
      obtain ⟨W, hW⟩ : ∃ W, nv (List.take (M + 1) (List.drop j u)) = W := ⟨_, rfl⟩
      obtain ⟨R, hR0⟩ : ∃ R, 4294967296 ^ (M - 2) = R := ⟨_, rfl⟩
      rw [hW, hR0] at htops
      have hv1h := htops.v1h
      obtain ⟨f1, f2, f3⟩ := htops.first
      obtain ⟨TP, hTP⟩ : ∃ T, u0 * 4294967296 + u1 = T := ⟨_, rfl⟩
      have hUb := htops.Ub
      have hUaa := htops.Ua
      rw [hTP] at f1 f2 f3 hUb hUaa
      replace hUb := Far.mk hUb
      replace hUaa := Far.mk hUaa
      have hTPl : TP < 18446744073709551616 := by omega
      have hor : bits .or .u64 ((u0 : Int) * 4294967296) (u1 : Int) = (TP : Int) := by
        rw [bits_join .u64 64 (by decide) (fun n h1 h2 => wrapU64_eq h1 (by omega)) 32 _ _ (by omega) (by omega) (by omega) (by omega) (by omega) (by omega)]
        omega
      have hor2 : ∀ r : Nat, r < 4294967296 → bits .or .u64 ((r : Int) * 4294967296) (u2 : Int) = ((r * 4294967296 + u2 : Nat) : Int) := fun r hr => by
        rw [bits_join .u64 64 (by decide) (fun n h1 h2 => wrapU64_eq h1 (by omega)) 32 _ _ (by omega) (by omega) (by omega) (by omega) (by omega) (by omega)]
        omega
      have ht1 : Int.tdiv (TP : Int) (v1 : Int) = ((TP / v1 : Nat) : Int) := by rw [Int.tdiv_eq_ediv_of_nonneg (by omega), Int.natCast_ediv]
      have ht2 : Int.tmod (TP : Int) (v1 : Int) = ((TP % v1 : Nat) : Int) := by rw [Int.tmod_eq_emod_of_nonneg (by omega), Int.natCast_emod]
      replace htops := Far.mk htops
      replace hW := Far.mk hW
      replace hor2 := Far.mk hor2
      replace hDv := Far.mk hDv.out
      obtain ⟨G0, hG0⟩ : ∃ g, TP / v1 = g := ⟨_, rfl⟩
      obtain ⟨R0, hR00⟩ : ∃ g, TP % v1 = g := ⟨_, rfl⟩
      rw [hG0] at f1 f2 ht1
      rw [hR00] at f1 f3 ht2
      replace f1 := Far.mk f1
      clear hG0 hR00 hR0 hTP
      go_wp2_with fail
      go_quiet (exact Calls.quiet_of_same (hAt.out _ (by first | exact ⟨_, rfl⟩ | exact ⟨0, rfl⟩)))
      go_wp2_with fail
      go_quiet (fail)
      go_wp2_with fail
      obtain ⟨wo, rfl⟩ : ∃ wo : World, wo = wr := ⟨_, rfl⟩
      go_loopw [14, 15] (fun g r wq => ∃ gn rn : Nat, g = .int .u64 (gn : Int) ∧ r = .int .u64 (rn : Int) ∧ gn ≤ 4294967297 ∧ rn < 4294967296 ∧ Far (Guess W V v1 v2 TP u2 R gn rn) ∧ Far (∃ q, wq = wo.drewN q)) (fun g _ _ => (intOf g).toNat)
      case atStart => exact ⟨G0, R0, rfl, rfl, f2, f3, f1, ⟨_, drew_two _ _ _⟩⟩
      case round =>
        obtain ⟨gn, rn, rfl, rfl, hg1, hr1, hG, hq⟩ := hrel
        have hc1 : wr.cell? (adv.add (M - 1)) = some (.int .u32 (v1 : Int)) := by obtain ⟨z, rfl⟩ := hq.out; exact hcv1
        have hc2 : wr.cell? (adv.add (M - 2)) = some (.int .u32 (v2 : Int)) := by obtain ⟨z, rfl⟩ := hq.out; exact hcv2
        have hc3 : wr.cell? { block := bu, off := j + M - 2 } = some (.int .u32 (u2 : Int)) := by obtain ⟨z, rfl⟩ := hq.out; exact hcu2
        have ho2 := hor2.out rn hr1
        obtain ⟨rr, hrr⟩ : ∃ x, rn * 4294967296 + u2 = x := ⟨_, rfl⟩
        rw [hrr] at ho2
        by_cases c1 : 4294967296 ≤ gn
        · obtain ⟨hd1, hG2⟩ := hG.out.down htops.out.Va hUb.out htops.out.UV (.inl c1)
          obtain ⟨g1, hg1e⟩ : ∃ g1, gn = g1 + 1 := ⟨gn - 1, by omega⟩
          have hgl : g1 ≤ 4294967296 := by omega
          have hgi : (gn : Int) - 1 = (g1 : Int) := by omega
          rw [show gn - 1 = g1 by omega] at hG2
          replace hg1e := Far.mk hg1e
          have hgd : decide ((4294967296 : Int) ≤ (gn : Int)) = true := decide_eq_true (by omega)
          go_wp2_with fail
          go_quiet (fail)
          replace hq := Far.mk (drew_more nq hq.out)
          clear hc1 hc2 hc3
          generalize wr.drewN nq = w7 at *
          have hc1 : w7.cell? (adv.add (M - 1)) = some (.int .u32 (v1 : Int)) := by obtain ⟨z, rfl⟩ := hq.out; exact hcv1
          by_cases c2 : 4294967296 ≤ rn + v1
          · have hrd : decide ((4294967296 : Int) ≤ (rn : Int) + (v1 : Int)) = true := decide_eq_true (by omega)
            have hge : nv (List.take (M + 1) (List.drop j u)) / V ≤ g1 := by rw [hW.out]; exact hG2.ge
            have hle : (g1 - 1) * V ≤ nv (List.take (M + 1) (List.drop j u)) := by
              rw [hW.out]
              refine hG2.last (by omega) hv1h htops.out.Va htops.out.Vb hUaa.out ?_
              have i1 := Nat.mul_le_mul (show g1 ≤ 4294967296 by omega) (show v2 ≤ 4294967296 by omega)
              have i2 := Nat.mul_le_mul_right 4294967296 c2
              omega
            have hg : g1 ≤ 4294967296 := hgl
            clear ho2 hrr hG hG2 hor hor2 ht1 ht2 hAt hcu1 hcu2 f1 c2 c1
            have hUq : U w7 w.heap.size (.slice (some ⟨bu, 0, none⟩) (M + K) cu) u := by obtain ⟨z, rfl⟩ := hq.out; exact hU
            have hQq : U w7 w.heap.size (.slice (some ⟨bq, 0, none⟩) K K) q := by obtain ⟨z, rfl⟩ := hq.out; exact hQ
            have hRq : Rd w7 (some adv) M (Nv.words V) := by obtain ⟨z, rfl⟩ := hq.out; exact hRv.out
            have hbwq : Below w.heap.size w w7 := by obtain ⟨z, rfl⟩ := hq.out; exact below_drawn hb.out
            have hSt := Far.mk (bn_step (w0 := w) (w := w7) (cc := cu - j) (by omega) hUq hlu (by omega) (by omega) hDv.out.wu hRq (m1.out.trans hM.out.symm) hV0 (by omega) hge hle hbwq hbvu)
            have hwin := fun W => run_window W bu (M + K) cu j M (by omega)
            clear hUq hge hle
            go_wp2_with fail
            with_reducible refine hSt.out.mono ?_
            rintro x w8 ⟨out, dg, rfl, hU8, hS8, hb8, hO8⟩
            obtain ⟨hDv8, hdl⟩ := hDv.out.step hVl hV0 (by omega) hS8
            have hQ8 := u_oth hQq hO8 (fun k hk => by cases hk; exact hqu)
            have hlo := hS8.len.trans hlu
            obtain ⟨o8, ho8, hc8, hf8⟩ := hQ8.cell hlq (j := j) (by omega)
            have hset := hQ8.set hlq j (dg : Int)
            have hU9 := u_oth hU8 ((Oth.refl bq w8).set (k := j) (.int .u32 (dg : Int))) (fun k hk => by cases hk; exact fun e => hqu e.symm)
            have hR9 := Far.mk (((Oth.refl bq w8).set (k := j) (.int .u32 (dg : Int))).rd (hO8.rd hRq hbvu) (fun ad e => by cases e; omega))
            have hlq2 : (q.set j (dg : Int)).length = K := by rw [List.length_set]; exact hlq
            replace hDv8 := Far.mk hDv8
            replace hb8 := Far.mk (hb8.setCell (p := ⟨bq, j, none⟩) hs5 (.int .u32 (dg : Int)))
            clear hSt hQq hRq hbwq hS8 hO8 hU8 hQ8 ho8 hwin hq hDv hRv hb hU hQ
            go_wp2_with fail
            go_roundw
            case rel => exact ⟨j, out, _, by omega, by first | rfl | go_num, hU9, hlo, hset, hlq2, hDv8, hR9, hb8⟩
            case measure => simp [intOf] <;> omega
          · have hrd : decide ((4294967296 : Int) ≤ (rn : Int) + (v1 : Int)) = false := decide_eq_false (by omega)
            have hr2 : rn + v1 < 4294967296 := by omega
            replace hr2 := Far.mk hr2
            clear hor ht1 ht2 hAt ho2 hrr hG c2 c1
            go_wp2_with fail
            go_roundw
            case rel => exact ⟨g1, rn + v1, by first | rfl | go_num, by first | rfl | go_num, by omega, hr2.out, ⟨hG2⟩, hq⟩
            case measure => have h9 := hg1e.out; simp [intOf]; omega
        · have hgd : decide ((4294967296 : Int) ≤ (gn : Int)) = false := decide_eq_false (by omega)
          have hm0 : 0 ≤ (gn : Int) * (v2 : Int) := Int.mul_nonneg (by omega) (by omega)
          have hm1 : (gn : Int) * (v2 : Int) ≤ 4294967295 * 4294967295 := Int.mul_le_mul (by omega) (by omega) (by omega) (by decide)
          have hmn : (gn : Int) * (v2 : Int) = ((gn * v2 : Nat) : Int) := by rw [Int.natCast_mul]
          by_cases c3 : rr < gn * v2
          · obtain ⟨hd1, hG2⟩ := hG.out.down htops.out.Va hUb.out htops.out.UV (.inr (by rw [hrr]; exact c3))
            obtain ⟨g1, hg1e⟩ : ∃ g1, gn = g1 + 1 := ⟨gn - 1, by omega⟩
            have hgl : g1 ≤ 4294967296 := by omega
            have hgi : (gn : Int) - 1 = (g1 : Int) := by omega
            rw [show gn - 1 = g1 by omega] at hG2
            replace hg1e := Far.mk hg1e
            have hgt : decide ((rr : Int) < (gn : Int) * (v2 : Int)) = true := decide_eq_true (by rw [hmn]; omega)
            replace hmn := Far.mk hmn
            go_wp2_with fail
            go_quiet (fail)
            replace hq := Far.mk (drew_more nq hq.out)
            clear hc1 hc2 hc3
            generalize wr.drewN nq = w7 at *
            have hc1 : w7.cell? (adv.add (M - 1)) = some (.int .u32 (v1 : Int)) := by obtain ⟨z, rfl⟩ := hq.out; exact hcv1
            by_cases c2 : 4294967296 ≤ rn + v1
            · have hrd : decide ((4294967296 : Int) ≤ (rn : Int) + (v1 : Int)) = true := decide_eq_true (by omega)
              have hge : nv (List.take (M + 1) (List.drop j u)) / V ≤ g1 := by rw [hW.out]; exact hG2.ge
              have hle : (g1 - 1) * V ≤ nv (List.take (M + 1) (List.drop j u)) := by
                rw [hW.out]
                refine hG2.last (by omega) hv1h htops.out.Va htops.out.Vb hUaa.out ?_
                have i1 := Nat.mul_le_mul (show g1 ≤ 4294967296 by omega) (show v2 ≤ 4294967296 by omega)
                have i2 := Nat.mul_le_mul_right 4294967296 c2
                omega
              have hg : g1 ≤ 4294967296 := hgl
              clear ho2 hrr hG hG2 hor hor2 ht1 ht2 hAt hcu1 hcu2 f1 c2 c1
              have hUq : U w7 w.heap.size (.slice (some ⟨bu, 0, none⟩) (M + K) cu) u := by obtain ⟨z, rfl⟩ := hq.out; exact hU
              have hQq : U w7 w.heap.size (.slice (some ⟨bq, 0, none⟩) K K) q := by obtain ⟨z, rfl⟩ := hq.out; exact hQ
              have hRq : Rd w7 (some adv) M (Nv.words V) := by obtain ⟨z, rfl⟩ := hq.out; exact hRv.out
              have hbwq : Below w.heap.size w w7 := by obtain ⟨z, rfl⟩ := hq.out; exact below_drawn hb.out
              have hSt := Far.mk (bn_step (w0 := w) (w := w7) (cc := cu - j) (by omega) hUq hlu (by omega) (by omega) hDv.out.wu hRq (m1.out.trans hM.out.symm) hV0 (by omega) hge hle hbwq hbvu)
              have hwin := fun W => run_window W bu (M + K) cu j M (by omega)
              clear hUq hge hle
              go_wp2_with fail
              with_reducible refine hSt.out.mono ?_
              rintro x w8 ⟨out, dg, rfl, hU8, hS8, hb8, hO8⟩
              obtain ⟨hDv8, hdl⟩ := hDv.out.step hVl hV0 (by omega) hS8
              have hQ8 := u_oth hQq hO8 (fun k hk => by cases hk; exact hqu)
              have hlo := hS8.len.trans hlu
              obtain ⟨o8, ho8, hc8, hf8⟩ := hQ8.cell hlq (j := j) (by omega)
              have hset := hQ8.set hlq j (dg : Int)
              have hU9 := u_oth hU8 ((Oth.refl bq w8).set (k := j) (.int .u32 (dg : Int))) (fun k hk => by cases hk; exact fun e => hqu e.symm)
              have hR9 := Far.mk (((Oth.refl bq w8).set (k := j) (.int .u32 (dg : Int))).rd (hO8.rd hRq hbvu) (fun ad e => by cases e; omega))
              have hlq2 : (q.set j (dg : Int)).length = K := by rw [List.length_set]; exact hlq
              replace hDv8 := Far.mk hDv8
              replace hb8 := Far.mk (hb8.setCell (p := ⟨bq, j, none⟩) hs5 (.int .u32 (dg : Int)))
              clear hSt hQq hRq hbwq hS8 hO8 hU8 hQ8 ho8 hwin hq hDv hRv hb hU hQ
              go_wp2_with fail
              go_roundw
              case rel => exact ⟨j, out, _, by omega, by first | rfl | go_num, hU9, hlo, hset, hlq2, hDv8, hR9, hb8⟩
              case measure => simp [intOf] <;> omega
            · have hrd : decide ((4294967296 : Int) ≤ (rn : Int) + (v1 : Int)) = false := decide_eq_false (by omega)
              have hr2 : rn + v1 < 4294967296 := by omega
              replace hr2 := Far.mk hr2
              clear hor ht1 ht2 hAt ho2 hrr hG c2 c1
              go_wp2_with fail
              go_roundw
              case rel => exact ⟨g1, rn + v1, by first | rfl | go_num, by first | rfl | go_num, by omega, hr2.out, ⟨hG2⟩, hq⟩
              case measure => have h9 := hg1e.out; simp [intOf]; omega
          · have hgt : decide ((rr : Int) < (gn : Int) * (v2 : Int)) = false := decide_eq_false (by rw [hmn]; omega)
            have hge : nv (List.take (M + 1) (List.drop j u)) / V ≤ gn := by rw [hW.out]; exact hG.out.ge
            have hle : (gn - 1) * V ≤ nv (List.take (M + 1) (List.drop j u)) := by
              rw [hW.out]
              exact hG.out.last (by omega) hv1h htops.out.Va htops.out.Vb hUaa.out (by rw [hrr]; omega)
            have hg : gn ≤ 4294967296 := by omega
            replace hmn := Far.mk hmn
            go_wp2_with fail
            go_quiet (fail)
            replace hq := Far.mk (drew_more nq hq.out)
            clear hc1 hc2 hc3
            generalize wr.drewN nq = w7 at *
            clear ho2 hrr hG hor hor2 ht1 ht2 hAt hcu1 hcu2 f1 hmn hm0 hm1 hgt hgd
            have hUq : U w7 w.heap.size (.slice (some ⟨bu, 0, none⟩) (M + K) cu) u := by obtain ⟨z, rfl⟩ := hq.out; exact hU
            have hQq : U w7 w.heap.size (.slice (some ⟨bq, 0, none⟩) K K) q := by obtain ⟨z, rfl⟩ := hq.out; exact hQ
            have hRq : Rd w7 (some adv) M (Nv.words V) := by obtain ⟨z, rfl⟩ := hq.out; exact hRv.out
            have hbwq : Below w.heap.size w w7 := by obtain ⟨z, rfl⟩ := hq.out; exact below_drawn hb.out
            have hSt := Far.mk (bn_step (w0 := w) (w := w7) (cc := cu - j) (by omega) hUq hlu (by omega) (by omega) hDv.out.wu hRq (m1.out.trans hM.out.symm) hV0 (by omega) hge hle hbwq hbvu)
            have hwin := fun W => run_window W bu (M + K) cu j M (by omega)
            clear hUq hge hle
            go_wp2_with fail
            with_reducible refine hSt.out.mono ?_
            rintro x w8 ⟨out, dg, rfl, hU8, hS8, hb8, hO8⟩
            obtain ⟨hDv8, hdl⟩ := hDv.out.step hVl hV0 (by omega) hS8
            have hQ8 := u_oth hQq hO8 (fun k hk => by cases hk; exact hqu)
            have hlo := hS8.len.trans hlu
            obtain ⟨o8, ho8, hc8, hf8⟩ := hQ8.cell hlq (j := j) (by omega)
            have hset := hQ8.set hlq j (dg : Int)
            have hU9 := u_oth hU8 ((Oth.refl bq w8).set (k := j) (.int .u32 (dg : Int))) (fun k hk => by cases hk; exact fun e => hqu e.symm)
            have hR9 := Far.mk (((Oth.refl bq w8).set (k := j) (.int .u32 (dg : Int))).rd (hO8.rd hRq hbvu) (fun ad e => by cases e; omega))
            have hlq2 : (q.set j (dg : Int)).length = K := by rw [List.length_set]; exact hlq
            replace hDv8 := Far.mk hDv8
            replace hb8 := Far.mk (hb8.setCell (p := ⟨bq, j, none⟩) hs5 (.int .u32 (dg : Int)))
            clear hSt hQq hRq hbwq hS8 hO8 hU8 hQ8 ho8 hwin hq hDv hRv hb hU hQ
            go_wp2_with fail
            go_roundw
            case rel => exact ⟨j, out, _, by omega, by first | rfl | go_num, hU9, hlo, hset, hlq2, hDv8, hR9, hb8⟩
            case measure => simp [intOf] <;> omega
    · have hk0' : k = 0 := by omega
      subst hk0'
      obtain ⟨hd1, hd2⟩ := hDv.out.last
      rw [q1.out] at hd1
      obtain ⟨A8, c8, e8, hRu⟩ := hU.rd
      simp only [Value.slice.injEq] at e8
      obtain ⟨rfl, -, rfl⟩ := e8
      obtain ⟨A9, c9, e9, hRq⟩ := hQ.rd
      simp only [Value.slice.injEq] at e9
      obtain ⟨rfl, -, rfl⟩ := e9
      have hSh := bn_Shr (n := M + K) (K := (s : Int)) rfl hlu hRu hDv.out.wu (by omega) (by omega)
      rw [hd2, q2.out] at hSh
      replace hSh := Far.mk hSh
      have hC := Far.mk (fun W (h : Below wr.heap.size wr W) => bcut (w := W) hlq (hRq.below h) hDv.out.wq (by omega))
      rw [hd1] at hC
      clear hRu hRq hU hQ hDv hd1 hd2
      go_wp2_with fail
      with_reducible refine hSh.out.mono ?_
      rintro x w8 ⟨A10, c10, b10, rfl, hR10, hb10⟩
      replace hR10 := Far.mk hR10
      go_wp2_with fail
      with_reducible refine (hC.out _ hb10).mono ?_
      rintro x w9 ⟨rfl, hw, hR11⟩
      replace hw := hw.symm
      subst hw
      replace hR11 := Far.mk hR11
      go_wp2_with fail
      go_ret2
      exact ⟨_, _, A10, c10, rfl, hR11.out, hR10.out, hb.out.trans (hb10.mono hsz)⟩
end Us
end Go.Proofs.YtdpbpdhamekcdaaGreatDoor
