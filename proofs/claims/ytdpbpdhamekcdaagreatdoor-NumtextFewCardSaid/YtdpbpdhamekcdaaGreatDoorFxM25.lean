/-
  A contract of bignum.Shr (what is told of the quotient). Conditions: the words are words; the count is not below 0.
-/
import Derived.Test.YtdpbpdhamekcdaaGreatDoorFxM24
namespace Go.Proofs.YtdpbpdhamekcdaaGreatDoor
open Go.RowKit
namespace Nv

set_option maxRecDepth 100000 in
theorem bn_Shr_one {x : Int} {w : World} : Calls Tryz.prog 139 #[.int .u32 x] w fun e w' => (∃ b, e = .returned (.bool b)) ∧ w' = w := by
  go_enter Tryz.func139, Tryz.ntmps139
  go_wp2_with fail
  go_ret
  exact ⟨⟨_, rfl⟩, rfl⟩
set_option maxRecDepth 100000 in
theorem sl_IndexFuncW {A : Option Addr} {n c d : Nat} {l : List Int} {w : World} (hn : n ≤ l.length) (hl : l.length ≤ 1000000) (hr : Rd w A c l) : Calls Tryz.prog 195 #[.slice A n d, .func (.func 139) #[] #[]] w fun x w' => (∃ i : Int, x = .returned (.int .i64 i)) ∧ w' = w := by
  replace hr := Far.mk hr
  go_enter Tryz.func195, Tryz.ntmps195
  go_wp2_with fail
  go_loopw [8] (fun i wr => ∃ k : Nat, k ≤ n ∧ i = .int .i64 k ∧ wr = w) (fun i _ => n - (intOf i).toNat)
  case atStart => exact ⟨0, Nat.zero_le _, rfl, rfl⟩
  case round =>
    obtain ⟨k, hk, rfl, rfl⟩ := hrel
    by_cases hkn : k < n
    · obtain ⟨ad, rfl, x, hx, hc⟩ := hr.out.get (j := k) (by omega)
      have hO := Far.mk (bn_Shr_one (x := x) (w := wr))
      replace hx := Far.mk hx
      go_wp2_with fail
      with_reducible refine hO.out.mono ?_
      rintro x w3 ⟨⟨b, rfl⟩, hw⟩
      replace hw := hw.symm
      subst hw
      cases b with
      | true =>
        go_wp2_with fail
        go_ret
        exact ⟨⟨_, rfl⟩, rfl⟩
      | false =>
        go_wp2_with fail
        go_roundw
        case rel => exact ⟨k + 1, by omega, by go_num, by first | rfl | trivial⟩
        case measure => simp [intOf] <;> omega
    · go_wp2_with fail
      go_ret
      exact ⟨⟨_, rfl⟩, rfl⟩
set_option maxRecDepth 100000 in
theorem sl_ContainsFuncW {A : Option Addr} {n c d : Nat} {l : List Int} {w : World} (hn : n ≤ l.length) (hl : l.length ≤ 1000000) (hr : Rd w A c l) : Calls Tryz.prog 138 #[.slice A n d, .func (.func 139) #[] #[]] w fun x w' => (∃ b, x = .returned (.bool b)) ∧ w' = w := by
  replace hr := Far.mk (sl_IndexFuncW (d := d) hn hl hr)
  go_enter Tryz.func138, Tryz.ntmps138
  go_wp2_with fail
  with_reducible refine hr.out.mono ?_
  rintro x w3 ⟨⟨i, rfl⟩, hw⟩
  replace hw := hw.symm
  subst hw
  go_wp2_with fail
  go_ret
  exact ⟨⟨_, rfl⟩, rfl⟩
theorem run_takeC (W : World) (A : Option Addr) (n c k : Nat) (hk : k ≤ c) : (Instr.slice 73 (.slice A n c) none (some (.int .i64 (k : Int))) none).run Tryz.prog W = .ok (.slice A k c) W := run_take W A n c k hk
theorem Rd.cap {w : World} {A : Option Addr} {c c' : Nat} {l : List Int} (h : Rd w A c l) (h1 : l.length ≤ c') (h2 : A = none → c' = 0) : Rd w A c' l := ⟨h1, h2, h.2.2⟩
set_option maxRecDepth 100000 in
set_option maxHeartbeats 800000 in
theorem bn_Shr {l : List Int} {A : Option Addr} {n c k : Nat} {K : Int} {w : World} (hK : K = (k : Int)) (hnl : l.length = n) (hr : Rd w A c l) (hW : IsW l) (hn : l.length ≤ 100000) (hk : k ≤ 4000000) :
    Calls Tryz.prog 80 #[.slice A n c, .int .i64 K] w fun x w' => ∃ A' c' b, x = .returned (.tuple #[.slice A' (words (nv l / 2 ^ k)).length c', .bool b]) ∧ Rd w' A' c' (words (nv l / 2 ^ k)) ∧ Below w.heap.size w w' := by
  subst hK
  have hC := Far.mk (bcut hnl hr hW (by omega))
  have hL0 : (words (nv l)).length ≤ 100000 := Nat.le_trans (words_len (nv_lt hW)) hn
  clear hr hW hnl hn
  generalize nv l = N at *
  obtain ⟨L, hL⟩ : ∃ L, (words N).length = L := ⟨_, rfl⟩
  have hlt := lt_len N
  rw [hL] at hC hL0 hlt
  replace hlt := Far.mk hlt
  have hg := Far.mk (words_get N)
  go_enter Tryz.func80, Tryz.ntmps80
  go_wp2_with fail
  with_reducible refine hC.out.mono ?_
  rintro x w3 ⟨rfl, hw, hR⟩
  replace hw := hw.symm
  subst hw
  have hF := Far.mk (fun (d m : Nat) (hm : m ≤ L) => sl_ContainsFuncW (c := L) (d := d) (n := m) (w := w) (by omega) (by omega) hR)
  replace hR := Far.mk hR
  clear hC
  by_cases g : k / 32 < L
  · have hcut := fun W => run_takeC W A L L (k / 32) (by omega)
    have ek : ((k : Int) / 32).toNat = k / 32 := by omega
    go_wp2_with fail
    with_reducible refine (hF.out _ _ (by omega)).mono ?_
    rintro x w3 ⟨⟨bl, rfl⟩, hw⟩
    replace hw := hw.symm
    subst hw
    obtain ⟨ad, rfl, xw, hxw, hcw⟩ := hR.out.get (j := k / 32) (by omega)
    replace hxw := Far.mk hxw
    obtain ⟨H, hH⟩ : ∃ H, N / 2 ^ k = H := ⟨_, rfl⟩
    have sw := fun i hi => shr_word N k i hi
    rw [hH] at sw
    replace sw := Far.mk sw
    have hHl : H < 4294967296 ^ (L - k / 32) := by
      rw [← hH]
      apply Nat.div_lt_of_lt_mul
      have h1 := hlt.out
      rw [show L = k / 32 + (L - k / 32) by omega, Nat.pow_add] at h1
      have h2 : 4294967296 ^ (k / 32) ≤ 2 ^ k := by
        rw [← pow_word k]
        exact Nat.le_mul_of_pos_right _ (Nat.pow_pos (by decide))
      exact Nat.lt_of_lt_of_le h1 (Nat.mul_le_mul_right _ h2)
    replace hHl := Far.mk hHl
    clear hF hlt
    cases bl
    all_goals
      go_wp2_with fail
      go_quiet (fail)
      have hb0 : Below w.heap.size w (w.drewN nq) := below_drawn (Below.refl _ _)
      have hR0 : Far (Rd (w.drewN nq) (some ad) L (words N)) := ⟨hR.out.below hb0⟩
      replace hb0 := Far.mk hb0
      clear hcut hcw hxw hR ek
      generalize w.drewN nq = w1 at *
      have hs1 := hb0.out.size
      go_wp2_with (at_make; go_must (refine make_words rfl _ _ rfl w1.heap.size _ _ (L - k / 32) rfl rfl (by omega) (by omega) (by omega) (Nat.le_refl _) ?_))
      intro w2 hu2 hg2
      have hb2 : Below w1.heap.size w1 w2 := (Below.refl _ _).grown hg2 (Nat.le_refl _) (by simp)
      clear hg2
      go_wp2_with fail
      go_loopw [52] (fun i wr => ∃ (t : Nat) (out : List Int), t ≤ L - k / 32 ∧ i = .int .i64 t ∧ U wr w1.heap.size (.slice (some ⟨w1.heap.size, 0, none⟩) (L - k / 32) (L - k / 32)) out ∧ out.length = L - k / 32 ∧ Far (IsW out ∧ nv (out.take t) = H % 4294967296 ^ t) ∧ Far (Below w1.heap.size w1 wr))
        (fun i _ => L - k / 32 - (intOf i).toNat)
      case atStart => exact ⟨0, _, Nat.zero_le _, rfl, hu2, by simp, ⟨IsW.zeros _, by simp [nv, Nat.mod_one]⟩, ⟨hb2⟩⟩
      case round =>
        clear hu2 hb2
        obtain ⟨t, out, ht, rfl, hu, hlen, hv, hb⟩ := hrel
        have hsz := hb.out.size
        by_cases htl : t < L - k / 32
        · obtain ⟨x1, hx1⟩ : ∃ x, (words N).getD (k / 32 + t) 0 = x := ⟨_, rfl⟩
          obtain ⟨x2, hx2⟩ : ∃ x, (words N).getD (k / 32 + t + 1) 0 = x := ⟨_, rfl⟩
          have b1 := (isW_words N).get (k / 32 + t)
          have b2 := (isW_words N).get (k / 32 + t + 1)
          rw [hx1] at b1
          rw [hx2] at b2
          have hor : bits .or .u64 (x2 * 4294967296) x1 = x2 * 4294967296 + x1 :=
            bits_join .u64 64 (by decide) (fun n h1 h2 => wrapU64_eq h1 (by omega)) 32 _ _ (by omega) (by omega) (by omega) b1.1 (by omega) (by omega)
          have hval : (x2 * 4294967296 + x1) / 2 ^ (k % 32) % 4294967296 = ((H / 4294967296 ^ t % 4294967296 : Nat) : Int) := by
            rw [← hx1, ← hx2, hg.out, hg.out]
            have e := sw.out (k / 32 + t) (by omega)
            rw [show k / 32 + t - k / 32 = t by omega] at e
            rw [← e]
            generalize N / 4294967296 ^ (k / 32 + t) % 4294967296 = p
            generalize N / 4294967296 ^ (k / 32 + t + 1) % 4294967296 = q
            rw [show ((q : Int) * 4294967296 + (p : Int)) = ((p + 4294967296 * q : Nat) : Int) by omega, Int.natCast_emod, Int.natCast_ediv, Int.natCast_pow]
            rfl
          have hpush := nv_push (out := out.take t) (by rw [List.length_take]; omega) hv.out.2
          rw [← hval, ← take_set_succ (by omega)] at hpush
          have hset := hu.set hlen t ((x2 * 4294967296 + x1) / 2 ^ (k % 32) % 4294967296)
          have hW2 : IsW (out.set t ((x2 * 4294967296 + x1) / 2 ^ (k % 32) % 4294967296)) := hv.out.1.set _ (by omega) (by omega)
          have hbnd : 0 ≤ (x2 * 4294967296 + x1) / 2 ^ (k % 32) := Int.ediv_nonneg (by omega) (Int.le_of_lt (Int.pow_pos (by decide)))
          obtain ⟨o, ho, hco, hfo⟩ := hu.cell hlen (j := t) htl
          have hA1 := Far.mk (fun W (h : Below w1.heap.size w1 W) => bn_at (w := W) (J := (k : Int) / 32 + (t : Int)) (k / 32 + t) x1 hx1 (by omega) hL (hR0.out.below h) (isW_words N))
          have hA2 := Far.mk (fun W (h : Below w1.heap.size w1 W) => bn_at (w := W) (J := (k : Int) / 32 + (t : Int) + 1) (k / 32 + t + 1) x2 hx2 (by omega) hL (hR0.out.below h) (isW_words N))
          replace hpush := Far.mk hpush
          clear ho hval hx1 hx2
          go_wp2_with fail
          with_reducible refine (hA2.out _ hb.out).mono ?_
          rintro x w5 ⟨rfl, hw⟩
          replace hw := hw.symm
          subst hw
          go_wp2_with fail
          with_reducible refine (hA1.out _ hb.out).mono ?_
          rintro x w5 ⟨rfl, hw⟩
          replace hw := hw.symm
          subst hw
          go_wp2_with fail
          go_roundw
          case rel => first | exact ⟨t + 1, _, by omega, by go_num, hset, by rw [List.length_set]; exact hlen, ⟨hW2, hpush.out⟩, ⟨hb.out.setCell (Nat.le_refl _) _⟩⟩ | ((repeat apply Exists.intro); exact ⟨⟨t + 1, _, by omega, by go_num, hset, by rw [List.length_set]; exact hlen, ⟨hW2, hpush.out⟩, ⟨hb.out.setCell (Nat.le_refl _) _⟩⟩, rfl⟩)
          case measure => simp [intOf] <;> omega
        · have hte : t = L - k / 32 := by omega
          subst hte
          obtain ⟨A', c', e', hR3⟩ := hu.rd
          simp only [Value.slice.injEq] at e'
          obtain ⟨rfl, -, rfl⟩ := e'
          have hv' := hv.out.2
          rw [List.take_of_length_le (by omega), Nat.mod_eq_of_lt hHl.out] at hv'
          have hC := bcut hlen hR3 hv.out.1 (by omega)
          rw [hv'] at hC
          replace hC := Far.mk hC
          go_wp2_with fail
          with_reducible refine hC.out.mono ?_
          rintro x w5 ⟨rfl, hw, hR5⟩
          replace hw := hw.symm
          subst hw
          replace hR5 := Far.mk hR5
          go_wp2_with fail
          go_ret2
          rw [hH]
          exact ⟨_, _, _, rfl, hR5.out, hb0.out.trans (hb.out.mono hs1)⟩
  · have hz : N / 2 ^ k = 0 := Nat.div_eq_of_lt (Nat.lt_of_lt_of_le hlt.out (by
      rw [show (4294967296 : Nat) = 2 ^ 32 from rfl, ← Nat.pow_mul]
      exact Nat.pow_le_pow_right (by decide) (by omega)))
    by_cases g2 : L < k / 32
    · go_wp2_with fail
      with_reducible refine (hF.out _ _ (Nat.le_refl _)).mono ?_
      rintro x w3 ⟨⟨bl, rfl⟩, hw⟩
      replace hw := hw.symm
      subst hw
      go_wp2_with fail
      go_ret2
      rw [hz, words_zero]
      exact ⟨none, 0, bl, rfl, Rd.nil _, Below.refl _ _⟩
    · have ek2 : (k : Int) / 32 = (L : Int) := by omega
      go_wp2_with fail
      with_reducible refine (hF.out _ _ (Nat.le_refl _)).mono ?_
      rintro x w3 ⟨⟨bl, rfl⟩, hw⟩
      replace hw := hw.symm
      subst hw
      go_wp2_with fail
      go_ret2
      rw [hz, words_zero]
      exact ⟨none, 0, bl, rfl, Rd.nil _, Below.refl _ _⟩
end Nv
end Go.Proofs.YtdpbpdhamekcdaaGreatDoor
