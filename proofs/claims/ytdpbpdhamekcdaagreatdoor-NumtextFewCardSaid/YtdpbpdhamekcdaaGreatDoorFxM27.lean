/-
  Contracts of bignum.Pow at 10, Add. Conditions: the numbers are no longer than may be. Plain laws of long division (Knuth's algorithm D): the digit that is guessed is the quotient's or one more; what a step leaves. No program in sight. Plain laws of long division, continued: a step's end; the round; the quotient and the rest. No program in sight.
-/
import Derived.Test.YtdpbpdhamekcdaaGreatDoorFxM26
import Derived.Test.YtdpbpdhamekcdaaGreatDoorBaM5
namespace Go.Proofs.YtdpbpdhamekcdaaGreatDoor
open Go.RowKit
namespace Nv

theorem Rd.lit1 (w : World) (x : Int) : Rd (w.alloc (.cells #[.int .u32 x] 22)) (some ⟨w.heap.size, 0, none⟩) 1 [x] := Rd.one w x
set_option maxRecDepth 100000 in
theorem bn_Pow10 {k : Nat} {K : Int} {w : World} (hK : K = (k : Int)) (hk : k ≤ 1000) : Calls Tryz.prog 200 #[.int .u32 10, .int .i64 K] w (GivesE w (10 ^ k)) := by
  subst hK
  have hlen : ∀ j, j ≤ 1000 → (words (10 ^ j)).length ≤ 1001 := fun j hj => Nat.le_trans (pow_len j) (by omega)
  replace hlen := Far.mk hlen
  go_enter Tryz.func200, Tryz.ntmps200
  by_cases h0 : k = 0
  · subst h0
    go_wp2_with fail
    go_ret2
    exact ⟨some ⟨w.heap.size, 0, none⟩, 1, by rw [Nat.pow_zero, words_1]; rfl, by rw [Nat.pow_zero, words_1]; exact Rd.one w 1, (Below.refl _ _).alloc (Nat.le_refl _) _⟩
  · have e1 : decide ((k : Int) < 0) = false := by simp
    have e2 : ((k : Int) == 0) = false := by simp; omega
    go_wp2_with fail
    go_loopw [6, 25] (fun v i wr => ∃ (j : Nat) (A : Option Addr) (c : Nat), j ≤ k ∧ i = .int .i64 j ∧ v = .slice A (words (10 ^ j)).length c ∧ Far (Rd wr A c (words (10 ^ j))) ∧ Far (Below w.heap.size w wr)) (fun _ i _ => k - (intOf i).toNat)
    case atStart => exact ⟨0, _, 1, Nat.zero_le _, rfl, by rw [Nat.pow_zero, words_1]; rfl, ⟨by rw [Nat.pow_zero, words_1]; exact Rd.one w 1⟩, ⟨(Below.refl _ _).alloc (Nat.le_refl _) _⟩⟩
    case round =>
      obtain ⟨j, A, c, hj, rfl, rfl, hR, hb⟩ := hrel
      have hsz := hb.out.size
      have hlj := hlen.out j (by omega)
      by_cases hjk : j < k
      · have hlj1 := hlen.out (j + 1) (by omega)
        have hal := (Below.refl wr.heap.size wr).alloc (Nat.le_refl _) (.cells #[.int .u32 10] 22)
        have hM := bn_Mul (m := [10]) (p := 1) rfl rfl (hR.out.below hal) (isW_words (10 ^ j)) (by omega) (Rd.one wr 10) (IsW.one (by decide) (by decide)) (by decide) (by rw [nv_words, show nv [10] = 10 from rfl, show 10 ^ j * 10 = 10 ^ (j + 1) from rfl]; omega)
        rw [nv_words, show nv [10] = 10 from rfl, show 10 ^ j * 10 = 10 ^ (j + 1) from rfl] at hM
        replace hM := Far.mk hM
        have hbn := Far.mk (hb.out.trans (hal.mono hsz))
        clear hal hR hb
        go_wp2_with fail
        with_reducible refine hM.out.mono ?_
        rintro x w3 ⟨A3, c3, rfl, hR3, hb3⟩
        replace hR3 := Far.mk hR3
        have hb3' := Far.mk (hbn.out.trans (hb3.mono (by simp; omega)))
        clear hb3 hbn hM
        go_wp2_with fail
        go_roundw
        case rel => exact ⟨j + 1, A3, c3, by omega, by go_num, rfl, hR3, hb3'⟩
        case measure => simp [intOf] <;> omega
      · obtain rfl : j = k := by omega
        go_wp2_with fail
        go_ret2
        exact ⟨A, c, rfl, hR.out, hb.out⟩
set_option maxRecDepth 100000 in
/-- Add. -/
theorem bn_Add {l m : List Int} {A B : Option Addr} {n p c d : Nat} {w : World} (hnl : l.length = n) (hpm : m.length = p) (hr : Rd w A c l) (hW : IsW l) (hn : l.length ≤ 1024) (hr2 : Rd w B d m) (hW2 : IsW m) (hn2 : m.length ≤ 1024) (hmax : (words (nv l + nv m)).length ≤ 1024) :
    Calls Tryz.prog 155 #[.slice A n c, .slice B p d] w (GivesE w (nv l + nv m)) := by
  have hl1 : (words (nv l)).length ≤ 1024 := Nat.le_trans (words_len (nv_lt hW)) hn
  have hl2 : (words (nv m)).length ≤ 1024 := Nat.le_trans (words_len (nv_lt hW2)) hn2
  have hL := Far.mk (bn_long2 (t := 73) (Sh.of hnl hr hW (by omega) hl1) (Sh.of hpm hr2 hW2 (by omega) hl2))
  have hC1 := Far.mk (fun W (h : Below w.heap.size w W) => bcut (w := W) hnl (hr.below h) hW (by omega))
  have hC2 := Far.mk (fun W (h : Below w.heap.size w W) => bcut (w := W) hpm (hr2.below h) hW2 (by omega))
  clear hr hr2 hW hW2 hn hn2
  generalize nv l = a at *
  generalize nv m = b at *
  have hB0 := (Below.refl w.heap.size w).alloc (Nat.le_refl _) (.cells #[.slice A n c, .slice B p d] 73)
  replace hB0 := Far.mk hB0
  obtain ⟨L, hLL⟩ : ∃ L, (words a).length = L := ⟨_, rfl⟩
  obtain ⟨M, hMM⟩ : ∃ L, (words b).length = L := ⟨_, rfl⟩
  rw [hLL] at hC1 hl1
  rw [hMM] at hC2 hl2
  go_enter Tryz.func155, Tryz.ntmps155
  go_wp2_with fail
  with_reducible refine hL.out.mono ?_
  rintro x w3 ⟨rfl, hw⟩
  replace hB0 : Far (Below w.heap.size w w3) := ⟨by rw [hw]; exact hB0.out⟩
  clear hw hL
  go_wp2_with fail
  with_reducible refine (hC1.out _ hB0.out).mono ?_
  rintro x w5 ⟨rfl, hw, hR1⟩
  replace hw := hw.symm
  subst hw
  replace hR1 := Far.mk hR1
  go_wp2_with fail
  with_reducible refine (hC2.out _ hB0.out).mono ?_
  rintro x w5 ⟨rfl, hw, hR2⟩
  replace hw := hw.symm
  subst hw
  replace hR2 := Far.mk hR2
  have hs3 := hB0.out.size
  clear hC1 hC2 hnl hpm
  have hT : ∃ T, L ≤ T ∧ M ≤ T ∧ (L < M → T = M) ∧ (¬ L < M → T = L) := ⟨max L M, by omega, by omega, by omega, by omega⟩
  obtain ⟨T, hT1, hT2, hT3, hT4⟩ := hT
  by_cases hLM : L < M
  · obtain rfl := hT3 hLM
    clear hT4 hT3
    go_wp2_with fail
    go_loopw [6, 7, 24] (fun v cy i wr => ∃ (k : Nat) (out : List Int) (y : Int), k ≤ T + 1 ∧ cy = .int .u64 y ∧ i = .int .i64 k ∧ U wr w3.heap.size v out ∧ (0 ≤ y ∧ y ≤ 1) ∧ out.length = k ∧ Far (IsW out ∧ nv out + y.toNat * 4294967296 ^ k = nv ((words a).take k) + nv ((words b).take k)) ∧ Far (Below w3.heap.size w3 wr))
      (fun _ _ i _ => T + 1 - (intOf i).toNat)
    case atStart => exact ⟨0, [], 0, Nat.zero_le _, rfl, rfl, U.nil _ _, by omega, rfl, ⟨fun a ha => (by cases ha), by simp [nv]⟩, ⟨Below.refl _ _⟩⟩
    case round =>
      obtain ⟨k, out, y, hk, rfl, rfl, hu, hy, hlen, hv, hb⟩ := hrel
      have hsz := hb.out.size
      by_cases hlt : k < T + 1
      · obtain ⟨x1, hx1⟩ : ∃ x, (words a).getD k 0 = x := ⟨_, rfl⟩
        obtain ⟨x2, hx2⟩ : ∃ x, (words b).getD k 0 = x := ⟨_, rfl⟩
        have b1 := (isW_words a).get k
        have b2 := (isW_words b).get k
        rw [hx1] at b1
        rw [hx2] at b2
        have hA1 := Far.mk (bn_at (w := wr) (J := (k : Int)) k x1 hx1 rfl hLL (hR1.out.below hb.out) (isW_words a))
        have hA2 := Far.mk (bn_at (w := wr) (J := (k : Int)) k x2 hx2 rfl hMM (hR2.out.below hb.out) (isW_words b))
        have st := Far.mk (plus_step hlen hv.out.1 hv.out.2 hx1 hx2 b1 b2 hy)
        clear hx1 hx2
        go_wp2_with fail
        with_reducible refine hA1.out.mono ?_
        rintro x w5 ⟨rfl, hw⟩
        replace hw := hw.symm
        subst hw
        go_wp2_with fail
        with_reducible refine hA2.out.mono ?_
        rintro x w5 ⟨rfl, hw⟩
        replace hw := hw.symm
        subst hw
        clear hA1 hA2
        go_wp2_with (at_builtin; go_must (refine append_rows rfl _ _ rfl w3.heap.size rfl (hu.alloc _) rfl rfl (Rd.one _ _) (by simp; omega) (by simp; omega) ?_))
        intro v' w2 hu2 hg2
        have hb2 := below_grown hb.out (by omega) hu (Nat.le_refl _) hg2
        clear hu hg2 hb
        go_wp2_with fail
        go_roundw
        case rel => exact ⟨k + 1, _, (x1 + x2 + y) / 4294967296, by omega, by go_num, by go_num, hu2, by omega, by simp; omega, st, ⟨hb2⟩⟩
        case measure => simp [intOf] <;> omega
      · have hke : k = T + 1 := by omega
        subst hke
        obtain ⟨A', c', rfl, hR3⟩ := hu.rd
        rw [hlen]
        have hv2 : nv out = a + b := by
          have e := hv.out.2
          rw [List.take_of_length_le (by omega), List.take_of_length_le (by omega), nv_words, nv_words] at e
          have h01 : y.toNat = 0 ∨ y.toNat = 1 := by omega
          rcases h01 with h | h
          · rw [h] at e; omega
          · rw [h, Nat.one_mul] at e
            have q1 := nv_lt (isW_words a)
            have q2 := nv_lt (isW_words b)
            rw [nv_words] at q1 q2
            have q3 : 4294967296 ^ (words a).length ≤ 4294967296 ^ T := Nat.pow_le_pow_right (by decide) (by omega)
            have q4 : 4294967296 ^ (words b).length ≤ 4294967296 ^ T := Nat.pow_le_pow_right (by decide) (by omega)
            rw [Nat.pow_succ] at e
            omega
        have hTd := bn_told hlen hR3 hv.out.1 (by omega) (by rw [hv2]; exact hmax)
        rw [hv2] at hTd
        replace hTd := Far.mk hTd
        go_wp2_with fail
        with_reducible refine hTd.out.mono ?_
        rintro x w4 ⟨rfl, hw, hR5⟩
        replace hw := hw.symm
        subst hw
        replace hR5 := Far.mk hR5
        go_wp2_with fail
        go_ret2
        exact ⟨_, _, rfl, hR5.out, hB0.out.trans (hb.out.mono hs3)⟩
  · obtain rfl := hT4 hLM
    clear hT4 hT3
    go_wp2_with fail
    go_loopw [6, 7, 24] (fun v cy i wr => ∃ (k : Nat) (out : List Int) (y : Int), k ≤ T + 1 ∧ cy = .int .u64 y ∧ i = .int .i64 k ∧ U wr w3.heap.size v out ∧ (0 ≤ y ∧ y ≤ 1) ∧ out.length = k ∧ Far (IsW out ∧ nv out + y.toNat * 4294967296 ^ k = nv ((words a).take k) + nv ((words b).take k)) ∧ Far (Below w3.heap.size w3 wr))
      (fun _ _ i _ => T + 1 - (intOf i).toNat)
    case atStart => exact ⟨0, [], 0, Nat.zero_le _, rfl, rfl, U.nil _ _, by omega, rfl, ⟨fun a ha => (by cases ha), by simp [nv]⟩, ⟨Below.refl _ _⟩⟩
    case round =>
      obtain ⟨k, out, y, hk, rfl, rfl, hu, hy, hlen, hv, hb⟩ := hrel
      have hsz := hb.out.size
      by_cases hlt : k < T + 1
      · obtain ⟨x1, hx1⟩ : ∃ x, (words a).getD k 0 = x := ⟨_, rfl⟩
        obtain ⟨x2, hx2⟩ : ∃ x, (words b).getD k 0 = x := ⟨_, rfl⟩
        have b1 := (isW_words a).get k
        have b2 := (isW_words b).get k
        rw [hx1] at b1
        rw [hx2] at b2
        have hA1 := Far.mk (bn_at (w := wr) (J := (k : Int)) k x1 hx1 rfl hLL (hR1.out.below hb.out) (isW_words a))
        have hA2 := Far.mk (bn_at (w := wr) (J := (k : Int)) k x2 hx2 rfl hMM (hR2.out.below hb.out) (isW_words b))
        have st := Far.mk (plus_step hlen hv.out.1 hv.out.2 hx1 hx2 b1 b2 hy)
        clear hx1 hx2
        go_wp2_with fail
        with_reducible refine hA1.out.mono ?_
        rintro x w5 ⟨rfl, hw⟩
        replace hw := hw.symm
        subst hw
        go_wp2_with fail
        with_reducible refine hA2.out.mono ?_
        rintro x w5 ⟨rfl, hw⟩
        replace hw := hw.symm
        subst hw
        clear hA1 hA2
        go_wp2_with (at_builtin; go_must (refine append_rows rfl _ _ rfl w3.heap.size rfl (hu.alloc _) rfl rfl (Rd.one _ _) (by simp; omega) (by simp; omega) ?_))
        intro v' w2 hu2 hg2
        have hb2 := below_grown hb.out (by omega) hu (Nat.le_refl _) hg2
        clear hu hg2 hb
        go_wp2_with fail
        go_roundw
        case rel => exact ⟨k + 1, _, (x1 + x2 + y) / 4294967296, by omega, by go_num, by go_num, hu2, by omega, by simp; omega, st, ⟨hb2⟩⟩
        case measure => simp [intOf] <;> omega
      · have hke : k = T + 1 := by omega
        subst hke
        obtain ⟨A', c', rfl, hR3⟩ := hu.rd
        rw [hlen]
        have hv2 : nv out = a + b := by
          have e := hv.out.2
          rw [List.take_of_length_le (by omega), List.take_of_length_le (by omega), nv_words, nv_words] at e
          have h01 : y.toNat = 0 ∨ y.toNat = 1 := by omega
          rcases h01 with h | h
          · rw [h] at e; omega
          · rw [h, Nat.one_mul] at e
            have q1 := nv_lt (isW_words a)
            have q2 := nv_lt (isW_words b)
            rw [nv_words] at q1 q2
            have q3 : 4294967296 ^ (words a).length ≤ 4294967296 ^ T := Nat.pow_le_pow_right (by decide) (by omega)
            have q4 : 4294967296 ^ (words b).length ≤ 4294967296 ^ T := Nat.pow_le_pow_right (by decide) (by omega)
            rw [Nat.pow_succ] at e
            omega
        have hTd := bn_told hlen hR3 hv.out.1 (by omega) (by rw [hv2]; exact hmax)
        rw [hv2] at hTd
        replace hTd := Far.mk hTd
        go_wp2_with fail
        with_reducible refine hTd.out.mono ?_
        rintro x w4 ⟨rfl, hw, hR5⟩
        replace hw := hw.symm
        subst hw
        replace hR5 := Far.mk hR5
        go_wp2_with fail
        go_ret2
        exact ⟨_, _, rfl, hR5.out, hB0.out.trans (hb.out.mono hs3)⟩
end Nv
end Go.Proofs.YtdpbpdhamekcdaaGreatDoor
namespace Go.Proofs.YtdpbpdhamekcdaaGreatDoor
namespace Us
open Nv
/-- What holds of a guess: it is no less than the digit, and G v1 + r is the top of what is divided. -/
structure Guess (U V v1 v2 top u2 R : Nat) (g r : Nat) : Prop where
  ge : U / V ≤ g
  sum : g * v1 + r = top
theorem guess_first {U V v1 v2 top u2 R : Nat} (hv1 : 0 < v1) (hV : v1 * (4294967296 * R) ≤ V) (hU : U < (top + 1) * (4294967296 * R)) : Guess U V v1 v2 top u2 R (top / v1) (top % v1) := by
  refine ⟨?_, by have := Nat.div_add_mod top v1; rw [Nat.mul_comm] at this; exact this⟩
  rw [Nat.le_div_iff_mul_le hv1]
  have h1 : U / V * V ≤ U := Nat.div_mul_le_self U V
  have h2 : U / V * (v1 * (4294967296 * R)) ≤ U / V * V := Nat.mul_le_mul_left _ hV
  have h3 : (U / V * v1) * (4294967296 * R) < (top + 1) * (4294967296 * R) := by
    rw [Nat.mul_assoc]
    omega
  have := Nat.lt_of_mul_lt_mul_right h3
  omega
theorem Guess.down {U V v1 v2 top u2 R g r : Nat} (h : Guess U V v1 v2 top u2 R g r) (hV : (v1 * 4294967296 + v2) * R ≤ V) (hU : U < (top * 4294967296 + u2 + 1) * R) (hUV : U < V * 4294967296)
    (ht : 4294967296 ≤ g ∨ r * 4294967296 + u2 < g * v2) : 1 ≤ g ∧ Guess U V v1 v2 top u2 R (g - 1) (r + v1) := by
  have hV0 : 0 < V := by
    rcases Nat.eq_zero_or_pos V with h0 | h0
    · subst h0; omega
    · exact h0
  have hq : U / V < 4294967296 := by
    rw [Nat.div_lt_iff_lt_mul hV0, Nat.mul_comm]
    exact hUV
  have hlt : U / V < g := by
    rcases ht with ht | ht
    · omega
    · have h1 : U / V * V ≤ U := Nat.div_mul_le_self U V
      have h2 : U / V * ((v1 * 4294967296 + v2) * R) ≤ U / V * V := Nat.mul_le_mul_left _ hV
      have h3 : (U / V * (v1 * 4294967296 + v2)) * R < (top * 4294967296 + u2 + 1) * R := by
        rw [Nat.mul_assoc]
        omega
      have h4 := Nat.lt_of_mul_lt_mul_right h3
      have h5 : g * (v1 * 4294967296 + v2) = (g * v1) * 4294967296 + g * v2 := by rw [Nat.mul_add, Nat.mul_assoc]
      have h6 := h.sum
      have h7 : top * 4294967296 = (g * v1) * 4294967296 + r * 4294967296 := by rw [← h6, Nat.add_mul]
      have h8 : U / V * (v1 * 4294967296 + v2) < g * (v1 * 4294967296 + v2) := by omega
      exact Nat.lt_of_mul_lt_mul_right h8
  have hg1 : 1 ≤ g := Nat.lt_of_le_of_lt (Nat.zero_le _) hlt
  obtain ⟨k, rfl⟩ : ∃ k, g = k + 1 := ⟨g - 1, by omega⟩
  refine ⟨hg1, by rw [Nat.add_sub_cancel]; exact Nat.le_of_lt_succ hlt, ?_⟩
  have := h.sum
  rw [Nat.add_mul, Nat.one_mul] at this
  rw [Nat.add_sub_cancel]
  omega
/-- Behind the guesses: one too many at most. -/
theorem Guess.last {U V v1 v2 top u2 R g r : Nat} (h : Guess U V v1 v2 top u2 R g r) (hg : g ≤ 4294967296) (hv1 : 2147483648 ≤ v1) (hV1 : (v1 * 4294967296 + v2) * R ≤ V) (hV2 : V < (v1 * 4294967296 + v2 + 1) * R) (hU : (top * 4294967296 + u2) * R ≤ U)
    (ht : g * v2 ≤ r * 4294967296 + u2) : (g - 1) * V ≤ U := by
  rcases Nat.eq_zero_or_pos g with h0 | h0
  · subst h0
    simp
  obtain ⟨k, rfl⟩ : ∃ k, g = k + 1 := ⟨g - 1, by omega⟩
  rw [Nat.add_sub_cancel]
  have h5 : (k + 1) * (v1 * 4294967296 + v2) = ((k + 1) * v1) * 4294967296 + (k + 1) * v2 := by rw [Nat.mul_add, Nat.mul_assoc]
  have h6 := h.sum
  have h7 : top * 4294967296 = ((k + 1) * v1) * 4294967296 + r * 4294967296 := by rw [← h6, Nat.add_mul]
  have h8 : (k + 1) * (v1 * 4294967296 + v2) ≤ top * 4294967296 + u2 := by omega
  have h9 : ((k + 1) * (v1 * 4294967296 + v2)) * R ≤ (top * 4294967296 + u2) * R := Nat.mul_le_mul_right _ h8
  have h10 : (k + 1) * V ≤ (k + 1) * ((v1 * 4294967296 + v2 + 1) * R) := Nat.mul_le_mul_left _ (Nat.le_of_lt hV2)
  have h11 : (k + 1) * ((v1 * 4294967296 + v2 + 1) * R) = ((k + 1) * (v1 * 4294967296 + v2)) * R + (k + 1) * R := by
    rw [Nat.add_mul (v1 * 4294967296 + v2) 1 R, Nat.one_mul, Nat.mul_add, Nat.mul_assoc]
  have h12 : (k + 1) * R ≤ V := by
    refine Nat.le_trans ?_ hV1
    exact Nat.mul_le_mul_right _ (by omega)
  have h13 : (k + 1) * V = k * V + V := by rw [Nat.add_mul, Nat.one_mul]
  omega
/-- A row's window that is taken away from, in the middle. -/
structure Taken (u v out : List Int) (g j i : Nat) (b c : Int) : Prop where
  len : out.length = u.length
  isW : IsW out
  low : ∀ t, t < j ∨ j + i ≤ t → out.getD t 0 = u.getD t 0
  val : nv ((out.drop j).take i) + g * nv (v.take i) = nv ((u.drop j).take i) + (b.toNat + c.toNat) * 4294967296 ^ i
theorem getD_drop (l : List Int) (j i : Nat) : (l.drop j).getD i 0 = l.getD (j + i) 0 := by
  rw [List.getD_eq_getElem?_getD, List.getD_eq_getElem?_getD, List.getElem?_drop]
theorem getD_set_self {l : List Int} {i : Nat} (h : i < l.length) (x : Int) : (l.set i x).getD i 0 = x := by
  rw [List.getD_eq_getElem?_getD, List.getElem?_set_self h]; rfl
theorem getD_set_other {l : List Int} {i j : Nat} (h : i ≠ j) (x : Int) : (l.set i x).getD j 0 = l.getD j 0 := by
  rw [List.getD_eq_getElem?_getD, List.getD_eq_getElem?_getD, List.getElem?_set_ne h]
theorem take_drop_set {l : List Int} {j i : Nat} (x : Int) : ((l.set (j + i) x).drop j).take i = (l.drop j).take i := by
  apply List.ext_getElem?
  intro k
  by_cases hk : k < i
  · rw [List.getElem?_take_of_lt hk, List.getElem?_take_of_lt hk, List.getElem?_drop, List.getElem?_drop, List.getElem?_set_ne (by omega)]
  · rw [List.getElem?_take_eq_none (by omega), List.getElem?_take_eq_none (by omega)]
theorem Taken.step {u v out : List Int} {g j i : Nat} {b c x y p d : Int} (h : Taken u v out g j i b c) (hi : j + i < u.length) (hx : u.getD (j + i) 0 = x) (hy : v.getD i 0 = y) (bx : 0 ≤ x ∧ x < 4294967296) (by' : 0 ≤ y ∧ y < 4294967296) (hb : 0 ≤ b ∧ b ≤ 1) (hc : 0 ≤ c ∧ c < 4294967296)
    (hg : g ≤ 4294967296) (hp : p = (g : Int) * y + c) (hd : d = x - p % 4294967296 - b) :
    Taken u v (out.set (j + i) (d % 4294967296)) g j (i + 1) (if d < 0 then 1 else 0) (p / 4294967296) ∧ 0 ≤ p / 4294967296 ∧ p / 4294967296 < 4294967296 ∧ 0 ≤ p ∧ p < 18446744073709551616 := by
  have hgy : 0 ≤ (g : Int) * y := Int.mul_nonneg (by omega) by'.1
  have hgy2 : (g : Int) * y ≤ 4294967296 * 4294967295 := Int.mul_le_mul (by omega) (by omega) by'.1 (by decide)
  refine ⟨⟨by rw [List.length_set, h.len], h.isW.set _ (by omega) (by omega), ?_, ?_⟩, by omega, by omega, by omega, by omega⟩
  · intro t ht
    rw [getD_set_other (by omega)]
    exact h.low t (by omega)
  · have hl := h.len
    rw [nv_take_get, nv_take_get, nv_take_get, take_drop_set, getD_drop, getD_drop, hx, hy, getD_set_self (by omega)]
    have v0 := h.val
    have hpn : p.toNat = g * y.toNat + c.toNat := by
      have : ((g : Int) * y).toNat = g * y.toNat := by
        obtain ⟨z, rfl⟩ := Int.eq_ofNat_of_zero_le by'.1
        simp
        rfl
      omega
    have e2 : (p / 4294967296).toNat = p.toNat / 4294967296 := by omega
    have dm := Nat.div_add_mod p.toNat 4294967296
    rw [e2]
    -- the one word's law
    have key : (d % 4294967296).toNat + (g * y.toNat + (b.toNat + c.toNat)) = x.toNat + ((if d < 0 then 1 else 0 : Int).toNat + p.toNat / 4294967296) * 4294967296 := by
      split <;> omega
    rw [Nat.pow_succ]
    generalize 4294967296 ^ i = P at *
    generalize nv ((out.drop j).take i) = a at *
    generalize nv (v.take i) = bb at *
    generalize nv ((u.drop j).take i) = cc at *
    generalize (d % 4294967296).toNat = dd at *
    generalize ((if d < 0 then 1 else 0 : Int).toNat + p.toNat / 4294967296) = ee at *
    generalize y.toNat = yy at *
    generalize x.toNat = xx at *
    generalize b.toNat + c.toNat = bc at *
    have k2 : dd * P + g * (yy * P) + bc * P = xx * P + ee * (P * 4294967296) := by
      have := congrArg (· * P) key
      simp only [Nat.add_mul] at this
      rw [show ee * (P * 4294967296) = ee * 4294967296 * P by ac_rfl, show g * (yy * P) = g * yy * P by ac_rfl]
      omega
    rw [Nat.mul_add]
    omega
/-- A row's window that is added to, in the middle. -/
structure Given (u v out : List Int) (j i : Nat) (c : Int) : Prop where
  len : out.length = u.length
  isW : IsW out
  low : ∀ t, t < j ∨ j + i ≤ t → out.getD t 0 = u.getD t 0
  val : nv ((out.drop j).take i) + c.toNat * 4294967296 ^ i = nv ((u.drop j).take i) + nv (v.take i)
theorem Given.step {u v out : List Int} {j i : Nat} {c x y p : Int} (h : Given u v out j i c) (hi : j + i < u.length) (hx : u.getD (j + i) 0 = x) (hy : v.getD i 0 = y) (bx : 0 ≤ x ∧ x < 4294967296) (by' : 0 ≤ y ∧ y < 4294967296) (hc : 0 ≤ c ∧ c ≤ 1)
    (hp : p = x + y + c) : Given u v (out.set (j + i) (p % 4294967296)) j (i + 1) (p / 4294967296) ∧ 0 ≤ p / 4294967296 ∧ p / 4294967296 ≤ 1 := by
  refine ⟨⟨by rw [List.length_set, h.len], h.isW.set _ (by omega) (by omega), ?_, ?_⟩, by omega, by omega⟩
  · intro t ht
    rw [getD_set_other (by omega)]
    exact h.low t (by omega)
  · have hl := h.len
    rw [nv_take_get, nv_take_get, nv_take_get, take_drop_set, getD_drop, getD_drop, hx, hy, getD_set_self (by omega)]
    have v0 := h.val
    have key : (p % 4294967296).toNat + (p / 4294967296).toNat * 4294967296 = x.toNat + y.toNat + c.toNat := by omega
    rw [Nat.pow_succ]
    generalize 4294967296 ^ i = P at *
    generalize (p % 4294967296).toNat = a at *
    generalize (p / 4294967296).toNat = e at *
    have k2 : a * P + e * (P * 4294967296) = x.toNat * P + y.toNat * P + c.toNat * P := by
      have := congrArg (· * P) key
      simp only [Nat.add_mul] at this
      rw [show e * (P * 4294967296) = e * 4294967296 * P by ac_rfl]
      omega
    omega
/-- Two rows that are alike behind a place have the same words there. -/
theorem ext_getD {l m : List Int} (hl : l.length = m.length) (h : ∀ t, t < l.length → l.getD t 0 = m.getD t 0) : l = m := by
  apply List.ext_getElem hl
  intro i h1 h2
  have := h i h1
  rw [List.getD_eq_getElem?_getD, List.getD_eq_getElem?_getD, List.getElem?_eq_getElem h1, List.getElem?_eq_getElem h2] at this
  exact this
theorem nv_split (l : List Int) {j : Nat} (hj : j ≤ l.length) : nv l = nv (l.take j) + 4294967296 ^ j * nv (l.drop j) := by
  have := nv_append (l.take j) (l.drop j)
  rw [List.take_append_drop, List.length_take, Nat.min_eq_left hj] at this
  exact this
theorem IsW.drop {l : List Int} (h : IsW l) (n : Nat) : IsW (l.drop n) := fun a ha => h a (List.mem_of_mem_drop ha)
end Us
end Go.Proofs.YtdpbpdhamekcdaaGreatDoor
namespace Go.Proofs.YtdpbpdhamekcdaaGreatDoor
namespace Us
open Nv
theorem take_all {l : List Int} {k : Nat} (h : nv l < 4294967296 ^ k) : nv (l.take k) = nv l := by
  by_cases hk : l.length ≤ k
  · rw [List.take_of_length_le hk]
  · have e := nv_append (l.take k) (l.drop k)
    rw [List.take_append_drop, List.length_take, Nat.min_eq_left (by omega)] at e
    have : nv (l.drop k) = 0 := by
      rcases Nat.eq_zero_or_pos (nv (l.drop k)) with h0 | h0
      · exact h0
      · have := Nat.le_mul_of_pos_right (4294967296 ^ k) h0
        omega
    rw [this] at e
    omega
/-- What a step leaves: the digit, and the rest in the window. -/
structure Stepped (u out : List Int) (V j n x : Nat) : Prop where
  len : out.length = u.length
  isW : IsW out
  low : ∀ t, t < j ∨ j + (n + 1) ≤ t → out.getD t 0 = u.getD t 0
  val : nv ((out.drop j).take (n + 1)) = nv ((u.drop j).take (n + 1)) % V
  dig : x = nv ((u.drop j).take (n + 1)) / V
theorem div_of {U V x r : Nat} (h : U = x * V + r) (hr : r < V) : x = U / V ∧ r = U % V := by
  have hV : 0 < V := by omega
  subst h
  rw [Nat.add_comm, Nat.add_mul_div_right _ _ hV, Nat.add_mul_mod_self_right, Nat.div_eq_of_lt hr, Nat.mod_eq_of_lt hr]
  exact ⟨by omega, rfl⟩
theorem win_lt {l : List Int} (h : IsW l) (j k : Nat) : nv ((l.drop j).take k) < 4294967296 ^ k := Nat.lt_of_lt_of_le (nv_lt ((IsW.drop h j).take k)) (Nat.pow_le_pow_right (by decide) (by rw [List.length_take]; omega))
/-- No borrow: the guess is the digit. -/
theorem Taken.end0 {u v out : List Int} {g j n V : Nat} (h : Taken u v out g j (n + 1) 0 0) (hV : nv (v.take (n + 1)) = V) (hV0 : 0 < V) (hq : nv ((u.drop j).take (n + 1)) / V ≤ g) : Stepped u out V j n g := by
  have v0 := h.val
  rw [hV] at v0
  simp only [Int.toNat_zero, Nat.zero_mul, Nat.add_zero] at v0
  have hx : g ≤ nv ((u.drop j).take (n + 1)) / V := by
    rw [Nat.le_div_iff_mul_le hV0]
    omega
  have hx2 : nv ((u.drop j).take (n + 1)) / V = g := Nat.le_antisymm hq hx
  have dm := Nat.div_add_mod (nv ((u.drop j).take (n + 1))) V
  rw [hx2, Nat.mul_comm] at dm
  exact ⟨h.len, h.isW, h.low, by omega, hx2.symm⟩
/-- A borrow, and the divisor given back: one less is the digit. -/
theorem Given.end1 {u v out out2 : List Int} {g j n V : Nat} {c : Int} (h : Taken u v out g j (n + 1) 1 0) (h2 : Given out v out2 j (n + 1) c) (hc : 0 ≤ c ∧ c ≤ 1) (hW : IsW u) (hV : nv (v.take (n + 1)) = V)
    (hg : (g - 1) * V ≤ nv ((u.drop j).take (n + 1))) : 1 ≤ g ∧ Stepped u out2 V j n (g - 1) := by
  have v0 := h.val
  have v2 := h2.val
  have w0 := win_lt h.isW j (n + 1)
  have w2 := win_lt h2.isW j (n + 1)
  have w1 := win_lt hW j (n + 1)
  rw [hV] at v0 v2
  have e1 : (1 : Int).toNat = 1 := rfl
  simp only [Int.toNat_zero, e1, Nat.add_zero, Nat.one_mul] at v0
  have hg1 : 1 ≤ g := by
    rcases Nat.eq_zero_or_pos g with h0 | h0
    · subst h0
      simp only [Nat.zero_mul, Nat.add_zero] at v0
      omega
    · exact h0
  obtain ⟨k, rfl⟩ : ∃ k, g = k + 1 := ⟨g - 1, by omega⟩
  rw [Nat.add_sub_cancel] at hg ⊢
  rw [Nat.add_mul, Nat.one_mul] at v0
  have hpn : 4294967296 ^ n ≤ 4294967296 ^ (n + 1) := Nat.pow_le_pow_right (by decide) (by omega)
  have hc1 : c.toNat = 1 := by
    have h01 : c.toNat = 0 ∨ c.toNat = 1 := by omega
    rcases h01 with h0 | h0
    · rw [h0, Nat.zero_mul] at v2
      omega
    · exact h0
  rw [hc1, Nat.one_mul] at v2
  have hr : nv ((u.drop j).take (n + 1)) = k * V + nv ((out2.drop j).take (n + 1)) := by omega
  have hrl : nv ((out2.drop j).take (n + 1)) < V := by omega
  obtain ⟨a, b⟩ := div_of hr hrl
  exact ⟨hg1, h2.len.trans h.len, h2.isW, fun t ht => (h2.low t ht).trans (h.low t ht), b, a⟩
/-- What holds between two rounds: the digits from k on are there. -/
structure Divd (A V n : Nat) (k : Nat) (u q : List Int) : Prop where
  wu : IsW u
  wq : IsW q
  val : nv q * V + nv u = A
  zero : ∀ t, t < k → q.getD t 0 = 0
  top : nv (u.drop k) < V
  lenu : n + k ≤ u.length
theorem Divd.win {A V n j : Nat} {u q : List Int} (h : Divd A V n (j + 1) u q) (hV : V < 4294967296 ^ n) : nv ((u.drop j).take (n + 1)) = nv (u.drop j) ∧ nv (u.drop j) < V * 4294967296 := by
  have hl := h.lenu
  have e : nv (u.drop j) = (u.getD j 0).toNat + 4294967296 * nv (u.drop (j + 1)) := by
    rw [List.drop_eq_getElem_cons (by omega), nv, List.getD_eq_getElem?_getD, List.getElem?_eq_getElem (by omega)]
    rfl
  have b := h.wu.get j
  have ht := h.top
  have hlt : nv (u.drop j) < V * 4294967296 := by omega
  refine ⟨take_all ?_, hlt⟩
  rw [Nat.pow_succ]
  exact Nat.lt_trans hlt (Nat.mul_lt_mul_of_pos_right hV (by decide))
theorem Divd.step {A V n j x : Nat} {u q out : List Int} (h : Divd A V n (j + 1) u q) (hV : V < 4294967296 ^ n) (hV0 : 0 < V) (hj : j < q.length) (hs : Stepped u out V j n x) : Divd A V n j out (q.set j (x : Int)) ∧ x < 4294967296 := by
  obtain ⟨hw, hlt⟩ := h.win hV
  have hx := hs.dig
  have hv := hs.val
  rw [hw] at hx hv
  have hx2 : x < 4294967296 := by
    rw [hx, Nat.div_lt_iff_lt_mul hV0, Nat.mul_comm]
    exact hlt
  have hl := h.lenu
  have hol := hs.len
  have tail : nv (u.drop (j + (n + 1))) = 0 := by
    have e := nv_split (u.drop j) (j := n + 1) (by rw [List.length_drop]; omega)
    rw [hw, List.drop_drop] at e
    rcases Nat.eq_zero_or_pos (nv (u.drop (j + (n + 1)))) with h0 | h0
    · exact h0
    · have := Nat.mul_pos (Nat.pow_pos (n := n + 1) (show 0 < 4294967296 by decide)) h0
      omega
  have tail2 : out.drop (j + (n + 1)) = u.drop (j + (n + 1)) := ext_getD (by rw [List.length_drop, List.length_drop, hol]) (fun t _ => by rw [getD_drop, getD_drop]; exact hs.low _ (by omega))
  have head2 : out.take j = u.take j := ext_getD (by rw [List.length_take, List.length_take, hol]) (fun t ht => by
    rw [List.length_take] at ht
    rw [List.getD_eq_getElem?_getD, List.getD_eq_getElem?_getD, List.getElem?_take_of_lt (by omega), List.getElem?_take_of_lt (by omega), ← List.getD_eq_getElem?_getD, ← List.getD_eq_getElem?_getD]
    exact hs.low _ (by omega))
  have eo : nv (out.drop j) = nv (u.drop j) % V := by
    have e := nv_split (out.drop j) (j := n + 1) (by rw [List.length_drop]; omega)
    rw [List.drop_drop, tail2, tail, Nat.mul_zero, Nat.add_zero] at e
    rw [e, hv]
  have s1 := nv_split u (j := j) (by omega)
  have s2 := nv_split out (j := j) (by omega)
  rw [head2, eo] at s2
  have sq := nv_set hj (x : Int)
  rw [h.zero j (by omega)] at sq
  simp only [Int.toNat_zero, Nat.zero_mul, Nat.add_zero, Int.toNat_natCast] at sq
  have dm := Nat.div_add_mod (nv (u.drop j)) V
  rw [← hx] at dm
  refine ⟨⟨hs.isW, h.wq.set _ (by omega) (by omega), ?_, fun t ht => ?_, ?_, by omega⟩, hx2⟩
  · have hval := h.val
    rw [sq, s2, Nat.add_mul]
    rw [s1] at hval
    have e3 : 4294967296 ^ j * nv (u.drop j) = x * 4294967296 ^ j * V + 4294967296 ^ j * (nv (u.drop j) % V) := by
      have e4 := congrArg (4294967296 ^ j * ·) dm
      simp only [Nat.mul_add] at e4
      rw [show x * 4294967296 ^ j * V = 4294967296 ^ j * (V * x) by ac_rfl]
      exact e4.symm
    omega
  · rw [getD_set_other (by omega)]
    exact h.zero t (by omega)
  · rw [eo]
    exact Nat.mod_lt _ hV0
theorem Divd.last {A V n : Nat} {u q : List Int} (h : Divd A V n 0 u q) : nv q = A / V ∧ nv u = A % V := by
  have ht := h.top
  rw [List.drop_zero] at ht
  obtain ⟨a, b⟩ := div_of h.val.symm ht
  exact ⟨a, b⟩
/-- Three words at a window's top. -/
theorem top3 (l : List Int) (k : Nat) : nv (l.take (k + 3)) = nv (l.take k) + ((l.getD (k + 2) 0).toNat * 4294967296 * 4294967296 + (l.getD (k + 1) 0).toNat * 4294967296 + (l.getD k 0).toNat) * 4294967296 ^ k := by
  rw [nv_take_get, nv_take_get, nv_take_get]
  simp only [Nat.pow_succ, Nat.add_mul]
  have e1 : (l.getD (k + 1) 0).toNat * (4294967296 ^ k * 4294967296) = (l.getD (k + 1) 0).toNat * 4294967296 * 4294967296 ^ k := by ac_rfl
  have e2 : (l.getD (k + 2) 0).toNat * (4294967296 ^ k * 4294967296 * 4294967296) = (l.getD (k + 2) 0).toNat * 4294967296 * 4294967296 * 4294967296 ^ k := by ac_rfl
  rw [e1, e2]
  omega
theorem top2 (l : List Int) (k : Nat) : nv (l.take (k + 2)) = nv (l.take k) + ((l.getD (k + 1) 0).toNat * 4294967296 + (l.getD k 0).toNat) * 4294967296 ^ k := by
  rw [nv_take_get, nv_take_get, Nat.pow_succ]
  simp only [Nat.add_mul]
  have e1 : (l.getD (k + 1) 0).toNat * (4294967296 ^ k * 4294967296) = (l.getD (k + 1) 0).toNat * 4294967296 * 4294967296 ^ k := by ac_rfl
  rw [e1]
  omega
theorem take_lt {l : List Int} (h : IsW l) (k : Nat) : nv (l.take k) < 4294967296 ^ k := by
  have := win_lt h 0 k
  rwa [List.drop_zero] at this
/-- The bounds that a guess leans on. -/
structure Tops (U V v1 v2 u0 u1 u2 R : Nat) : Prop where
  v1l : v1 < 4294967296
  v2l : v2 < 4294967296
  u0l : u0 ≤ v1
  u1l : u1 < 4294967296
  u2l : u2 < 4294967296
  v1h : 2147483648 ≤ v1
  Va : (v1 * 4294967296 + v2) * R ≤ V
  Vb : V < (v1 * 4294967296 + v2 + 1) * R
  Ua : ((u0 * 4294967296 + u1) * 4294967296 + u2) * R ≤ U
  Ub : U < ((u0 * 4294967296 + u1) * 4294967296 + u2 + 1) * R
  UV : U < V * 4294967296
theorem Tops.first {U V v1 v2 u0 u1 u2 R : Nat} (h : Tops U V v1 v2 u0 u1 u2 R) : Guess U V v1 v2 (u0 * 4294967296 + u1) u2 R ((u0 * 4294967296 + u1) / v1) ((u0 * 4294967296 + u1) % v1) ∧ (u0 * 4294967296 + u1) / v1 ≤ 4294967297 ∧ (u0 * 4294967296 + u1) % v1 < 4294967296 := by
  have a := h.v1h
  have b := h.v1l
  have c := h.u0l
  have d := h.u1l
  have e := h.u2l
  refine ⟨guess_first (by omega) ?_ ?_, ?_, ?_⟩
  · refine Nat.le_trans ?_ h.Va
    rw [← Nat.mul_assoc]
    exact Nat.mul_le_mul_right _ (by omega)
  · refine Nat.lt_of_lt_of_le h.Ub ?_
    rw [← Nat.mul_assoc]
    exact Nat.mul_le_mul_right _ (by omega)
  · apply Nat.le_of_lt_succ
    rw [Nat.div_lt_iff_lt_mul (by omega)]
    omega
  · have := Nat.mod_lt (u0 * 4294967296 + u1) (show 0 < v1 by omega)
    omega
theorem Divd.tops {A V n j : Nat} {u q v : List Int} (h : Divd A V (n + 2) (j + 1) u q) (hv : nv v = V) (hl : v.length = n + 2) (hW : IsW v) (hb : 2147483648 ≤ (v.getD (n + 1) 0).toNat) :
    Tops (nv ((u.drop j).take (n + 2 + 1))) V (v.getD (n + 1) 0).toNat (v.getD n 0).toNat (u.getD (j + (n + 2)) 0).toNat (u.getD (j + (n + 1)) 0).toNat (u.getD (j + n) 0).toNat (4294967296 ^ n) := by
  have hVl : V < 4294967296 ^ (n + 2) := by rw [← hv, ← hl]; exact nv_lt hW
  obtain ⟨hw, hlt⟩ := h.win hVl
  have ev := top2 v n
  rw [List.take_of_length_le (show v.length ≤ n + 2 by omega), hv] at ev
  have eu := top3 (u.drop j) n
  rw [getD_drop, getD_drop, getD_drop] at eu
  have r1 := take_lt hW n
  have r2 := take_lt (IsW.drop h.wu j) n
  have b1 := hW.get (n + 1)
  have b2 := hW.get n
  have b3 := h.wu.get (j + (n + 1))
  have b4 := h.wu.get (j + n)
  have b5 := h.wu.get (j + (n + 2))
  have ht := h.top
  have et := top2 (u.drop (j + 1)) n
  rw [getD_drop, getD_drop] at et
  have r3 := take_lt (IsW.drop h.wu (j + 1)) n
  have e6 : nv ((u.drop (j + 1)).take (n + 2)) = nv (u.drop (j + 1)) := take_all (by omega)
  rw [e6, show j + 1 + (n + 1) = j + (n + 2) by omega, show j + 1 + n = j + (n + 1) by omega] at et
  refine ⟨by omega, by omega, ?_, by omega, by omega, hb, by omega, ?_, ?_, ?_, ?_⟩
  · -- the top word is no greater
    have h1 : ((u.getD (j + (n + 2)) 0).toNat * 4294967296) * 4294967296 ^ n < (((v.getD (n + 1) 0).toNat + 1) * 4294967296) * 4294967296 ^ n := by
      have h2 : ((u.getD (j + (n + 2)) 0).toNat * 4294967296) * 4294967296 ^ n ≤ ((u.getD (j + (n + 2)) 0).toNat * 4294967296 + (u.getD (j + (n + 1)) 0).toNat) * 4294967296 ^ n := Nat.mul_le_mul_right _ (by omega)
      have h3 : ((v.getD (n + 1) 0).toNat * 4294967296 + (v.getD n 0).toNat + 1) * 4294967296 ^ n ≤ (((v.getD (n + 1) 0).toNat + 1) * 4294967296) * 4294967296 ^ n := Nat.mul_le_mul_right _ (by omega)
      rw [Nat.add_mul (_ + _) 1, Nat.one_mul] at h3
      omega
    have := Nat.lt_of_mul_lt_mul_right h1
    omega
  · rw [Nat.add_mul (_ + _) 1, Nat.one_mul]
    omega
  · rw [eu]
    simp only [Nat.add_mul] at *
    omega
  · rw [eu]
    simp only [Nat.add_mul, Nat.one_mul] at *
    omega
  · rw [hw]
    exact hlt
end Us
end Go.Proofs.YtdpbpdhamekcdaaGreatDoor
