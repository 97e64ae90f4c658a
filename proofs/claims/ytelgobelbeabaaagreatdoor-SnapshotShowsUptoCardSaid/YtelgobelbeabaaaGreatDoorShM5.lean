/-
  A contract of quillref02.Up. No condition but that the words are words, and the count is not below 0. Contracts of quillref03.pow and of quillref02's Bits, Long and Digit. Conditions: the words are words; the power is not below 0, and no great one. A contract of quillref02.Halved: quotient and rest. Conditions: the words are words; the divisor is not nought. A contract of quillref02.Halved: quotient and rest. Conditions: the words are words; the divisor is not nought. A contract of quillref02.small: quotient and rest by a small number. Conditions: the words are words; the divisor is small and not nought. A contract of quillref02.Shr: a number moved to the right, and whether something was lost. Conditions: the words are words; the count is not below 0.
-/
import Derived.Test.YtelgobelbeabaaaGreatDoorShM4
import Derived.Test.YtelgobelbeabaaaGreatDoorShM1
namespace Go.Proofs.YtelgobelbeabaaaGreatDoor
open Go.RowKit
namespace Nv

/-- What holds of a moved row in the middle of a round: q whole words and s bits. -/
structure Moved (l out : List Int) (q s i : Nat) (y : Int) : Prop where
  len : out.length = q + i
  isW : IsW out
  val : nv out + y.toNat * 4294967296 ^ (q + i) = nv (l.take i) * (4294967296 ^ q * 2 ^ s)
theorem Moved.step {l out : List Int} {q s i : Nat} {x y p : Int} (h : Moved l out q s i y) (hx : l.getD i 0 = x) (bx : 0 ≤ x ∧ x < 4294967296) (by' : 0 ≤ y) (hp : p = x * 2 ^ s + y) : Moved l (out ++ [p % 4294967296]) q s (i + 1) (p / 4294967296) := by
  have h2 : (0 : Int) < 2 ^ s := Int.pow_pos (by decide)
  have hxs : 0 ≤ x * 2 ^ s := Int.mul_nonneg bx.1 (Int.le_of_lt h2)
  refine ⟨by rw [List.length_append, h.len]; rfl, h.isW.append (IsW.one (by omega) (by omega)), ?_⟩
  have v := h.val
  rw [nv_append, nv_take_get, hx, h.len]
  have hpn : p.toNat = x.toNat * 2 ^ s + y.toNat := by
    have : (x * 2 ^ s).toNat = x.toNat * 2 ^ s := by
      obtain ⟨a, rfl⟩ := Int.eq_ofNat_of_zero_le bx.1
      have : ((a : Int) * 2 ^ s) = ((a * 2 ^ s : Nat) : Int) := by simp
      rw [this]
      rfl
    omega
  have e1 : (p % 4294967296).toNat = p.toNat % 4294967296 := by omega
  have e2 : (p / 4294967296).toNat = p.toNat / 4294967296 := by omega
  have dm := Nat.div_add_mod p.toNat 4294967296
  simp only [nv, Nat.mul_zero, Nat.add_zero]
  rw [e1, e2, ← Nat.add_assoc, Nat.pow_succ]
  rw [Nat.pow_add] at v ⊢
  generalize nv out = N at *
  generalize 4294967296 ^ q = P at *
  generalize 4294967296 ^ i = R at *
  generalize 2 ^ s = S at hpn v ⊢
  have q1 : P * R * (p.toNat % 4294967296) + p.toNat / 4294967296 * (P * R * 4294967296) = p.toNat * (P * R) := by
    rw [show p.toNat / 4294967296 * (P * R * 4294967296) = 4294967296 * (p.toNat / 4294967296) * (P * R) by ac_rfl, Nat.mul_comm (P * R), ← Nat.add_mul, Nat.add_comm, dm]
  have q2 : p.toNat * (P * R) = x.toNat * R * (P * S) + y.toNat * (P * R) := by
    rw [hpn, Nat.add_mul]
    congr 1
    ac_rfl
  rw [Nat.add_mul]
  omega
theorem pow31 : ∀ s : Nat, s < 32 → (2 : Int) ^ s ≤ 2147483648 := by decide
theorem shl_or {x y : Int} {s : Nat} (hs : s < 32) (bx : 0 ≤ x ∧ x < 4294967296) (by' : 0 ≤ y ∧ y < 2 ^ s) : bits .or .u64 (IntKind.u64.wrap (x * 2 ^ s)) y = x * 2 ^ s + y ∧ 0 ≤ x * 2 ^ s + y ∧ x * 2 ^ s + y < 18446744073709551616 ∧ (x * 2 ^ s + y) / 4294967296 < 2 ^ s := by
  have h2 : (0 : Int) < 2 ^ s := Int.pow_pos (by decide)
  have hxs : 0 ≤ x * 2 ^ s := Int.mul_nonneg bx.1 (Int.le_of_lt h2)
  have hs31 := pow31 s hs
  have hle : x * 2 ^ s ≤ 4294967295 * 2 ^ s := Int.mul_le_mul_of_nonneg_right (by omega) (Int.le_of_lt h2)
  rw [wrapU64_eq hxs (by omega), bits_join .u64 63 (by decide) (fun n h1 h2 => wrapU64_eq h1 (by omega)) s _ _ hxs (Int.mul_emod_left _ _) (by omega) by'.1 by'.2 (by omega)]
  refine ⟨rfl, by omega, by omega, ?_⟩
  rw [Int.ediv_lt_iff_lt_mul (by decide)]
  omega
set_option maxRecDepth 100000 in
theorem ref_Up {l : List Int} {A : Option Addr} {n c k : Nat} {K : Int} {w : World} (hK : K = (k : Int)) (hnl : l.length = n) (hr : Rd w A c l) (hW : IsW l) (hn : l.length ≤ 100000) (hk : k ≤ 1000000) :
    Calls Tryz.prog 102 #[.slice A n c, .int .i64 K] w (Tells w (words (nv l * 2 ^ k))) := by
  subst hnl
  subst hK
  have hN := Far.mk (ref_Norm rfl hr hW (by omega))
  have HR := Far.mk hr
  have HW := Far.mk hW
  clear hr hW
  go_enter Tryz.func102, Tryz.ntmps102
  by_cases h0 : nv l = 0
  · have e0 : words (nv l) = [] := by rw [h0, words_zero]
    have e1 : words (nv l * 2 ^ k) = [] := by rw [h0, Nat.zero_mul, words_zero]
    rw [e1]
    rw [e0] at hN
    replace e1 := Far.mk e1
    go_wp2_with (go_at_call 138; go_must (with_reducible refine hN.out.mono ?_); rintro e w3 ⟨v3, rfl, hu3, hb3⟩; obtain ⟨A', c', rfl, hR3⟩ := hu3.rd)
    go_ret
    exact ⟨_, rfl, U.nil _ _, hb3⟩
  · have e0 : (words (nv l)).length ≠ 0 := by
      intro h
      exact h0 (words_len_zero.1 h)
    obtain ⟨N, hNl⟩ : ∃ N, (words (nv l)).length = N := ⟨_, rfl⟩
    rw [hNl] at e0
    go_wp2_with (first
      | (go_at_call 138; go_must (with_reducible refine hN.out.mono ?_); rintro e w3 ⟨v3, rfl, hu3, hb3⟩; obtain ⟨A', c', rfl, hR3⟩ := hu3.rd; rw [hNl])
      | (at_make; go_must (refine make_words rfl _ _ rfl w.heap.size _ _ (k / 32) rfl rfl (by omega) (by omega) (by omega) (by have := hb3.size; omega) ?_)))
    intro w4 hu4 hg4
    have hb4 : Below w.heap.size w w4 := hb3.grown hg4 hb3.size (by simp)
    clear hg4 hb3 hu3 hR3 hN
    go_wp2
    go_loopw [5, 6, 7] (fun v cy i wr => ∃ (j : Nat) (out : List Int) (y : Int), j ≤ l.length ∧ cy = .int .u64 y ∧ i = .int .i64 j ∧ U wr w.heap.size v out ∧ out.length = k / 32 + j ∧ (0 ≤ y ∧ y < 2 ^ (k % 32)) ∧ Far (Moved l out (k / 32) (k % 32) j y) ∧ Far (Below w.heap.size w wr))
      (fun _ _ i _ => l.length - (intOf i).toNat)
    case atStart => exact ⟨0, _, 0, Nat.zero_le _, rfl, rfl, hu4, by simp, ⟨by omega, Int.pow_pos (by decide)⟩, ⟨by simp, IsW.zeros _, by simp [nv, nv_zeros]⟩, ⟨hb4⟩⟩
    case round =>
      clear hu4 hb4
      obtain ⟨j, out, y, hj, rfl, rfl, hu, hlen, hy, hm, hb⟩ := hrel
      have hsz := hb.out.size
      by_cases hlt : j < l.length
      · obtain ⟨x, hx⟩ : ∃ x, l.getD j 0 = x := ⟨_, rfl⟩
        have bx := HW.out.get j
        rw [hx] at bx
        obtain ⟨ad, rfl, x', hx', hc1⟩ := (HR.out.below hb.out).get hlt
        obtain rfl := hx'.trans hx
        clear hx'
        obtain ⟨hor, hp0, hp1, hp2⟩ := shl_or (s := k % 32) (by omega) bx hy
        have st := hm.out.step hx bx hy.1 rfl
        generalize x' * 2 ^ (k % 32) + y = p at *
        replace st := Far.mk st
        replace hx := Far.mk hx
        go_wp2_with (at_builtin; go_must (refine append_rows rfl _ _ rfl w.heap.size rfl (hu.alloc _) rfl rfl (Rd.one _ _) (by simp; omega) (by simp; omega) ?_))
        intro v' w2 hu2 hg2
        have hb2 := below_grown hb.out (by omega) hu (Nat.le_refl _) hg2
        clear hu hg2 hb
        go_wp2
        go_roundw
        case rel => exact ⟨j + 1, _, p / 4294967296, by omega, rfl, by go_num, hu2, by simp; omega, ⟨by omega, hp2⟩, st, ⟨hb2⟩⟩
        case measure => simp [intOf]; omega
      · have hke : j = l.length := by omega
        subst hke
        have hs31 := pow31 (k % 32) (by omega)
        have hy4 : 0 ≤ y ∧ y < 4294967296 := by omega
        go_wp2_with (at_builtin; go_must (refine append_rows rfl _ _ rfl w.heap.size rfl (hu.alloc _) rfl rfl (Rd.one _ _) (by simp; omega) (by simp; omega) ?_))
        intro v' w2 hu2 hg2
        have hb2 := below_grown hb.out (by omega) hu (Nat.le_refl _) hg2
        clear hu hg2 hb
        obtain ⟨A', c', rfl, hR2⟩ := hu2.rd
        have hN := Far.mk (ref_Norm (n := (out ++ [y]).length) rfl hR2 (hm.out.isW.append (IsW.one hy4.1 hy4.2)) (by simp; omega))
        have hl2 : (out ++ [y]).length = k / 32 + l.length + 1 := by simp; omega
        rw [hl2] at hN
        go_wp2_with (go_at_call 138; go_must (with_reducible refine hN.out.mono ?_); rintro e w3 ⟨v3, rfl, hu3, hb3⟩)
        go_ret
        refine tells_norm hb2 hu3 hb3 ?_
        congr 1
        have e := hm.out.val
        rw [List.take_length] at e
        rw [nv_append, hlen]
        simp only [nv, Nat.mul_zero, Nat.add_zero]
        rw [Nat.mul_comm _ y.toNat, e]
        congr 1
        rw [show (4294967296 : Nat) = 2 ^ 32 from rfl, ← Nat.pow_mul, ← Nat.pow_add]
        congr 1
        omega
end Nv
end Go.Proofs.YtelgobelbeabaaaGreatDoor
namespace Go.Proofs.YtelgobelbeabaaaGreatDoor
open Go.RowKit
namespace Nv

theorem words_10 : words 10 = [10] := words_one (by decide) (by decide)
theorem words_1 : words 1 = [1] := words_one (by decide) (by decide)
theorem pow_len (j : Nat) : (words (10 ^ j)).length ≤ j + 1 := words_len (Nat.lt_of_le_of_lt (Nat.pow_le_pow_left (show 10 ≤ 4294967296 by decide) j) (Nat.pow_lt_pow_right (by decide) (Nat.lt_succ_self j)))
theorem U.lit1 (w : World) (x : Int) : U (w.alloc (.cells #[.int .u32 x] 99)) w.heap.size (.slice (some ⟨w.heap.size, 0, none⟩) 1 1) [x] :=
  World.ownsRow_lit w #[.int .u32 x] 1 (Nat.le_refl _) (by unfold maxLen; omega) rfl
set_option maxRecDepth 100000 in
theorem ref_pow {k : Nat} (hk : k ≤ 5000) (w : World) : Calls Tryz.prog 135 #[.int .i64 (k : Int)] w (Tells w (words (10 ^ k))) := by
  go_enter Tryz.func135, Tryz.ntmps135
  go_wp2
  go_loopw [3, 4] (fun v i wr => ∃ (j : Nat), j ≤ k ∧ i = .int .i64 j ∧ U wr w.heap.size v (words (10 ^ j)) ∧ Far (Below w.heap.size w wr)) (fun _ i _ => k - (intOf i).toNat)
  case atStart => exact ⟨0, Nat.zero_le _, rfl, by rw [Nat.pow_zero, words_1]; exact U.lit1 w 1, ⟨(Below.refl _ _).alloc (Nat.le_refl _) _⟩⟩
  case round =>
    obtain ⟨j, hj, rfl, hu, hb⟩ := hrel
    have hsz := hb.out.size
    by_cases hlt : j < k
    · obtain ⟨A, c, rfl, hR⟩ := (hu.alloc (.cells #[.int .u32 10] 99)).rd
      have hl := pow_len j
      have hT := ref_Times (n := (words (10 ^ j)).length) (p := 1) rfl rfl hR (isW_words _) (by omega) (Rd.one wr 10) (IsW.one (by decide) (by decide)) (by simp)
      rw [nv_words, show nv [10] = 10 from rfl, ← Nat.pow_succ] at hT
      replace hT := Far.mk hT
      clear hR
      go_wp2_with (go_at_call 134; go_must (with_reducible refine hT.out.mono ?_); rintro e w3 ⟨v3, rfl, hu3, hb3⟩)
      go_roundw
      case rel => exact ⟨j + 1, by omega, by go_num, hu3.lower (by simp; omega), ⟨(hb.out.alloc hsz _).trans (hb3.mono (by simp; omega))⟩⟩
      case measure => simp [intOf]; omega
    · have hke : j = k := by omega
      subst hke
      go_wp2
      go_ret
      exact ⟨_, rfl, hu, hb.out⟩

/-- How many bits a number has. -/
def bitN (n : Nat) : Nat := if n = 0 then 0 else Nat.log2 n + 1
theorem bitN_half {n : Nat} (h : 0 < n) : bitN n = bitN (n / 2) + 1 := by
  unfold bitN
  rw [if_neg (by omega)]
  by_cases h2 : n / 2 = 0
  · rw [if_pos h2]
    have : n = 1 := by omega
    subst this
    rfl
  · rw [if_neg h2]
    have : Nat.log2 n = Nat.log2 (n / 2) + 1 := by
      rw [Nat.log2_def, if_pos (by omega)]
    omega
theorem bitN_eq {n k : Nat} (h1 : 2 ^ k ≤ n) (h2 : n < 2 ^ (k + 1)) : bitN n = k + 1 := by
  have h0 : n ≠ 0 := by have := Nat.two_pow_pos k; omega
  have a := (Nat.le_log2 h0 (k := k)).2 h1
  have b := (Nat.log2_lt h0 (k := k + 1)).2 h2
  unfold bitN
  rw [if_neg h0]
  omega
theorem bitN_lt (n : Nat) : n < 2 ^ bitN n := by
  unfold bitN
  split
  · omega
  · exact Nat.lt_log2_self
theorem bitN_le {n : Nat} (h : n ≠ 0) : 2 ^ (bitN n - 1) ≤ n := by
  unfold bitN
  rw [if_neg h]
  exact Nat.log2_self_le h
theorem bitN_words {n L : Nat} (h : n ≠ 0) (hL : (words n).length = L) : bitN n = 32 * (L - 1) + bitN (n / 4294967296 ^ (L - 1)) ∧ 0 < n / 4294967296 ^ (L - 1) ∧ n / 4294967296 ^ (L - 1) < 4294967296 := by
  have hL0 : L ≠ 0 := by
    intro e
    rw [e] at hL
    exact h (words_len_zero.1 hL)
  obtain ⟨k, rfl⟩ : ∃ k, L = k + 1 := ⟨L - 1, by omega⟩
  rw [Nat.add_sub_cancel]
  have hP : 0 < 4294967296 ^ k := Nat.pow_pos (by decide)
  have h1 := lt_len n
  rw [hL, Nat.pow_succ] at h1
  have h2 : 4294967296 ^ k ≤ n := by
    rcases Nat.lt_or_ge n (4294967296 ^ k) with g | g
    · have := words_len g
      omega
    · exact g
  have t1 : 0 < n / 4294967296 ^ k := Nat.div_pos h2 hP
  have t2 : n / 4294967296 ^ k < 4294967296 := (Nat.div_lt_iff_lt_mul hP).2 (by rw [Nat.mul_comm]; exact h1)
  refine ⟨?_, t1, t2⟩
  have e : (4294967296 : Nat) ^ k = 2 ^ (32 * k) := by rw [Nat.pow_mul]
  have hb1 := bitN_lt (n / 4294967296 ^ k)
  have hb2 := bitN_le (n := n / 4294967296 ^ k) (by omega)
  have hbp : 0 < bitN (n / 4294967296 ^ k) := by unfold bitN; rw [if_neg (by omega)]; omega
  generalize ht : n / 4294967296 ^ k = t at *
  have dm := Nat.div_add_mod n (4294967296 ^ k)
  have ml := Nat.mod_lt n hP
  rw [ht] at dm
  obtain ⟨q, hq⟩ : ∃ q, bitN t = q + 1 := ⟨bitN t - 1, by omega⟩
  rw [hq] at hb1 hb2 ⊢
  rw [Nat.add_sub_cancel] at hb2
  rw [show 32 * k + (q + 1) = 32 * k + q + 1 by omega]
  apply bitN_eq
  · rw [Nat.pow_add, ← e]
    have := Nat.mul_le_mul_left (4294967296 ^ k) hb2
    omega
  · rw [show 32 * k + q + 1 = 32 * k + (q + 1) by omega, Nat.pow_add, ← e]
    have := Nat.mul_le_mul_left (4294967296 ^ k) (show t + 1 ≤ 2 ^ (q + 1) from hb1)
    rw [Nat.mul_add, Nat.mul_one] at this
    omega
set_option maxRecDepth 100000 in
theorem ref_Bits {l : List Int} {A : Option Addr} {n c : Nat} {w : World} (hnl : l.length = n) (hr : Rd w A c l) (hW : IsW l) (hn : l.length ≤ 100000) :
    Calls Tryz.prog 133 #[.slice A n c] w fun e w' => e = .returned (.int .i64 (bitN (nv l) : Nat)) ∧ Below w.heap.size w w' := by
  have hl := words_len (nv_lt hW)
  have hN := Far.mk (ref_Norm hnl hr hW (by omega))
  clear hr hW
  generalize nv l = N at *
  go_enter Tryz.func133, Tryz.ntmps133
  obtain ⟨L, hL⟩ : ∃ L, (words N).length = L := ⟨_, rfl⟩
  rw [hL] at hl
  by_cases h0 : L = 0
  · subst h0
    have hN0 := words_len_zero.1 hL
    subst hN0
    go_wp2_with (go_at_call 138; go_must (with_reducible refine hN.out.mono ?_); rintro e w3 ⟨v3, rfl, hu3, hb3⟩; obtain ⟨A', c', rfl, hR3⟩ := hu3.rd; rw [hL])
    go_ret
    exact ⟨rfl, hb3⟩
  · have hN0 : N ≠ 0 := by
      rintro rfl
      exact h0 (hL.symm.trans (by rw [words_zero]; rfl))
    obtain ⟨e1, t1, t2⟩ := bitN_words hN0 hL
    have hg := words_get N (L - 1)
    have hmod : N / 4294967296 ^ (L - 1) % 4294967296 = N / 4294967296 ^ (L - 1) := Nat.mod_eq_of_lt t2
    rw [hmod] at hg
    rw [e1]
    generalize N / 4294967296 ^ (L - 1) = t at *
    replace hg := Far.mk hg
    clear e1 hmod
    go_wp2_with (go_at_call 138; go_must (with_reducible refine hN.out.mono ?_); rintro e w3 ⟨v3, rfl, hu3, hb3⟩; obtain ⟨A', c', rfl, hR3⟩ := hu3.rd; obtain ⟨ad, rfl, x', hx', hc1⟩ := hR3.get (j := L - 1) (by omega); rw [hx'.trans hg.out] at hc1; clear hx'; rw [hL])
    go_loopw [4, 5] (fun b x wr => ∃ (q : Nat) (y : Nat), b = .int .i64 q ∧ x = .int .u32 y ∧ y < 4294967296 ∧ Far (q + bitN y = 32 * (L - 1) + bitN t) ∧ q ≤ 4000000 ∧ Far (Below w.heap.size w wr)) (fun _ x _ => (intOf x).toNat)
    case atStart => exact ⟨32 * (L - 1), t, by go_num, rfl, t2, ⟨rfl⟩, by omega, ⟨hb3⟩⟩
    case round =>
      clear hb3 hc1 hR3 hu3 hN
      obtain ⟨q, y, rfl, rfl, hy, hv, hq, hb⟩ := hrel
      by_cases hy0 : 0 < y
      · have hh := bitN_half hy0
        have hv' := hv.out
        rw [hh] at hv'
        have hpos : 0 < bitN t := by unfold bitN; rw [if_neg (by omega)]; omega
        have hb32 : bitN t ≤ 32 := by
          rcases Nat.lt_or_ge 32 (bitN t) with g | g
          · have := bitN_le (n := t) (by omega)
            have h2 : 2 ^ 32 ≤ 2 ^ (bitN t - 1) := Nat.pow_le_pow_right (by decide) (by omega)
            omega
          · exact g
        go_wp2
        go_roundw
        case rel => exact ⟨q + 1, y / 2, by go_num, by go_num, by omega, ⟨by omega⟩, by omega, hb⟩
        case measure => simp [intOf]; omega
      · have hy0' : y = 0 := by omega
        subst hy0'
        have hv' : q = 32 * (L - 1) + bitN t := by have := hv.out; rw [← this]; rfl
        go_wp2
        go_ret
        refine ⟨?_, hb.out⟩
        show Ending.returned (.int .i64 (q : Int)) = .returned (.int .i64 _)
        congr 2
        omega
theorem ref_Long {l : List Int} {A : Option Addr} {n c : Nat} {w : World} (hnl : l.length = n) (hr : Rd w A c l) (hW : IsW l) (hn : l.length ≤ 100000) :
    Calls Tryz.prog 174 #[.slice A n c] w fun e w' => e = .returned (.bool (decide ((1024 : Int) < ((words (nv l)).length : Int)))) ∧ Below w.heap.size w w' := by
  have hl := words_len (nv_lt hW)
  have hN := Far.mk (ref_Norm hnl hr hW (by omega))
  clear hr hW
  generalize nv l = N at *
  go_enter Tryz.func174, Tryz.ntmps174
  go_wp2_with (go_at_call 138; go_must (with_reducible refine hN.out.mono ?_); rintro e w3 ⟨v3, rfl, hu3, hb3⟩; obtain ⟨A', c', rfl, hR3⟩ := hu3.rd)
  go_ret
  exact ⟨rfl, hb3⟩
def digitN (c : Int) : Int := if 48 ≤ c ∧ c ≤ 57 then c - 48 else if 97 ≤ c ∧ c ≤ 122 then c - 87 else if 65 ≤ c ∧ c ≤ 90 then c - 55 else 99
theorem ref_Digit {c : Int} (h0 : 0 ≤ c) (h1 : c < 256) (w : World) : Calls Tryz.prog 173 #[.int .u8 c] w fun e w' => e = .returned (.int .i64 (digitN c)) ∧ w' = w := by
  obtain ⟨z, hz⟩ : ∃ z, digitN c = z := ⟨_, rfl⟩
  rw [hz]
  unfold digitN at hz
  replace hz := Far.mk hz
  go_enter Tryz.func173, Tryz.ntmps173
  by_cases g1 : 48 ≤ c <;> by_cases g2 : c ≤ 57 <;> by_cases g3 : 97 ≤ c <;> by_cases g4 : c ≤ 122 <;> by_cases g5 : 65 ≤ c <;> by_cases g6 : c ≤ 90
  all_goals first
    | (exfalso; clear hz; omega)
    | (have hz' := hz.out
       simp only [g1, g2, g3, g4, g5, g6, if_true, and_true, and_false, and_self] at hz'
       subst hz'
       go_wp2
       go_ret
       exact ⟨(by first | rfl | (simp; done) | (simp; omega)), rfl⟩)
end Nv
end Go.Proofs.YtelgobelbeabaaaGreatDoor
namespace Go.Proofs.YtelgobelbeabaaaGreatDoor
open Go.RowKit
namespace Nv

theorem U.other {w : World} {base g j : Nat} {v : Value} {l : List Int} (h : U w base v l) (hg : g < base) (u : Value) : U (w.setCell ⟨g, j, none⟩ u) base v l := ownsRow_setCell_below h (a := ⟨g, j, none⟩) hg u
/-- What a word of a list is, by the list's number. -/
theorem nv_get {l : List Int} (hW : IsW l) (j : Nat) : l.getD j 0 = ((nv l / 4294967296 ^ j % 4294967296 : Nat) : Int) := by
  induction l generalizing j with
  | nil => simp [nv]
  | cons a l ih =>
    have h := hW.cons
    cases j with
    | zero =>
      rw [nv, Nat.pow_zero, Nat.div_one]
      simp only [List.getD_cons_zero]
      omega
    | succ j =>
      rw [List.getD_cons_succ, ih h.2, nv, Nat.pow_succ, Nat.mul_comm (4294967296 ^ j), ← Nat.div_div_eq_div_mul]
      congr 3
      omega
theorem pow_word (t : Nat) : 4294967296 ^ (t / 32) * 2 ^ (t % 32) = 2 ^ t := by
  rw [show (4294967296 : Nat) = 2 ^ 32 from rfl, ← Nat.pow_mul, ← Nat.pow_add]
  congr 1
  omega
/-- A bit of a number, as its word has it. -/
theorem bit_word (N t : Nat) : N / 4294967296 ^ (t / 32) % 4294967296 / 2 ^ (t % 32) % 2 = N / 2 ^ t % 2 := by
  rw [← pow_word t, ← Nat.div_div_eq_div_mul]
  generalize N / 4294967296 ^ (t / 32) = M
  have hs : t % 32 < 32 := Nat.mod_lt _ (by decide)
  generalize t % 32 = s at *
  have e : (4294967296 : Nat) = 2 ^ s * 2 ^ (32 - s) := by
    rw [← Nat.pow_add, show s + (32 - s) = 32 by omega]
  have h2 : 2 ∣ 2 ^ (32 - s) := by
    rw [show 32 - s = (31 - s) + 1 by omega, Nat.pow_succ]
    exact Nat.dvd_mul_left _ _
  rw [e, Nat.mod_mul_right_div_self, Nat.mod_mod_of_dvd _ h2]
theorem and_one32 {x : Int} (h0 : 0 ≤ x) (h1 : x < 4294967296) : bits .and .u32 x 1 = x % 2 :=
  bits_mask .u32 32 (by decide) (fun n h1 h2 => by rw [IntKind.wrap_u32]; omega) 1 (by decide) x h0 (by omega)
/-- What holds of a division in the middle: t bits are left. -/
structure Mida (N D len t R : Nat) (q : List Int) : Prop where
  len : q.length = len
  isW : IsW q
  val : nv q = N / 2 ^ t / D * 2 ^ t
  rest : R = N / 2 ^ t % D
theorem half_step (N D t b : Nat) (hD : 0 < D) (hb : N / 2 ^ t % 2 = b) : (N / 2 ^ t) = 2 * (N / 2 ^ (t + 1)) + b ∧
    (2 * (N / 2 ^ (t + 1) % D) + b < D → N / 2 ^ t / D = 2 * (N / 2 ^ (t + 1) / D) ∧ N / 2 ^ t % D = 2 * (N / 2 ^ (t + 1) % D) + b) ∧
    (D ≤ 2 * (N / 2 ^ (t + 1) % D) + b → N / 2 ^ t / D = 2 * (N / 2 ^ (t + 1) / D) + 1 ∧ N / 2 ^ t % D = 2 * (N / 2 ^ (t + 1) % D) + b - D) := by
  have e : N / 2 ^ (t + 1) = N / 2 ^ t / 2 := by rw [Nat.pow_succ, Nat.div_div_eq_div_mul]
  rw [e]
  generalize N / 2 ^ t = H at *
  have dm := Nat.div_add_mod (H / 2) D
  have ml := Nat.mod_lt (H / 2) hD
  generalize H / 2 / D = Q at *
  generalize H / 2 % D = R at *
  have e1 : D * (2 * Q) = 2 * (D * Q) := Nat.mul_left_comm _ _ _
  have e2 : D * (2 * Q + 1) = 2 * (D * Q) + D := by rw [Nat.mul_add, e1, Nat.mul_one]
  refine ⟨by omega, fun h => ?_, fun h => ?_⟩
  · exact Us.dm (A := H) (D := D) (h := 2 * Q) (R := 2 * R + b) (by rw [e1]; omega) h
  · exact Us.dm (A := H) (D := D) (h := 2 * Q + 1) (R := 2 * R + b - D) (by rw [e2]; omega) (by omega)
theorem Mida.keep {N D n t R b : Nat} {q : List Int} (h : Mida N D n (t + 1) R q) (hD : 0 < D) (hb : N / 2 ^ t % 2 = b) (hlt : 2 * R + b < D) : Mida N D n t (2 * R + b) q := by
  have st := half_step N D t b hD hb
  rw [← h.rest] at st
  obtain ⟨h1, h2⟩ := st.2.1 hlt
  refine ⟨h.len, h.isW, ?_, h2.symm⟩
  rw [h.val, h1, Nat.pow_succ]
  ac_rfl
/-- The word that takes the bit. -/
theorem Mida.word {N D n t R : Nat} {q : List Int} (h : Mida N D n (t + 1) R q) {o : Int} (ho : q.getD (t / 32) 0 = o) : bits .or .u32 o (2 ^ (t % 32)) = o + 2 ^ (t % 32) ∧ 0 ≤ o ∧ o + 2 ^ (t % 32) < 4294967296 := by
  have hs : t % 32 < 32 := Nat.mod_lt _ (by decide)
  have hp := pow31 (t % 32) hs
  have h0 : (0 : Int) < 2 ^ (t % 32) := Int.pow_pos (by decide)
  have bo := h.isW.get (t / 32)
  rw [ho] at bo
  have hd : o % 2 ^ (t % 32 + 1) = 0 := by
    rw [← ho, nv_get h.isW, h.val]
    generalize N / 2 ^ (t + 1) / D = Q
    rw [Nat.pow_succ, ← pow_word t]
    have hP : 0 < 4294967296 ^ (t / 32) := Nat.pow_pos (by decide)
    rw [show Q * (4294967296 ^ (t / 32) * 2 ^ (t % 32) * 2) = 4294967296 ^ (t / 32) * (2 ^ (t % 32 + 1) * Q) by rw [Nat.pow_succ]; ac_rfl, Nat.mul_div_cancel_left _ hP]
    have hdv : 2 ^ (t % 32 + 1) ∣ 4294967296 := ⟨2 ^ (31 - t % 32), by rw [← Nat.pow_add, show t % 32 + 1 + (31 - t % 32) = 32 by omega]⟩
    have : (2 ^ (t % 32 + 1) * Q % 4294967296) % 2 ^ (t % 32 + 1) = 0 := by rw [Nat.mod_mod_of_dvd _ hdv, Nat.mul_mod_right]
    have h2 : (((2 ^ (t % 32 + 1) * Q % 4294967296 : Nat) : Int) % ((2 ^ (t % 32 + 1) : Nat) : Int)) = 0 := by
      rw [← Int.natCast_emod, this]
      rfl
    rw [Int.natCast_pow] at h2
    exact h2
  have hpp : (2 : Int) ^ (t % 32 + 1) = 2 ^ (t % 32) * 2 := Int.pow_succ _ _
  have hle : o + 2 ^ (t % 32) < 4294967296 := by
    have hdv : ((2 : Int) ^ (t % 32 + 1)) ∣ 4294967296 := ⟨2 ^ (31 - t % 32), by rw [← Int.pow_add, show t % 32 + 1 + (31 - t % 32) = 32 by omega]; rfl⟩
    obtain ⟨u, hu⟩ := Int.dvd_of_emod_eq_zero hd
    obtain ⟨v, hv⟩ := hdv
    have huv : u < v := by
      rcases Int.lt_or_le u v with g | g
      · exact g
      · have := Int.mul_le_mul_of_nonneg_left g (show 0 ≤ (2 : Int) ^ (t % 32 + 1) by omega)
        omega
    have := Int.mul_le_mul_of_nonneg_left (show u + 1 ≤ v by omega) (show 0 ≤ (2 : Int) ^ (t % 32 + 1) by omega)
    rw [Int.mul_add, Int.mul_one] at this
    omega
  refine ⟨?_, bo.1, hle⟩
  exact bits_join .u32 32 (by decide) (fun n h1 h2 => by rw [IntKind.wrap_u32]; omega) (t % 32 + 1) _ _ bo.1 hd (by omega) (by omega) (by omega) (by omega)
theorem Mida.put {N D n t R b : Nat} {q : List Int} (h : Mida N D n (t + 1) R q) (hD : 0 < D) (hb : N / 2 ^ t % 2 = b) (hlt : D ≤ 2 * R + b) (ht : t / 32 < n) {o : Int} (ho : q.getD (t / 32) 0 = o) : Mida N D n t (2 * R + b - D) (q.set (t / 32) (o + 2 ^ (t % 32))) := by
  obtain ⟨-, w2, w3⟩ := h.word ho
  have h0 : (0 : Int) < 2 ^ (t % 32) := Int.pow_pos (by decide)
  have st := half_step N D t b hD hb
  rw [← h.rest] at st
  obtain ⟨h1, h2⟩ := st.2.2 hlt
  refine ⟨by rw [List.length_set, h.len], h.isW.set _ (by omega) w3, ?_, h2.symm⟩
  have e := nv_set (l := q) (j := t / 32) (by rw [h.len]; exact ht) (o + 2 ^ (t % 32))
  rw [ho, h.val] at e
  have e2 : (o + 2 ^ (t % 32)).toNat = o.toNat + 2 ^ (t % 32) := by
    have : ((2 : Int) ^ (t % 32)) = ((2 ^ (t % 32) : Nat) : Int) := by simp
    rw [this]
    omega
  rw [e2, Nat.add_mul, Nat.mul_comm (2 ^ (t % 32)), pow_word] at e
  rw [h1, Nat.add_mul, Nat.one_mul]
  have e3 : N / 2 ^ (t + 1) / D * 2 ^ (t + 1) = 2 * (N / 2 ^ (t + 1) / D) * 2 ^ t := by rw [Nat.pow_succ]; ac_rfl
  rw [e3] at e
  omega
end Nv
end Go.Proofs.YtelgobelbeabaaaGreatDoor
namespace Go.Proofs.YtelgobelbeabaaaGreatDoor
open Go.RowKit
namespace Nv

theorem Mida.first {N D n : Nat} {l : List Int} (hl : l.length = n) (hW : IsW l) (hN : nv l = N) : Mida N D n (32 * n) 0 (List.replicate n 0) := by
  have h := nv_lt hW
  have e : N / 2 ^ (32 * n) = 0 := by
    rw [Nat.pow_mul]
    exact Nat.div_eq_of_lt (by rw [← hN, ← hl]; exact h)
  exact ⟨by simp, IsW.zeros _, by rw [nv_zeros, e]; simp, by rw [e]; simp⟩
theorem cmp_ge (a b : Nat) : (0 ≤ cmpN a b) = (b ≤ a) := by
  unfold cmpN
  by_cases h : a < b
  · rw [if_pos h]
    apply propext
    omega
  · rw [if_neg h]
    apply propext
    split <;> omega
set_option maxRecDepth 100000 in
set_option maxHeartbeats 800000 in
theorem ref_Halved {l m : List Int} {A B : Option Addr} {n p c d : Nat} {w : World} (hnl : l.length = n) (hpm : m.length = p) (hr : Rd w A c l) (hW : IsW l) (hn : l.length ≤ 90000) (hr2 : Rd w B d m) (hW2 : IsW m) (hn2 : m.length ≤ 90000) (hD : 0 < nv m) :
    Calls Tryz.prog 100 #[.slice A n c, .slice B p d] w fun e w' => ∃ v1 v2, e = .returned (.tuple #[v1, v2]) ∧ U w' w.heap.size v1 (words (nv l / nv m)) ∧ U w' w.heap.size v2 (words (nv l % nv m)) ∧ Below w.heap.size w w' := by
  subst hnl
  subst hpm
  have hDl := nv_lt hW2
  have HR := Far.mk hr
  have HW := Far.mk hW
  have HR2 := Far.mk hr2
  have HW2 := Far.mk hW2
  obtain ⟨N, hN⟩ : ∃ N, nv l = N := ⟨_, rfl⟩
  obtain ⟨D, hDe⟩ : ∃ D, nv m = D := ⟨_, rfl⟩
  have hg := nv_get hW
  rw [hDe] at hD hDl
  rw [hN, hDe]
  rw [hN] at hg
  have F0 := Mida.first (D := D) rfl hW hN
  clear hr hW hr2 hW2
  replace hg := Far.mk hg
  replace hN := Far.mk hN
  replace hDe := Far.mk hDe
  replace F0 := Far.mk F0
  replace hDl := Far.mk hDl
  go_enter Tryz.func100, Tryz.ntmps100
  go_wp2_with (at_make; go_must (refine make_words rfl _ _ rfl w.heap.size _ _ l.length rfl rfl (by omega) (by omega) (by omega) (Nat.le_refl _) ?_))
  intro w1 hu1 hg1
  have hb1 : Below w.heap.size w w1 := (Below.refl _ _).grown hg1 (Nat.le_refl _) (by simp)
  have hs1 : w.heap.size < w1.heap.size := by
    rcases hu1.2 with ⟨h, _⟩ | ⟨g, cap, cur, h, hge, hh, _⟩
    · cases h
    · simp only [Value.slice.injEq, Option.some.injEq, Addr.mk.injEq, and_true] at h
      have := (Array.getElem?_eq_some_iff.1 hh).1
      omega
  clear hg1
  go_wp2
  go_loopw [7, 8] (fun v i wr => ∃ (t R : Nat) (q : List Int), t ≤ 32 * l.length ∧ i = .int .i64 ((t : Int) - 1) ∧ U wr w.heap.size (.slice (some ⟨w.heap.size, 0, none⟩) l.length l.length) q ∧ U wr (w.heap.size + 1) v (words R) ∧ w.heap.size < wr.heap.size ∧ Far (Mida N D l.length t R q) ∧ Far (Below w.heap.size w wr))
    (fun _ i _ => (intOf i + 1).toNat)
  case atStart => exact ⟨32 * l.length, 0, _, Nat.le_refl _, by go_num, hu1, by rw [words_zero]; exact U.nil _ _, hs1, F0, ⟨hb1⟩⟩
  case round =>
    clear hu1 hb1 hs1 F0
    obtain ⟨t, R, q, ht, rfl, hq, hu, hs1, hm, hb⟩ := hrel
    have hsz := hb.out.size
    by_cases ht0 : 0 < t
    · obtain ⟨k, rfl⟩ : ∃ k, t = k + 1 := ⟨t - 1, by omega⟩
      have ek : ((k + 1 : Nat) : Int) - 1 = (k : Int) := by omega
      rw [ek]
      have hRD : R < D := by rw [hm.out.rest]; exact Nat.mod_lt _ hD
      have hRl : (words R).length ≤ m.length := words_len (Nat.lt_trans hRD hDl.out)
      have hkn : k / 32 < l.length := by omega
      -- the bit
      obtain ⟨b, hbit⟩ : ∃ b, N / 2 ^ k % 2 = b := ⟨_, rfl⟩
      have hb2 : b = 0 ∨ b = 1 := by omega
      obtain ⟨ad, rfl, x, hx, hc1⟩ := (HR.out.below hb.out).get hkn
      have bx : 0 ≤ x ∧ x < 4294967296 := by rw [hx]; exact HW.out.get _
      have h2 : (0 : Int) < 2 ^ (k % 32) := Int.pow_pos (by decide)
      have hxd : x / 2 ^ (k % 32) < 4294967296 := Int.lt_of_le_of_lt (Int.ediv_le_self _ bx.1) bx.2
      have hxd0 : 0 ≤ x / 2 ^ (k % 32) := Int.ediv_nonneg bx.1 (Int.le_of_lt h2)
      have hand : bits .and .u32 (x / 2 ^ (k % 32)) 1 = (b : Int) := by
        rw [and_one32 hxd0 hxd, hx, hg.out, ← hbit, ← bit_word N k]
        simp
      replace hx := Far.mk hx
      -- the row doubled
      obtain ⟨A1, c1, rfl, hR1⟩ := hu.rd
      have hU := Far.mk (ref_Up (k := 1) (K := 1) (n := (words R).length) rfl rfl hR1 (isW_words R) (by omega) (by decide))
      rw [nv_words, Nat.pow_one, Nat.mul_comm R 2] at hU
      clear hR1
      have hRl2 : (words (2 * R)).length ≤ m.length + 1 := words_len (by have := hDl.out; rw [Nat.pow_succ]; omega)
      rcases hb2 with rfl | rfl
      · go_wp2_with (go_at_call 102; go_must (with_reducible refine hU.out.mono ?_); rintro e w4 ⟨v3, rfl, hu4, hbr⟩; replace hc1 := below_keep hbr hc1)
        have hb4 : Below w.heap.size w w4 := hb.out.trans (hbr.mono hsz)
        obtain ⟨A4, c4, rfl, hR4⟩ := hu4.rd
        have hRl4 : (words (2 * R + 0)).length ≤ m.length + 1 := words_len (by have := hDl.out; rw [Nat.pow_succ]; omega)
        refine (ref_Cmp rfl rfl hR4 (isW_words _) (by omega) (HR2.out.below hb4) HW2.out (by omega)).mono ?_
        rintro e w5 ⟨rfl, q5, rfl⟩
        rw [nv_words, hDe.out]
        have hcg := cmp_ge (2 * R + 0) D
        generalize cmpN (2 * R + 0) D = z at *
        by_cases hge : D ≤ 2 * R + 0
        · have hz0 : 0 ≤ z := by rw [hcg]; exact hge
          clear hcg
          have hL := Far.mk (fun W (hW : Below w4.heap.size w4 W) => ref_Less (w := W) rfl rfl (hR4.below hW) (isW_words (2 * R + 0)) (by omega) ((HR2.out.below hb4).below hW) HW2.out (by rw [nv_words, hDe.out]; exact hge))
          rw [nv_words, hDe.out] at hL
          go_wp2_with fail
          refine (hL.out _ (below_drawn (Below.refl _ _))).mono ?_
          rintro e w6 ⟨v6, rfl, hu6, hb6⟩
          replace hb6 : Below w4.heap.size w4 w6 := (below_drawn (n := q5) (Below.refl _ _)).trans hb6
          have hb7 : Below w.heap.size w w6 := hb4.trans (hb6.mono (by have := hb4.size; omega))
          have hq6 := (hq.keep hbr).keep hb6
          obtain ⟨o, ho, hco, hfo⟩ := hq6.cell hm.out.len hkn
          obtain ⟨hor, ho0, ho1⟩ := hm.out.word ho
          have st := Far.mk (hm.out.put hD hbit hge hkn ho)
          have hset := hq6.set hm.out.len (k / 32) (o + 2 ^ (k % 32))
          have hp31 := pow31 (k % 32) (by omega)
          have hshl : IntKind.u32.wrap (2 ^ (k % 32)) = 2 ^ (k % 32) := by rw [IntKind.wrap_u32]; omega
          have hu7 : U (w6.setCell ⟨w.heap.size, k / 32, none⟩ (.int .u32 (o + 2 ^ (k % 32)))) (w.heap.size + 1) v6 (words (2 * R + 0 - D)) := (U.lower hu6 (show w.heap.size + 1 ≤ w4.heap.size by have := hbr.size; omega)).other (Nat.lt_succ_self _) _
          have hs6 : w.heap.size < w6.heap.size := by have := hb6.size; have := hbr.size; omega
          clear hL hu4 hR4 hu6 hq hm ho
          go_wp2
          go_roundw
          case rel => exact ⟨k, _, _, by omega, by go_num, hset, hu7, by simpa using hs6, st, ⟨hb7.setCell (Nat.le_refl _) _⟩⟩
          case measure => simp [intOf] <;> omega
        · have hz0 : z < 0 := by
            rcases Int.lt_or_le z 0 with g | g
            · exact g
            · rw [hcg] at g
              exact absurd g hge
          clear hcg
          have st := Far.mk (hm.out.keep hD hbit (by omega))
          go_wp2
          go_roundw
          case rel => exact ⟨k, _, _, by omega, by go_num, (hq.keep hbr).drewN q5, (U.lower hu4 (by have := hbr.size; omega)).drewN q5, (show w.heap.size < w4.heap.size by have := hbr.size; omega), st, ⟨below_drawn hb4⟩⟩
          case measure => simp [intOf] <;> omega
      · go_wp2_with (go_at_call 102; go_must (with_reducible refine hU.out.mono ?_); rintro e w3 ⟨v3, rfl, hu3, hb3⟩; replace hc1 := below_keep hb3 hc1)
        obtain ⟨A3, c3, rfl, hR3⟩ := hu3.rd
        refine (ref_Plus (m := [1]) rfl rfl (hR3.below ((Below.refl _ _).alloc (Nat.le_refl _) _)) (isW_words _) (by omega) (Rd.one _ _) (IsW.one (by decide) (by decide)) (by simp)).mono ?_
        rintro e w4 ⟨v4, rfl, hu4, hb34⟩
        rw [nv_words, show nv [1] = 1 from rfl] at hu4
        have hbr : Below wr.heap.size wr w4 := (hb3.alloc hb3.size _).trans (hb34.mono (by have := hb3.size; simp; omega))
        have hb4 : Below w.heap.size w w4 := hb.out.trans (hbr.mono hsz)
        replace hu4 := U.lower hu4 (base' := wr.heap.size) (by have := hb3.size; simp; omega)
        clear hu3 hR3
        go_wp2_with fail
        obtain ⟨A4, c4, rfl, hR4⟩ := hu4.rd
        have hRl4 : (words (2 * R + 1)).length ≤ m.length + 1 := words_len (by have := hDl.out; rw [Nat.pow_succ]; omega)
        refine (ref_Cmp rfl rfl hR4 (isW_words _) (by omega) (HR2.out.below hb4) HW2.out (by omega)).mono ?_
        rintro e w5 ⟨rfl, q5, rfl⟩
        rw [nv_words, hDe.out]
        have hcg := cmp_ge (2 * R + 1) D
        generalize cmpN (2 * R + 1) D = z at *
        by_cases hge : D ≤ 2 * R + 1
        · have hz0 : 0 ≤ z := by rw [hcg]; exact hge
          clear hcg
          have hL := Far.mk (fun W (hW : Below w4.heap.size w4 W) => ref_Less (w := W) rfl rfl (hR4.below hW) (isW_words (2 * R + 1)) (by omega) ((HR2.out.below hb4).below hW) HW2.out (by rw [nv_words, hDe.out]; exact hge))
          rw [nv_words, hDe.out] at hL
          go_wp2_with fail
          refine (hL.out _ (below_drawn (Below.refl _ _))).mono ?_
          rintro e w6 ⟨v6, rfl, hu6, hb6⟩
          replace hb6 : Below w4.heap.size w4 w6 := (below_drawn (n := q5) (Below.refl _ _)).trans hb6
          have hb7 : Below w.heap.size w w6 := hb4.trans (hb6.mono (by have := hb4.size; omega))
          have hq6 := (hq.keep hbr).keep hb6
          obtain ⟨o, ho, hco, hfo⟩ := hq6.cell hm.out.len hkn
          obtain ⟨hor, ho0, ho1⟩ := hm.out.word ho
          have st := Far.mk (hm.out.put hD hbit hge hkn ho)
          have hset := hq6.set hm.out.len (k / 32) (o + 2 ^ (k % 32))
          have hp31 := pow31 (k % 32) (by omega)
          have hshl : IntKind.u32.wrap (2 ^ (k % 32)) = 2 ^ (k % 32) := by rw [IntKind.wrap_u32]; omega
          have hu7 : U (w6.setCell ⟨w.heap.size, k / 32, none⟩ (.int .u32 (o + 2 ^ (k % 32)))) (w.heap.size + 1) v6 (words (2 * R + 1 - D)) := (U.lower hu6 (show w.heap.size + 1 ≤ w4.heap.size by have := hbr.size; omega)).other (Nat.lt_succ_self _) _
          have hs6 : w.heap.size < w6.heap.size := by have := hb6.size; have := hbr.size; omega
          clear hL hu4 hR4 hu6 hq hm ho
          go_wp2
          go_roundw
          case rel => exact ⟨k, _, _, by omega, by go_num, hset, hu7, by simpa using hs6, st, ⟨hb7.setCell (Nat.le_refl _) _⟩⟩
          case measure => simp [intOf] <;> omega
        · have hz0 : z < 0 := by
            rcases Int.lt_or_le z 0 with g | g
            · exact g
            · rw [hcg] at g
              exact absurd g hge
          clear hcg
          have st := Far.mk (hm.out.keep hD hbit (by omega))
          go_wp2
          go_roundw
          case rel => exact ⟨k, _, _, by omega, by go_num, (hq.keep hbr).drewN q5, (U.lower hu4 (by have := hbr.size; omega)).drewN q5, (show w.heap.size < w4.heap.size by have := hbr.size; omega), st, ⟨below_drawn hb4⟩⟩
          case measure => simp [intOf] <;> omega
    · have ht0' : t = 0 := by omega
      subst ht0'
      have hv := hm.out.val
      have hre := hm.out.rest
      rw [Nat.pow_zero, Nat.div_one] at hv hre
      rw [Nat.mul_one] at hv
      obtain ⟨A3, c3, e3, hR3⟩ := hq.rd
      simp only [Value.slice.injEq] at e3
      obtain ⟨rfl, -, rfl⟩ := e3
      have hlen := hm.out.len
      have hN' := Far.mk (ref_Norm hlen hR3 hm.out.isW (by omega))
      rw [hv] at hN'
      go_wp2_with (go_at_call 138; go_must (with_reducible refine hN'.out.mono ?_); rintro e w3 ⟨v3, rfl, hu3, hb3⟩)
      go_ret2
      refine ⟨v3, _, rfl, hu3.lower hsz, ?_, hb.out.trans (hb3.mono hsz)⟩
      rw [← hre]
      exact (hu.keep hb3).lower (by omega)
end Nv
end Go.Proofs.YtelgobelbeabaaaGreatDoor
namespace Go.Proofs.YtelgobelbeabaaaGreatDoor
open Go.RowKit
namespace Nv

/-- What holds of a division by a small number in the middle: t words are left. -/
structure Part (N d len t : Nat) (r : Int) (q : List Int) : Prop where
  len : q.length = len
  isW : IsW q
  val : nv q = N / 4294967296 ^ t / d * 4294967296 ^ t
  rest : r = ((N / 4294967296 ^ t % d : Nat) : Int)
theorem Part.step {N d n t : Nat} {r x p : Int} {q : List Int} (h : Part N d n (t + 1) r q) (hd : 0 < d) (ht : t < n) (hx : x = ((N / 4294967296 ^ t % 4294967296 : Nat) : Int)) (hp : p = r * 4294967296 + x) (hq : p / (d : Int) < 4294967296) :
    Part N d n t (p % (d : Int)) (q.set t (p / (d : Int))) := by
  have hdi : (0 : Int) < d := by omega
  have hr : (0 : Int) ≤ r := by rw [h.rest]; exact Int.natCast_nonneg _
  have hx0 : (0 : Int) ≤ x := by rw [hx]; exact Int.natCast_nonneg _
  have hp0 : 0 ≤ p := by omega
  have e : N / 4294967296 ^ (t + 1) = N / 4294967296 ^ t / 4294967296 := by rw [Nat.pow_succ, Nat.div_div_eq_div_mul]
  have hval := h.val
  have hrest := h.rest
  have hz : q.getD t 0 = 0 := by
    rw [nv_get h.isW, hval]
    generalize N / 4294967296 ^ (t + 1) / d = Q
    rw [Nat.pow_succ, show Q * (4294967296 ^ t * 4294967296) = 4294967296 ^ t * (4294967296 * Q) by ac_rfl, Nat.mul_div_cancel_left _ (Nat.pow_pos (by decide)), Nat.mul_mod_right]
    rfl
  have hs := nv_set (l := q) (j := t) (by rw [h.len]; exact ht) (p / (d : Int))
  rw [hz, hval, e] at hs
  rw [e] at hrest
  obtain ⟨H, hH⟩ : ∃ H, N / 4294967296 ^ t = H := ⟨_, rfl⟩
  rw [hH] at hs hrest hx
  have dm := Nat.div_add_mod (H / 4294967296) d
  have ml := Nat.mod_lt (H / 4294967296) hd
  generalize H / 4294967296 / d = Q at *
  generalize H / 4294967296 % d = R at *
  obtain ⟨pn, rfl⟩ := Int.eq_ofNat_of_zero_le hp0
  have hpn : pn = R * 4294967296 + H % 4294967296 := by omega
  have hdd := Nat.div_add_mod pn d
  have hdl := Nat.mod_lt pn hd
  have e1 : d * (4294967296 * Q + pn / d) = 4294967296 * (d * Q) + d * (pn / d) := by rw [Nat.mul_add, Nat.mul_left_comm]
  obtain ⟨f1, f2⟩ := Us.dm (A := H) (D := d) (h := 4294967296 * Q + pn / d) (R := pn % d) (by rw [e1]; omega) hdl
  have hq' : ((pn : Int) / (d : Int)) = ((pn / d : Nat) : Int) := rfl
  refine ⟨by rw [List.length_set, h.len], h.isW.set _ (Int.ediv_nonneg hp0 (by omega)) hq, ?_, ?_⟩
  · rw [hH, f1]
    rw [hq'] at hs ⊢
    rw [Nat.add_mul, Nat.pow_succ] at *
    have e3 : 4294967296 * Q * 4294967296 ^ t = Q * (4294967296 ^ t * 4294967296) := by ac_rfl
    rw [e3]
    rw [Int.toNat_zero, Nat.zero_mul, Int.toNat_natCast] at hs
    omega
  · rw [hH, f2]
    rfl
set_option maxRecDepth 100000 in
theorem ref_small {l : List Int} {A : Option Addr} {n c d : Nat} {D : Int} {w : World} (hnl : l.length = n) (hr : Rd w A c l) (hW : IsW l) (hn : l.length ≤ 100000) (hDd : D = (d : Int)) (hd : 0 < d) (hd2 : d ≤ 65536) :
    Calls Tryz.prog 177 #[.slice A n c, .int .u32 D] w fun e w' => ∃ v, e = .returned (.tuple #[v, .int .u32 (nv l % d : Nat)]) ∧ U w' w.heap.size v (words (nv l / d)) ∧ Below w.heap.size w w' := by
  subst hnl
  subst hDd
  have HR := Far.mk hr
  have hl := nv_lt hW
  have hg := nv_get hW
  obtain ⟨N, hN⟩ : ∃ N, nv l = N := ⟨_, rfl⟩
  rw [hN] at hg hl ⊢
  have F0 : Part N d l.length l.length 0 (List.replicate l.length 0) := ⟨by simp, IsW.zeros _, by rw [nv_zeros, Nat.div_eq_of_lt hl]; simp, by rw [Nat.div_eq_of_lt hl]; simp⟩
  have HW := Far.mk hW
  clear hr hW
  replace hg := Far.mk hg
  replace hN := Far.mk hN
  replace F0 := Far.mk F0
  replace hl := Far.mk hl
  go_enter Tryz.func177, Tryz.ntmps177
  go_wp2_with (at_make; go_must (refine make_words rfl _ _ rfl w.heap.size _ _ l.length rfl rfl (by omega) (by omega) (by omega) (Nat.le_refl _) ?_))
  intro w1 hu1 hg1
  have hb1 : Below w.heap.size w w1 := (Below.refl _ _).grown hg1 (Nat.le_refl _) (by simp)
  clear hg1
  go_wp2
  go_loopw [7, 8] (fun r i wr => ∃ (t : Nat) (y : Int) (q : List Int), t ≤ l.length ∧ r = .int .u64 y ∧ i = .int .i64 ((t : Int) - 1) ∧ (0 ≤ y ∧ y < d) ∧ U wr w.heap.size (.slice (some ⟨w.heap.size, 0, none⟩) l.length l.length) q ∧ Far (Part N d l.length t y q) ∧ Far (Below w.heap.size w wr))
    (fun _ i _ => (intOf i + 1).toNat)
  case atStart => exact ⟨l.length, 0, _, Nat.le_refl _, rfl, by go_num, by omega, hu1, F0, ⟨hb1⟩⟩
  case round =>
    clear hu1 hb1 F0
    obtain ⟨t, y, q, ht, rfl, rfl, hy, hq, hm, hb⟩ := hrel
    have hsz := hb.out.size
    by_cases ht0 : 0 < t
    · obtain ⟨k, rfl⟩ : ∃ k, t = k + 1 := ⟨t - 1, by omega⟩
      have ek : ((k + 1 : Nat) : Int) - 1 = (k : Int) := by omega
      rw [ek]
      obtain ⟨ad, rfl, x, hx, hc1⟩ := (HR.out.below hb.out).get (j := k) (by omega)
      have bx : 0 ≤ x ∧ x < 4294967296 := by rw [hx]; exact HW.out.get _
      have hor : bits .or .u64 (y * 4294967296) x = y * 4294967296 + x := bits_join .u64 63 (by decide) (fun n h1 h2 => wrapU64_eq h1 (by omega)) 32 _ _ (by omega) (by omega) (by omega) bx.1 (by omega) (by omega)
      obtain ⟨o, ho, hco, hfo⟩ := hq.cell hm.out.len (j := k) (by omega)
      have hpq : (y * 4294967296 + x) / (d : Int) < 4294967296 := Int.ediv_lt_of_lt_mul (by omega) (by
        have := Int.mul_le_mul_of_nonneg_right (show y + 1 ≤ (d : Int) by omega) (show (0 : Int) ≤ 4294967296 by decide)
        rw [Int.add_mul, Int.mul_comm (d : Int)] at this
        omega)
      have hpq0 : 0 ≤ (y * 4294967296 + x) / (d : Int) := Int.ediv_nonneg (by omega) (by omega)
      have hpr := Int.emod_nonneg (y * 4294967296 + x) (show (d : Int) ≠ 0 by omega)
      have hpr2 := Int.emod_lt_of_pos (y * 4294967296 + x) (show (0 : Int) < d by omega)
      have st := Far.mk (hm.out.step hd (by omega) (hx.trans (hg.out k)) rfl hpq)
      have hset := hq.set hm.out.len k ((y * 4294967296 + x) / (d : Int))
      have ht1 : Int.tdiv (y * 4294967296 + x) d = (y * 4294967296 + x) / (d : Int) := Int.tdiv_eq_ediv_of_nonneg (by omega)
      have ht2 : Int.tmod (y * 4294967296 + x) d = (y * 4294967296 + x) % (d : Int) := Int.tmod_eq_emod_of_nonneg (by omega)
      replace hx := Far.mk hx
      clear ho
      go_wp2
      go_roundw
      case rel => exact ⟨k, _, _, by omega, rfl, by go_num, ⟨hpr, hpr2⟩, hset, st, ⟨hb.out.setCell (Nat.le_refl _) _⟩⟩
      case measure => simp [intOf] <;> omega
    · have ht0' : t = 0 := by omega
      subst ht0'
      have hv := hm.out.val
      have hre := hm.out.rest
      rw [Nat.pow_zero, Nat.div_one] at hv hre
      replace hre := Far.mk hre
      rw [Nat.mul_one] at hv
      obtain ⟨A3, c3, e3, hR3⟩ := hq.rd
      simp only [Value.slice.injEq] at e3
      obtain ⟨rfl, -, rfl⟩ := e3
      have hlen := hm.out.len
      have hN' := Far.mk (ref_Norm hlen hR3 hm.out.isW (by omega))
      rw [hv] at hN'
      go_wp2_with (go_at_call 138; go_must (with_reducible refine hN'.out.mono ?_); rintro e w3 ⟨v3, rfl, hu3, hb3⟩)
      go_ret2
      rw [← hre.out]
      exact ⟨v3, rfl, hu3.lower hsz, hb.out.trans (hb3.mono hsz)⟩
end Nv
end Go.Proofs.YtelgobelbeabaaaGreatDoor
namespace Go.Proofs.YtelgobelbeabaaaGreatDoor
open Go.RowKit
namespace Nv

theorem mod_pow_succ (N i : Nat) : N % 2 ^ (i + 1) = N % 2 ^ i + 2 ^ i * (N / 2 ^ i % 2) := by
  rw [Nat.pow_succ, Nat.mod_mul]
/-- Is something lost where so many bits go? -/
def lost (N k : Nat) : Bool := decide (N % 2 ^ k ≠ 0)
theorem lost_zero (N : Nat) : lost N 0 = false := by unfold lost; simp [Nat.mod_one]
/-- A word of what is moved to the right, out of two. -/
theorem shr_word (N k i : Nat) (hi : k / 32 ≤ i) : (N / 4294967296 ^ i % 4294967296 + 4294967296 * (N / 4294967296 ^ (i + 1) % 4294967296)) / 2 ^ (k % 32) % 4294967296 = N / 2 ^ k / 4294967296 ^ (i - k / 32) % 4294967296 := by
  have e1 : N / 2 ^ k / 4294967296 ^ (i - k / 32) = N / 4294967296 ^ i / 2 ^ (k % 32) := by
    rw [Nat.div_div_eq_div_mul, Nat.div_div_eq_div_mul, ← pow_word k]
    congr 1
    rw [Nat.mul_right_comm, ← Nat.pow_add, show k / 32 + (i - k / 32) = i by omega]
  have e2 : N / 4294967296 ^ (i + 1) = N / 4294967296 ^ i / 4294967296 := by rw [Nat.pow_succ, Nat.div_div_eq_div_mul]
  rw [e1, e2]
  generalize N / 4294967296 ^ i = M
  have hs : k % 32 < 32 := Nat.mod_lt _ (by decide)
  generalize k % 32 = s at *
  have e3 : M % 4294967296 + 4294967296 * (M / 4294967296 % 4294967296) = M % 18446744073709551616 := by omega
  rw [e3, show (18446744073709551616 : Nat) = 2 ^ s * 2 ^ (64 - s) by rw [← Nat.pow_add, show s + (64 - s) = 64 by omega], Nat.mod_mul_right_div_self]
  have hd : 4294967296 ∣ 2 ^ (64 - s) := ⟨2 ^ (32 - s), by rw [show (4294967296 : Nat) = 2 ^ 32 from rfl, ← Nat.pow_add, show 32 + (32 - s) = 64 - s by omega]⟩
  rw [Nat.mod_mod_of_dvd _ hd]
theorem nv_push {out : List Int} {H j : Nat} (hl : out.length = j) (hv : nv out = H % 4294967296 ^ j) : nv (out ++ [((H / 4294967296 ^ j % 4294967296 : Nat) : Int)]) = H % 4294967296 ^ (j + 1) := by
  rw [nv_append, hl, hv, Nat.pow_succ, Nat.mod_mul]
  simp only [nv, Int.toNat_natCast, Nat.mul_zero, Nat.add_zero]
set_option maxRecDepth 100000 in
set_option maxHeartbeats 800000 in
theorem ref_Shr {l : List Int} {A : Option Addr} {n c k : Nat} {K : Int} {w : World} (hK : K = (k : Int)) (hnl : l.length = n) (hr : Rd w A c l) (hW : IsW l) (hn : l.length ≤ 100000) (hk : k ≤ 4000000) :
    Calls Tryz.prog 176 #[.slice A n c, .int .i64 K] w fun e w' => ∃ v, e = .returned (.tuple #[v, .bool (lost (nv l) k)]) ∧ U w' w.heap.size v (words (nv l / 2 ^ k)) ∧ Below w.heap.size w w' := by
  subst hK
  have hll := words_len (nv_lt hW)
  have hN := Far.mk (ref_Norm hnl hr hW (by omega))
  clear hr hW
  generalize nv l = N at *
  obtain ⟨L, hL⟩ : ∃ L, (words N).length = L := ⟨_, rfl⟩
  have hlt := lt_len N
  rw [hL] at hll hlt
  have hg := words_get N
  replace hlt := Far.mk hlt
  replace hg := Far.mk hg
  go_enter Tryz.func176, Tryz.ntmps176
  by_cases hk0 : k = 0
  · subst hk0
    go_wp2_with (go_at_call 138; go_must (with_reducible refine hN.out.mono ?_); rintro e w3 ⟨v3, rfl, hu3, hb3⟩)
    go_ret2
    refine ⟨v3, ?_, by rw [Nat.pow_zero, Nat.div_one]; exact hu3, hb3⟩
    rw [lost_zero]
    rfl
  · by_cases hkL : 32 * L ≤ k
    · have hz : N / 2 ^ k = 0 := Nat.div_eq_of_lt (Nat.lt_of_lt_of_le hlt.out (by
        rw [show (4294967296 : Nat) = 2 ^ 32 from rfl, ← Nat.pow_mul]
        exact Nat.pow_le_pow_right (by decide) hkL))
      have hm : N % 2 ^ k = N := by
        have := Nat.div_add_mod N (2 ^ k)
        rw [hz] at this
        simpa using this
      have hpos : decide (0 < L) = lost N k := by
        unfold lost
        rw [hm]
        apply decide_eq_decide.2
        have := words_len_zero (n := N)
        rw [hL] at this
        omega
      replace hpos := Far.mk hpos
      replace hz := Far.mk hz
      clear hm
      go_wp2_with (go_at_call 138; go_must (with_reducible refine hN.out.mono ?_); rintro e w3 ⟨v3, rfl, hu3, hb3⟩; obtain ⟨A', c', rfl, hR3⟩ := hu3.rd; rw [hL])
      go_ret2
      refine ⟨.slice none 0 0, ?_, by rw [hz.out, words_zero]; exact U.nil _ _, hb3⟩
      rw [← hpos.out]
      rfl
    · go_wp2_with (go_at_call 138; go_must (with_reducible refine hN.out.mono ?_); rintro e w3 ⟨v3, rfl, hu3, hb3⟩; obtain ⟨A', c', rfl, hR3⟩ := hu3.rd; rw [hL])
      have hs3 := hb3.size
      go_loopw [6, 7] (fun b i wr => ∃ (j : Nat), j ≤ k ∧ i = .int .i64 j ∧ b = .bool (lost N j) ∧ Far (Below w3.heap.size w3 wr)) (fun _ i _ => k - (intOf i).toNat)
      case atStart => exact ⟨0, Nat.zero_le _, rfl, by rw [lost_zero], ⟨Below.refl _ _⟩⟩
      case round =>
        obtain ⟨j, hj, rfl, rfl, hb⟩ := hrel
        by_cases hjk : j < k
        · have hjL : j / 32 < L := by omega
          obtain ⟨ad, rfl, x, hx, hc1⟩ := (hR3.below hb.out).get (j := j / 32) (by rw [hL]; exact hjL)
          have bx : 0 ≤ x ∧ x < 4294967296 := by rw [hx]; exact (isW_words N).get _
          have h2 : (0 : Int) < 2 ^ (j % 32) := Int.pow_pos (by decide)
          have hxd : x / 2 ^ (j % 32) < 4294967296 := Int.lt_of_le_of_lt (Int.ediv_le_self _ bx.1) bx.2
          have hxd0 : 0 ≤ x / 2 ^ (j % 32) := Int.ediv_nonneg bx.1 (Int.le_of_lt h2)
          obtain ⟨b, hbit⟩ : ∃ b, N / 2 ^ j % 2 = b := ⟨_, rfl⟩
          have hb2 : b = 0 ∨ b = 1 := by omega
          have hand : bits .and .u32 (x / 2 ^ (j % 32)) 1 = (b : Int) := by
            rw [and_one32 hxd0 hxd, hx, hg.out, ← hbit, ← bit_word N j]
            simp
          have ms := mod_pow_succ N j
          rw [hbit] at ms
          have hpj : 0 < 2 ^ j := Nat.pow_pos (by decide)
          replace hx := Far.mk hx
          have hnew : lost N (j + 1) = (lost N j || decide ((b : Int) = 1)) := by
            unfold lost
            rw [ms]
            rcases hb2 with rfl | rfl
            · simp
            · simp
          replace hnew := Far.mk hnew
          replace ms := Far.mk ms
          generalize lost N j = bb at *
          cases bb with
          | true =>
            go_wp2
            go_roundw
            case rel => exact ⟨j + 1, by omega, by go_num, by rw [hnew.out]; rfl, hb⟩
            case measure => simp [intOf] <;> omega
          | false =>
            rcases hb2 with rfl | rfl
            all_goals
              go_wp2
              go_roundw
              case rel => exact ⟨j + 1, by omega, by go_num, by rw [hnew.out]; rfl, hb⟩
              case measure => simp [intOf] <;> omega
        · have hjk' : j = k := by omega
          subst hjk'
          have hbw := hb3.trans (hb.out.mono hs3)
          have hR4 := hR3.below hb.out
          obtain ⟨H, hH⟩ : ∃ H, N / 2 ^ j = H := ⟨_, rfl⟩
          have sw := fun i hi => shr_word N j i hi
          rw [hH] at sw
          replace sw := Far.mk sw
          have hHl : H < 4294967296 ^ (L - j / 32) := by
            rw [← hH]
            apply Nat.div_lt_of_lt_mul
            have h1 := hlt.out
            rw [show L = j / 32 + (L - j / 32) by omega, Nat.pow_add] at h1
            have h2 : 4294967296 ^ (j / 32) ≤ 2 ^ j := by
              rw [← pow_word j]
              exact Nat.le_mul_of_pos_right _ (Nat.pow_pos (by decide))
            exact Nat.lt_of_lt_of_le h1 (Nat.mul_le_mul_right _ h2)
          replace hHl := Far.mk hHl
          obtain ⟨wo, rfl⟩ : ∃ wo : World, wo = wr := ⟨_, rfl⟩
          replace hR4 := Far.mk hR4
          replace hbw := Far.mk hbw
          clear hR3 hu3 hb hb3
          go_wp2
          go_loopw [8, 9] (fun v i wq => ∃ (t : Nat) (out : List Int), t ≤ L - j / 32 ∧ i = .int .i64 ((j / 32 + t : Nat) : Int) ∧ U wq wo.heap.size v out ∧ out.length = t ∧ IsW out ∧ Far (nv out = H % 4294967296 ^ t) ∧ Far (Below wo.heap.size wo wq))
            (fun _ i _ => L - (intOf i).toNat)
          case atStart => exact ⟨0, [], Nat.zero_le _, by go_num, U.nil _ _, rfl, (fun a ha => by cases ha), ⟨by simp [nv, Nat.mod_one]⟩, ⟨Below.refl _ _⟩⟩
          case round =>
            obtain ⟨t, out, ht, rfl, hu, hlen, hW, hv, hb⟩ := hrel
            have hsz := hb.out.size
            have hsw := hbw.out.size
            by_cases htl : t < L - j / 32
            · obtain ⟨x1, hx1⟩ : ∃ x, (words N).getD (j / 32 + t) 0 = x := ⟨_, rfl⟩
              obtain ⟨x2, hx2⟩ : ∃ x, (words N).getD (j / 32 + t + 1) 0 = x := ⟨_, rfl⟩
              have b1 := (isW_words N).get (j / 32 + t)
              have b2 := (isW_words N).get (j / 32 + t + 1)
              rw [hx1] at b1
              rw [hx2] at b2
              have hor : bits .or .u64 x1 (x2 * 4294967296) = x2 * 4294967296 + x1 := by
                have hc : bits .or .u64 x1 (x2 * 4294967296) = bits .or .u64 (x2 * 4294967296) x1 := by simp [bits, BitVec.or_comm]
                rw [hc]
                exact bits_join .u64 64 (by decide) (fun n h1 h2 => wrapU64_eq h1 (by omega)) 32 _ _ (by omega) (by omega) (by omega) b1.1 (by omega) (by omega)
              have hval : (x2 * 4294967296 + x1) / 2 ^ (j % 32) % 4294967296 = ((H / 4294967296 ^ t % 4294967296 : Nat) : Int) := by
                rw [← hx1, ← hx2, hg.out, hg.out]
                have e := sw.out (j / 32 + t) (by omega)
                rw [show j / 32 + t - j / 32 = t by omega] at e
                rw [← e]
                generalize N / 4294967296 ^ (j / 32 + t) % 4294967296 = p
                generalize N / 4294967296 ^ (j / 32 + t + 1) % 4294967296 = q
                rw [show ((q : Int) * 4294967296 + (p : Int)) = ((p + 4294967296 * q : Nat) : Int) by omega, Int.natCast_emod, Int.natCast_ediv, Int.natCast_pow]
                rfl
              have hpush := nv_push hlen hv.out
              rw [← hval] at hpush
              have hbnd : 0 ≤ (x2 * 4294967296 + x1) / 2 ^ (j % 32) := Int.ediv_nonneg (by omega) (Int.le_of_lt (Int.pow_pos (by decide)))
              have hW2 : IsW (out ++ [(x2 * 4294967296 + x1) / 2 ^ (j % 32) % 4294967296]) := hW.append (IsW.one (by omega) (by omega))
              replace hx1 := Far.mk hx1
              replace hx2 := Far.mk hx2
              replace hpush := Far.mk hpush
              clear hval
              go_wp2_with (first
                | (go_at_call 139; go_must ((first | (with_reducible refine (ref_word (j / 32 + t) x1 hx1.out (by omega) hL (hR4.out.below hb.out) (isW_words N)).mono ?_) | (with_reducible refine (ref_word (j / 32 + t + 1) x2 hx2.out (by omega) hL (hR4.out.below hb.out) (isW_words N)).mono ?_)); rintro e w' ⟨rfl, rfl⟩))
                | (at_builtin; go_must (refine append_rows rfl _ _ rfl wo.heap.size rfl (hu.alloc _) rfl rfl (Rd.one _ _) (by simp; omega) (by simp; omega) ?_)))
              intro v' w2 hu2 hg2
              have hb2 := below_grown hb.out (by omega) hu (Nat.le_refl _) hg2
              clear hu hg2 hb
              go_wp2
              go_roundw
              case rel => first | exact ⟨t + 1, _, by omega, by go_num, hu2, by simp; omega, hW2, hpush, ⟨hb2⟩⟩ | ((repeat apply Exists.intro); exact ⟨⟨t + 1, _, by omega, by go_num, hu2, by simp; omega, hW2, hpush, ⟨hb2⟩⟩, rfl⟩)
              case measure => simp [intOf] <;> omega
            · have hte : t = L - j / 32 := by omega
              subst hte
              have hv' := hv.out
              rw [Nat.mod_eq_of_lt hHl.out] at hv'
              obtain ⟨A5, c5, rfl, hR5⟩ := hu.rd
              have hN' := Far.mk (ref_Norm hlen hR5 hW (by omega))
              rw [hv'] at hN'
              go_wp2_with (go_at_call 138; go_must (with_reducible refine hN'.out.mono ?_); rintro e w5 ⟨v5, rfl, hu5, hb5⟩)
              go_ret2
              rw [hH]
              refine ⟨v5, rfl, hu5.lower (by omega), (hbw.out.trans (hb.out.mono hsw)).trans (hb5.mono (by omega))⟩
end Nv
end Go.Proofs.YtelgobelbeabaaaGreatDoor
