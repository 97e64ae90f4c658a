/-
  Contracts of slices.Clone at words, bignum.Div. Conditions: the numbers are no longer than may be; the divisor is not nought.
-/
import Derived.Test.YtdpbpdhamekcdaaGreatDoorFxM29
import Derived.Lib.SliceRun
namespace Go.Proofs.YtdpbpdhamekcdaaGreatDoor
open Go.RowKit
namespace Us
open Nv
set_option maxRecDepth 100000 in
theorem sl_Clone {N c : Nat} {A : Option Addr} {w : World} (hR : Rd w A c (Nv.words N)) (hl : (Nv.words N).length ≤ 100000) : Calls Tryz.prog 137 #[.slice A (Nv.words N).length c] w (Gives w N) := by
  have hnil : ∀ W, (binOp .eql 73 (.slice A (Nv.words N).length c) (.slice none 0 0)).run Tryz.prog W = .ok (.bool A.isNone) W := fun W => Lib.run_eql_slice_nil W 73 22 A _ c 0 0 Tryz.underlying73
  replace hR := Far.mk hR
  obtain ⟨L, hL⟩ : ∃ L, (Nv.words N).length = L := ⟨_, rfl⟩
  cases A with
  | none =>
    have hw : Far (Nv.words N = []) := ⟨List.eq_nil_of_length_eq_zero (by
      have h1 := hR.out.1
      have h2 := hR.out.2.1 rfl
      omega)⟩
    rw [hL] at hnil ⊢
    clear hL
    go_enter Tryz.func137, Tryz.ntmps137
    go_wp2_with fail
    go_ret
    exact ⟨none, 0, by rw [hw.out]; rfl, by rw [hw.out]; exact Rd.nil _, Below.refl _ _⟩
  | some ad =>
    rw [hL] at hnil hl ⊢
    have hB := (Below.refl w.heap.size w).alloc (Nat.le_refl _) (.cells #[] 22)
    have hU : U (w.alloc (.cells #[] 22)) w.heap.size (.slice (some ⟨w.heap.size, 0, none⟩) 0 0) [] := World.ownsRow_made w #[] 0 (Nat.le_refl _) (Nat.zero_le _) (by simp)
    have hR2 := hR.out.below hB
    replace hL := Far.mk hL
    go_enter Tryz.func137, Tryz.ntmps137
    go_wp2_with (at_builtin; go_must (refine append_rows rfl _ _ rfl w.heap.size rfl hU rfl hL.out.symm hR2 (by have := hL.out; simp; omega) (by simp) ?_))
    intro v' w' hu' hg'
    have hb' := hB.grown hg' (by simp) (by intro k hk; simp [Value.ownBlock] at hk; omega)
    obtain ⟨A', c', rfl, hR3⟩ := hu'.rd
    go_wp2_with fail
    go_ret
    exact ⟨A', c', rfl, hR3, hb'⟩
/-- What Div tells. -/
def DivQ (N D : Nat) (w : World) (x : Ending) (w' : World) : Prop := ∃ A1 c1 A2 c2, x = .returned (.tuple #[.slice A1 (Nv.words (N / D)).length c1, .slice A2 (Nv.words (N % D)).length c2, .int .i64 0]) ∧ Rd w' A1 c1 (Nv.words (N / D)) ∧ Rd w' A2 c2 (Nv.words (N % D)) ∧ Below w.heap.size w w'
set_option maxRecDepth 100000 in
set_option maxHeartbeats 800000 in
theorem bn_Div {N D : Nat} {A B : Option Addr} {c d : Nat} {w : World} (hR : Rd w A c (Nv.words N)) (hs : (Nv.words N).length ≤ 1024) (hR2 : Rd w B d (Nv.words D)) (hs2 : (Nv.words D).length ≤ 1024) (hD : 0 < D) :
    Calls Tryz.prog 154 #[.slice A (Nv.words N).length c, .slice B (Nv.words D).length d] w (DivQ N D w) := by
  have hL := Far.mk (bn_long2 (t := 73) (Sh.of rfl hR (isW_words N) (by omega) (by rw [nv_words]; exact hs)) (Sh.of rfl hR2 (isW_words D) (by omega) (by rw [nv_words]; exact hs2)))
  have hC1 := fun W (h : Below w.heap.size w W) => bcut (w := W) rfl (hR.below h) (isW_words N) (by omega)
  have hC2 := fun W (h : Below w.heap.size w W) => bcut (w := W) rfl (hR2.below h) (isW_words D) (by omega)
  simp only [nv_words] at hC1 hC2
  replace hC1 := Far.mk hC1
  replace hC2 := Far.mk hC2
  have hB0 := (Below.refl w.heap.size w).alloc (Nat.le_refl _) (.cells #[.slice A (Nv.words N).length c, .slice B (Nv.words D).length d] 73)
  replace hB0 := Far.mk hB0
  have hM0 : (Nv.words D).length ≠ 0 := fun e => by have := words_len_zero.1 e; omega
  have hMb : (((Nv.words D).length : Int) == 0) = false := by simp; exact fun e => by have := words_nil.1 e; omega
  clear hR hR2
  go_enter Tryz.func154, Tryz.ntmps154
  go_wp2_with fail
  with_reducible refine hL.out.mono ?_
  rintro x w3 ⟨rfl, hw⟩
  replace hB0 : Far (Below w.heap.size w w3) := ⟨by rw [hw]; exact hB0.out⟩
  clear hw hL
  go_wp2_with fail
  with_reducible refine (hC1.out _ hB0.out).mono ?_
  rintro x w5 ⟨rfl, hw, hR1⟩
  replace hw := hw.symm
  subst hw
  replace hR1 := Far.mk hR1
  go_wp2_with fail
  with_reducible refine (hC2.out _ hB0.out).mono ?_
  rintro x w5 ⟨rfl, hw, hR2⟩
  replace hw := hw.symm
  subst hw
  replace hR2 := Far.mk hR2
  clear hC1 hC2
  go_wp2_with fail
  with_reducible refine (bCmp hR1.out (by omega) hR2.out (by omega)).mono ?_
  rintro x w6 ⟨rfl, q, hw⟩
  have hB6 : Far (Below w.heap.size w w6) := ⟨by rw [hw]; exact below_drawn hB0.out⟩
  have hRN : Far (Rd w6 A (Nv.words N).length (Nv.words N)) := ⟨by rw [hw]; exact hR1.out⟩
  have hRD : Far (Rd w6 B (Nv.words D).length (Nv.words D)) := ⟨by rw [hw]; exact hR2.out⟩
  clear hw hR1 hR2 hB0
  have hs6 := hB6.out.size
  by_cases hlt : N < D
  · have hcc : cmpN N D = -1 := by unfold cmpN; rw [if_pos hlt]
    rw [hcc]
    have e1 := Far.mk (show N / D = 0 from Nat.div_eq_of_lt hlt)
    have e2 := Far.mk (show N % D = N from Nat.mod_eq_of_lt hlt)
    clear hcc
    go_wp2_with fail
    with_reducible refine (sl_Clone hRN.out (by omega)).mono ?_
    rintro x w7 ⟨A7, c7, rfl, hR7, hb7⟩
    replace hR7 := Far.mk hR7
    go_wp2_with fail
    go_ret3
    exact ⟨none, 0, A7, c7, by rw [e1.out, e2.out, words_zero]; rfl, by rw [e1.out, words_zero]; exact Rd.nil _, by rw [e2.out]; exact hR7.out, hB6.out.trans (hb7.mono hs6)⟩
  · have hcc : ¬ cmpN N D < 0 := by unfold cmpN; rw [if_neg hlt]; split <;> omega
    obtain ⟨cc, hc⟩ : ∃ cc, cmpN N D = cc := ⟨_, rfl⟩
    rw [hc] at hcc ⊢
    clear hc
    by_cases h1 : (Nv.words D).length = 1
    · have hD1 : D < 4294967296 := by have := lt_len D; rw [h1] at this; simpa using this
      have hw1 : Nv.words D = [(D : Int)] := words_one (by omega) hD1
      have hRD2 := hRD.out
      rw [hw1] at hRD2
      obtain ⟨ad, rfl, x0, hx0, hc0⟩ := hRD2.get (j := 0) (by simp)
      obtain rfl : x0 = (D : Int) := hx0
      replace hc0 : w6.cell? ad = some (.int .u32 (D : Int)) := by simpa [Addr.add] using hc0
      have hSm := bn_small (D := (D : Int)) rfl hRN.out (isW_words N) (by omega) rfl hD hD1
      rw [nv_words] at hSm
      have hml : N % D < 4294967296 := Nat.lt_trans (Nat.mod_lt _ hD) hD1
      obtain ⟨rm, hrm⟩ : ∃ r, N % D = r := ⟨_, rfl⟩
      rw [hrm] at hSm hml
      replace hrm := Far.mk hrm
      replace hSm := Far.mk hSm
      have h1i : (((Nv.words D).length : Int) == 1) = true := by rw [h1]; rfl
      clear hRD2
      rw [h1] at hM0 ⊢
      go_wp2_with fail
      with_reducible refine hSm.out.mono ?_
      rintro x w7 ⟨c7, rfl, hR7, hb7⟩
      have hs7 := hb7.size
      have hO := bn_Of (x := (rm : Int)) (by omega) (by omega) w7
      rw [Int.toNat_natCast] at hO
      replace hO := Far.mk hO
      replace hR7 := Far.mk hR7
      replace hb7 := Far.mk hb7
      go_wp2_with fail
      with_reducible refine hO.out.mono ?_
      rintro x w8 ⟨A8, c8, rfl, hR8, hb8⟩
      replace hR7 := Far.mk (hR7.out.below hb8)
      replace hR8 := Far.mk hR8
      go_wp2_with fail
      go_ret3
      exact ⟨_, c7, A8, c8, by rw [hrm.out]; rfl, hR7.out, by rw [hrm.out]; exact hR8.out, (hB6.out.trans (hb7.out.mono hs6)).trans (hb8.mono (by omega))⟩
    · obtain ⟨n, hn⟩ : ∃ n, (Nv.words D).length = n + 2 := ⟨(Nv.words D).length - 2, by omega⟩
      have hDv := Far.mk (bn_divide (M := (Nv.words D).length) hRN.out hRD.out hs hn hn (by omega))
      have h1i : (((Nv.words D).length : Int) == 1) = false := by simp; omega
      clear hn
      go_wp2_with fail
      with_reducible refine hDv.out.mono ?_
      rintro x w7 ⟨A7, c7, A8, c8, rfl, hR7, hR8, hb7⟩
      replace hR7 := Far.mk hR7
      replace hR8 := Far.mk hR8
      go_wp2_with fail
      go_ret3
      exact ⟨A7, c7, A8, c8, rfl, hR7.out, hR8.out, hB6.out.trans (hb7.mono hs6)⟩
end Us
end Go.Proofs.YtdpbpdhamekcdaaGreatDoor
