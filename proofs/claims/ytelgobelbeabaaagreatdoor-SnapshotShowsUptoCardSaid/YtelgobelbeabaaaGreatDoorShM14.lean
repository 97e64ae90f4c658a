/-
  Contracts of numtext.noughts, pointed, text and Text: a float's text. Conditions: the float is a float of 64 bits; the tables of powers of ten lie where they lie. Contract of the reference's May and Check: each tells whether a value may be, by the plain function of XCheck's text. Condition: the value's text is one that Go can hold. Contract of the reference's May of a number that is not +0, of May itself, and of Check. Condition: the value's text is one that Go can hold. Contract of quilllaw14.Clean: it tells a value that may be, or undefined. Condition: the value's text is one that Go can hold. Contracts of snapshot.Show and quillref14.Show: one text for each value that may be. (Printed by wip/tools/genshow.py.)
-/
import Derived.Test.YtelgobelbeabaaaGreatDoorShM13
import Derived.Lib.AppendIntMem
import Derived.Test.YtelgobelbeabaaaGreatDoorShM4
import Derived.Deep.RegionHeld3
import Derived.Deep.DeepCutAuto
import Derived.Deep.QuietTactic
import Derived.BigQuiet
namespace Go.Proofs.YtelgobelbeabaaaGreatDoor
open Go.RowKit
namespace Us
open Nv
attribute [local go_sem] S_append S_dot S_size S_zd

theorem S_c101 (a : List UInt8) : S a ++ (⟨#[101]⟩ : ByteArray) = S (a ++ [101]) := S_append a [101]
theorem S_c43 (a : List UInt8) : S a ++ (⟨#[43]⟩ : ByteArray) = S (a ++ [43]) := S_append a [43]
theorem S_c45 (a : List UInt8) : S a ++ (⟨#[45]⟩ : ByteArray) = S (a ++ [45]) := S_append a [45]
attribute [local go_sem] S_c101 S_c43 S_c45
theorem repeat_S (c : Nat) : (⟨(Lib.repeatL [48] c).toArray⟩ : ByteArray) = S (List.replicate c 48) := by
  have : Lib.repeatL [48] c = List.replicate c 48 := by
    induction c with
    | zero => rfl
    | succ c ih => rw [Lib.repeatL, ih]; rfl
  rw [this]
  rfl
theorem nt_noughts {k : Int} (hk : -100000 ≤ k ∧ k ≤ 100000) (w : World) : Calls Tryz.prog 61 #[.int .i64 k] w fun x w' => x = .returned (.string (S (List.replicate k.toNat 48))) ∧ Below w.heap.size w w' := by
  have hm : max k 0 = ((k.toNat : Nat) : Int) := by omega
  have hR := strings_Repeat ⟨#[48]⟩ k.toNat w (by omega) (by rw [show (⟨#[48]⟩ : ByteArray).size = 1 from rfl]; omega)
  rw [show (⟨#[48]⟩ : ByteArray).data.toList = [48] from rfl, repeat_S, ← hm] at hR
  replace hR := Far.mk hR
  clear hm
  go_enter Tryz.func61, Tryz.ntmps61
  go_wp2_with fail
  with_reducible refine hR.out.mono ?_
  rintro x w3 ⟨rfl, hb3⟩
  go_wp2_with fail
  go_ret
  exact ⟨rfl, hb3⟩
theorem itoa_S {k : Nat} : (⟨(Lib.itoa (k : Int)).toArray⟩ : ByteArray) = S (digs 10 k) := by
  unfold Lib.itoa
  rw [if_neg (by omega), Int.toNat_natCast, dec_eq]
  rfl
set_option maxRecDepth 100000 in
theorem nt_pointed {l : List UInt8} {e : Int} {w : World} (h1 : 1 ≤ l.length) (h2 : l.length ≤ 100000) (he : -100000 ≤ e ∧ e ≤ 100000) (hT : Tabs w) :
    Calls Tryz.prog 62 #[.string (S l), .int .i64 e] w fun x w' => x = .returned (.string (S (expS l e))) ∧ Below w.heap.size w w' := by
  have hsz := S_size l
  have x1 : (S l).extract 0 1 = S (l.take 1) := by rw [S_extract, List.drop_zero]
  have x2 : (S l).extract 1 l.length = S (l.drop 1) := by rw [S_extract, List.take_of_length_le (Nat.le_refl _)]
  obtain ⟨l1, hl1⟩ : ∃ x, l.take 1 = x := ⟨_, rfl⟩
  obtain ⟨l2, hl2⟩ : ∃ x, l.drop 1 = x := ⟨_, rfl⟩
  have hone : ¬ 1 < l.length → l1 = l := fun h => by rw [← hl1, List.take_of_length_le (by omega)]
  have n1 : l1.length = 1 := by rw [← hl1, List.length_take]; omega
  have n2 : l2.length = l.length - 1 := by rw [← hl2, List.length_drop]
  rw [hl1] at x1
  rw [hl2] at x2
  obtain ⟨k, hk⟩ : ∃ k : Nat, k = e.natAbs := ⟨_, rfl⟩
  have hI : Far (∀ W, Below w.heap.size w W → Calls Tryz.prog 88 #[.int .i64 (k : Nat)] W fun x w' => x = .returned (.string (S (digs 10 k))) ∧ Below W.heap.size W w') := ⟨fun W hb => by
    refine (strconv_Itoa (k : Int) (by omega) (by omega) W (hT.keep hb).u10).mono ?_
    rintro x w' ⟨rfl, n, os, rfl⟩
    exact ⟨by rw [itoa_S], Lib.below_grow _ W (Nat.le_refl _) n os⟩⟩
  have hx : expS l e = (if 1 < l.length then l1 ++ [46] ++ l2 else l1) ++ (if e < 0 then [101, 45] ++ digs 10 (-e).toNat else [101, 43] ++ digs 10 e.toNat) := by unfold expS; rw [hl1, hl2]
  clear hl1 hl2
  by_cases hl : 1 < l.length <;> by_cases hn : e < 0
  all_goals
    first | rw [if_pos hl] at hx | rw [if_neg hl, hone hl] at hx
    first
      | (rw [if_pos hn] at hx; obtain rfl : e = -(k : Int) := by omega
         rw [show (- -(k : Int)).toNat = k by omega] at hx)
      | (rw [if_neg hn] at hx; obtain rfl : e = (k : Int) := by omega
         rw [Int.toNat_natCast] at hx)
    rw [hx]
    clear hx hk hone
    have d1 := digs_len (k := k) (by omega)
    generalize digs 10 k = gk at *
    replace hI := Far.mk hI
    go_enter Tryz.func62, Tryz.ntmps62
    go_wp2_with fail
    try (go_quiet (fail); go_wp2_with fail)
    with_reducible refine (hI.out.out _ (by first | exact Below.refl _ _ | exact below_drawn (Below.refl _ _))).mono ?_
    rintro x w4 ⟨rfl, hb4⟩
    go_wp2_with fail
    go_ret
    first | exact ⟨by simp, hb4⟩ | exact ⟨by simp, (below_drawn (Below.refl _ _)).trans hb4⟩
set_option maxRecDepth 100000 in
set_option maxHeartbeats 1600000 in
theorem nt_text_pos {r : Nat} (h1 : 1 ≤ r) (h2 : r < infR) {w : World} (hTb : Tabs w) : Calls Tryz.prog 30 #[.float .f64 r] w (PosQ r w) := by
  have hD := Far.mk (nt_shortest h1 h2 hTb)
  have o1 : FloatKind.f64.format.order r 0 = some .gt := (order_rung h2 (by decide)).trans (by rw [Nat.compare_eq_gt.2 (by omega)])
  have o2 : (FloatKind.f64.format.order r 9218868437227405311 == some .gt) = false := by
    rw [show FloatKind.f64.format.order r 9218868437227405311 = _ from order_rung h2 (show 9218868437227405311 < infR by decide)]
    rcases Nat.lt_or_ge r 9218868437227405311 with g | g
    · rw [Nat.compare_eq_lt.2 g]; rfl
    · rw [show r = 9218868437227405311 by unfold infR at h2; omega, Nat.compare_eq_eq.2 rfl]; rfl
  have o3 : FloatKind.f64.format.order r r = some .eq := (order_rung h2 h2).trans (by rw [Nat.compare_eq_eq.2 rfl])
  have hnan : nanB r = false := by unfold nanB; rw [o3]; rfl
  go_enter Tryz.func30, Tryz.ntmps30
  go_wp2_with (first
    | (go_at_call 59; refine (math_IsInf1 o2 _).mono ?_; rintro e w' ⟨rfl, hw⟩; replace hw := hw.symm; subst hw)
    | (go_at_call 56; refine (math_IsNaN r _).mono ?_; rintro e w' ⟨rfl, rfl⟩; rw [hnan]))
  with_reducible refine hD.out.mono ?_
  rintro x w3 ⟨c, j, rfl, hsh, hl, hj1, hj2, hb3⟩
  have hc := hsh.pos
  obtain ⟨c0, l0, hl0, -⟩ := digs_head (q := c) hc
  have hl1 : 1 ≤ (digs 10 c).length := by rw [hl0]; simp
  have hT : ∀ t, txt c j = t → t.length ≤ 2000 → ∀ w', Below w3.heap.size w3 w' → PosQ r w (.returned (.string (S t))) w' := fun t h h2 w' hb => ⟨c, j, by rw [h], hsh, by rw [h]; exact h2, hb3.trans (hb.mono hb3.size)⟩
  have hx : txt c j = (let n := j + ((digs 10 c).length : Int); if ((digs 10 c).length : Int) ≤ n ∧ n ≤ 21 then digs 10 c ++ List.replicate (n - ((digs 10 c).length : Int)).toNat 48
    else if 0 < n ∧ n ≤ 21 then (digs 10 c).take n.toNat ++ [46] ++ (digs 10 c).drop n.toNat
    else if -6 < n ∧ n ≤ 0 then [48, 46] ++ List.replicate (-n).toNat 48 ++ digs 10 c
    else expS (digs 10 c) (n - 1)) := rfl
  generalize txt c j = T at *
  generalize digs 10 c = l at *
  obtain ⟨n, hn⟩ : ∃ n, j + (l.length : Int) = n := ⟨_, rfl⟩
  rw [hn] at hx ⊢
  simp only at hx
  have hnb : -600 ≤ n ∧ n ≤ 600 := by omega
  have hsz := S_size l
  clear hl0 hsh hD o1 o2 o3 hnan hn hj1 hj2 hc h1 h2
  replace hT := Far.mk hT
  by_cases a1 : (l.length : Int) ≤ n ∧ n ≤ 21
  · rw [if_pos a1] at hx
    obtain ⟨a1, a2⟩ := a1
    replace hx := Far.mk hx
    go_wp2_with (go_at_call 61; go_must (with_reducible refine (nt_noughts (by omega) _).mono ?_); rintro x w4 ⟨rfl, hb4⟩)
    go_ret
    exact hT.out _ (hx.out.trans (by simp)) (by simp; omega) _ hb4
  · rw [if_neg a1] at hx
    by_cases a2 : 0 < n ∧ n ≤ 21
    · rw [if_pos a2] at hx
      obtain ⟨a2, a3⟩ := a2
      have a4 : ¬ (l.length : Int) ≤ n := by omega
      have x1 : (S l).extract 0 n.toNat = S (l.take n.toNat) := by rw [S_extract, List.drop_zero]
      have x2 : (S l).extract n.toNat l.length = S (l.drop n.toNat) := by rw [S_extract, List.take_of_length_le (Nat.le_refl _)]
      replace hx := Far.mk hx
      clear a1
      go_wp2_with fail
      go_quiet (fail)
      go_wp2_with fail
      go_ret
      exact hT.out _ (hx.out.trans (by simp)) (by simp; omega) _ (below_drawn (Below.refl _ _))
    · rw [if_neg a2] at hx
      by_cases a3 : -6 < n ∧ n ≤ 0
      · rw [if_pos a3] at hx
        obtain ⟨a3, a4⟩ := a3
        have a5 : ¬ (l.length : Int) ≤ n := by omega
        replace hx := Far.mk hx
        clear a1 a2
        go_wp2_with (go_at_call 61; go_must (with_reducible refine (nt_noughts (by omega) _).mono ?_); rintro x w4 ⟨rfl, hb4⟩)
        go_ret
        exact hT.out _ hx.out (by simp; omega) _ hb4
      · rw [if_neg a3] at hx
        replace hx := Far.mk hx
        have hE := Far.mk (nt_pointed (w := w3) (l := l) (e := n - 1) hl1 (by omega) (by omega) (hTb.keep hb3))
        by_cases b1 : (l.length : Int) ≤ n <;> by_cases b2 : 0 < n
        all_goals
          first | (exfalso; omega) | skip
        all_goals
          have b3 : ¬ n ≤ 21 ∨ ¬ -6 < n := by omega
          rcases b3 with b3 | b3
        all_goals
          first | (exfalso; omega) | skip
        all_goals
          clear a1 a2 a3
          go_wp2_with (go_at_call 62; go_must (with_reducible refine hE.out.mono ?_); rintro x w4 ⟨rfl, hb4⟩)
          go_ret
          exact hT.out _ hx.out (by have := expS_len l (n - 1) (by omega) (by omega); omega) _ hb4
theorem nt_text_nn {r : Nat} (h2 : r ≤ infR) {w : World} (hTb : Tabs w) : Calls Tryz.prog 30 #[.float .f64 r] w (TextQ 2000 (TxtR r) w) := by
  obtain ⟨i1, i2, i3, i4, i5⟩ := inf_orders
  rcases Nat.eq_zero_or_pos r with rfl | h1
  · go_enter Tryz.func30, Tryz.ntmps30
    go_wp2_with (go_at_call 56; refine (math_IsNaN 0 _).mono ?_; rintro e w' ⟨rfl, rfl⟩; rw [i5])
    go_ret
    exact ⟨[48], rfl, .inl ⟨rfl, rfl⟩, by decide, Below.refl _ _⟩
  · rcases Nat.lt_or_ge r infR with g | g
    · refine (nt_text_pos h1 g hTb).mono ?_
      rintro x w' ⟨c, j, rfl, hs, hl, hb⟩
      exact ⟨_, rfl, .inr (.inr ⟨h1, g, c, j, hs, rfl⟩), by omega, hb⟩
    · have : r = infR := Nat.le_antisymm h2 g
      subst this
      have hq : ∃ q, infR = q := ⟨_, rfl⟩
      have hT : TxtR infR [73, 110, 102, 105, 110, 105, 116, 121] := .inr (.inl ⟨rfl, rfl⟩)
      obtain ⟨q, hq⟩ := hq
      rw [hq] at i1 i2 i3 hT ⊢
      go_enter Tryz.func30, Tryz.ntmps30
      go_wp2_with (first
        | (go_at_call 59; refine (math_IsInf1 i2 _).mono ?_; rintro e w' ⟨rfl, hw⟩; replace hw := hw.symm; subst hw)
        | (go_at_call 56; refine (math_IsNaN q _).mono ?_; rintro e w' ⟨rfl, rfl⟩; rw [i3]))
      go_ret
      exact ⟨_, rfl, hT, by decide, Below.refl _ _⟩
theorem nt_text {f : Nat} (hf : f < 18446744073709551616) {w : World} (hTb : Tabs w) : Calls Tryz.prog 30 #[.float .f64 f] w (TextQ 2001 (TxtW f) w) := by
  obtain ⟨b, hb⟩ : ∃ b, nanB f = b := ⟨_, rfl⟩
  cases b with
  | true =>
    go_enter Tryz.func30, Tryz.ntmps30
    go_wp2_with (go_at_call 56; refine (math_IsNaN f _).mono ?_; rintro e w' ⟨rfl, rfl⟩; rw [hb])
    go_ret
    exact ⟨_, rfl, .inl ⟨hb, rfl⟩, by decide, Below.refl _ _⟩
  | false =>
    have hm : f % 9223372036854775808 ≤ infR := by
      rcases Nat.lt_or_ge infR (f % 9223372036854775808) with g | g
      · rw [nan_big g] at hb
        cases hb
      · exact g
    rcases Nat.lt_or_ge f 9223372036854775808 with g | g
    · rw [Nat.mod_eq_of_lt g] at hm
      refine (nt_text_nn hm hTb).mono ?_
      rintro x w' ⟨s, rfl, hs, hl, hbw⟩
      exact ⟨s, rfl, .inr (.inl ⟨hb, g, hs⟩), by omega, hbw⟩
    · obtain ⟨r, rfl⟩ : ∃ r, f = 9223372036854775808 + r := ⟨f - 9223372036854775808, by omega⟩
      rw [show (9223372036854775808 + r) % 9223372036854775808 = r by omega] at hm
      obtain ⟨ho, -⟩ := order_neg hm
      have hneg := neg_bits (r := r) (by omega)
      rcases Nat.eq_zero_or_pos r with rfl | h1
      · rw [if_pos rfl] at ho
        have hT : TxtW (9223372036854775808 + 0) [48] := .inr (.inr ⟨hb, by omega, [48], .inl ⟨by omega, rfl⟩, by rw [if_pos rfl]⟩)
        clear hneg hm g hf
        obtain ⟨F, hF⟩ : ∃ F, 9223372036854775808 + 0 = F := ⟨_, rfl⟩
        rw [hF] at ho hb hT ⊢
        clear hF
        go_enter Tryz.func30, Tryz.ntmps30
        go_wp2_with (go_at_call 56; refine (math_IsNaN F _).mono ?_; rintro e w' ⟨rfl, rfl⟩; rw [hb])
        go_ret
        exact ⟨_, rfl, hT, by decide, Below.refl _ _⟩
      · rw [if_neg (by omega)] at ho
        have hR := Far.mk (nt_text_nn hm hTb)
        have hT : ∀ t, TxtR r t → TxtW (9223372036854775808 + r) (45 :: t) := fun t h => .inr (.inr ⟨hb, by omega, t, by rw [show 9223372036854775808 + r - 9223372036854775808 = r by omega]; exact h, by rw [if_neg (by omega)]⟩)
        replace hT := Far.mk hT
        obtain ⟨F, hF⟩ : ∃ F, 9223372036854775808 + r = F := ⟨_, rfl⟩
        have hn2 : ∀ W, (Op.unary .neg (.float .f64 F)).run Tryz.prog W = .ok (.float .f64 r) W := fun W => by
          rw [← hF]
          show Result.ok (Value.float .f64 ((9223372036854775808 + r) ^^^ 9223372036854775808)) W = _
          rw [hneg]
        rw [hF] at ho hb hT ⊢
        clear hF hneg hm hf g
        go_enter Tryz.func30, Tryz.ntmps30
        go_wp2_with (go_at_call 56; refine (math_IsNaN F _).mono ?_; rintro e w' ⟨rfl, rfl⟩; rw [hb])
        with_reducible refine hR.out.mono ?_
        rintro x w3 ⟨s, rfl, hs, hl, hb3⟩
        have hcat : (⟨#[45]⟩ : ByteArray) ++ S s = S (45 :: s) := S_append [45] s
        go_wp2_with fail
        go_ret
        exact ⟨_, rfl, hT.out _ hs, by simp; omega, hb3⟩
theorem nt_Text_float {f : Nat} (hf : f < 18446744073709551616) {w : World} (hTb : Tabs w) : Calls Tryz.prog 12 #[.float .f64 f] w fun x w' => ∃ s, TxtW f s ∧ s.length ≤ 2001 ∧ x = .returned (.string (S (wide s))) ∧ Below w.heap.size w w' := by
  have hT := Far.mk (nt_text hf hTb)
  go_enter Tryz.func12, Tryz.ntmps12
  go_wp2_with fail
  with_reducible refine hT.out.mono ?_
  rintro x w3 ⟨s, rfl, hs, hl, hb3⟩
  have hW := Far.mk (ustr_Wide (S s) w3 (by rw [S_size]; omega))
  go_wp2_with fail
  with_reducible refine hW.out.mono ?_
  rintro x w4 ⟨rfl, hb4⟩
  go_wp2_with fail
  go_ret
  exact ⟨s, hs, hl, rfl, hb3.trans (hb4.mono hb3.size)⟩
end Us
end Go.Proofs.YtelgobelbeabaaaGreatDoor
namespace Go.Proofs.YtelgobelbeabaaaGreatDoor
open Go.RowKit

attribute [local go_sem] run_Float64bits
set_option maxHeartbeats 2000000 in
theorem May_nz (k : Int) (b : Bool) (n : Nat) (s : ByteArray) (o : Int) (w : World) (hs : s.size ≤ maxLen) (hn : n ≠ 0) (hk : k ≠ 3) :
    Calls Tryz.prog 8 #[val k b n s o] w fun e w' => e = .returned (.bool (mayB k b n s o)) ∧ Below w.heap.size w w' := by
  unfold maxLen at hs
  have hno : ∀ b' s' o', mayB k b' n s' o' = false := fun _ _ _ => mayB_no fun h => hk (h.2.2.2.1 hn).1
  have HN := Lib.hid hno
  have hn' : ((n : Int) == 0) = false := by simp [hn]
  have hk' : (k == 3) = false := by simp [hk]
  clear hno hn hk
  cases b <;> go_enter Tryz.func8, Tryz.ntmps8 <;> go_upto_region 2 with fail
  all_goals
    go_quiet (fail)
    go_wp2
    all_goals go_ret
    all_goals exact ⟨by rw [HN.out _ _ _]; rfl, below_drawn (by go_grown)⟩
set_option maxHeartbeats 2000000 in
theorem May_z (k : Int) (b : Bool) (s : ByteArray) (o : Int) (w : World) (hs : s.size ≤ maxLen) :
    Calls Tryz.prog 8 #[val k b 0 s o] w fun e w' => e = .returned (.bool (mayB k b 0 s o)) ∧ Below w.heap.size w w' := by
  unfold maxLen at hs
  cases b <;> go_enter Tryz.func8, Tryz.ntmps8 <;> go_upto_region 2 with fail
  all_goals
    go_quiet (fail)
    go_wp2
    all_goals go_ret
    all_goals refine ⟨?_, below_drawn (by go_grown)⟩
    all_goals refine ret_bool (mayB_iff ?_)
    all_goals first | (simp_all [mayP]; done) | (simp_all [mayP]; omega)
end Go.Proofs.YtelgobelbeabaaaGreatDoor
namespace Go.Proofs.YtelgobelbeabaaaGreatDoor
open Go.RowKit

attribute [local go_sem] run_Float64bits run_field_N
set_option maxRecDepth 100000 in
set_option maxHeartbeats 2000000 in
theorem May_3 (b : Bool) (n : Nat) (s : ByteArray) (o : Int) (w : World) (hn : n ≠ 0) (x : Bool) (hx : ((toldN n : Int) == (n : Int)) = x) :
    Calls Tryz.prog 8 #[val 3 b n s o] w fun e w' => e = .returned (.bool (mayB 3 b n s o)) ∧ Below w.heap.size w w' := by
  have hn' : ((n : Int) == 0) = false := by simp [hn]
  have HX : Hid ((toldN n = n) ↔ x = true) := by
    show _ ↔ _
    rw [← hx, beq_iff_eq]
    omega
  clear hn
  cases x <;> cases b <;> go_enter Tryz.func8, Tryz.ntmps8 <;> go_upto_region 2 with fail
  all_goals
    go_region_held3 (fun w' => w'.cell? ⟨w.heap.size, 0, none⟩ = some (.int .i64 3) ∧ w'.cell? ⟨w.heap.size, 2, none⟩ = some (.float .f64 n) ∧ w'.cell? ⟨w.heap.size, 3, none⟩ = some (.string s) ∧ w'.cell? ⟨w.heap.size, 4, none⟩ = some (.int .i64 o))
      (first | go_keep | (go_split_ands; refine ⟨?_, ?_, ?_, ?_⟩ <;> exact below_keep k' (by assumption))) (first | (go_at_call 21; refine (ref_Number_agg n _).mono ?_; rintro e w' ⟨rfl, k'⟩))
    obtain ⟨q0, q2, q3, q4⟩ := ‹_ ∧ _ ∧ _ ∧ _›
    have HB := Lib.hid (show Below w.heap.size w w' from below_via k' (by go_grown) (by simp))
    clear k'
    go_wp2
    all_goals go_ret
    all_goals refine ⟨?_, HB.out⟩
    all_goals refine ret_bool (mayB_iff ?_)
    all_goals (have hX := HX.out; clear q0 q2 q3 q4 HB hx)
    all_goals first | (simp_all [mayP]; done) | (simp_all [mayP]; omega)

theorem ref_May (k : Int) (b : Bool) (n : Nat) (s : ByteArray) (o : Int) (w : World) (hs : s.size ≤ maxLen) :
    Calls Tryz.prog 8 #[val k b n s o] w fun e w' => e = .returned (.bool (mayB k b n s o)) ∧ Below w.heap.size w w' := by
  by_cases hn : n = 0
  · subst hn; exact May_z k b s o w hs
  · by_cases hk : k = 3
    · subst hk; exact May_3 b n s o w hn _ rfl
    · exact May_nz k b n s o w hs hn hk

end Go.Proofs.YtelgobelbeabaaaGreatDoor
namespace Go.Proofs.YtelgobelbeabaaaGreatDoor
open Go.RowKit

/-- Some value came back, nothing that was there turned. -/
def SomeVal (w : World) (e : Ending) (w' : World) : Prop := ∃ k b n s o, e = .returned (val k b n s o) ∧ s.size ≤ maxLen ∧ Below w.heap.size w w'

theorem law14_Clean_yes (k : Int) (b : Bool) (n : Nat) (s : ByteArray) (o : Int) (w : World) (hs : s.size ≤ maxLen) (hm : mayB k b n s o = true) :
    Calls Tryz.prog 4 #[val k b n s o] w fun e w' => e = .returned (val k b n s o) ∧ Below w.heap.size w w' := by
  have hM := fun w => ref_May k b n s o w hs
  rw [hm] at hM
  clear hm
  go_enter Tryz.func4, Tryz.ntmps4
  go_wp2_with fail
  refine (hM _).mono ?_
  rintro e w' ⟨rfl, k'⟩
  have B0 := ((HasB.new w _ _).alloc _).below k'
  have B1 := (HasB.new (w.alloc _) _ _).below k'
  have HB := Lib.hid (show Below w.heap.size w w' from below_via k' (by go_grown) (by simp; omega))
  have hz := k'.size
  simp at B1 hz
  obtain ⟨p0, p1, p2, p3, p4, pf⟩ := B0.five
  obtain ⟨q0, q1, q2, q3, q4, qf⟩ := B1.five
  clear k' hM B0 B1 hs
  go_wp2
  refine bodyPost_ret (v := val k b n s o) (by simp [results, Tryz.results4, go_sem, q0, q1, q2, q3, q4]) rfl ?_
  exact ⟨rfl, HB.out.setCell (by simp) _ |>.setCell (by simp) _ |>.setCell (by simp) _ |>.setCell (by simp) _ |>.setCell (by simp) _⟩
theorem law14_Clean_no (k : Int) (b : Bool) (n : Nat) (s : ByteArray) (o : Int) (w : World) (hs : s.size ≤ maxLen) (hm : mayB k b n s o = false) :
    Calls Tryz.prog 4 #[val k b n s o] w fun e w' => e = .returned (val 0 false 0 ⟨#[]⟩ 0) ∧ Below w.heap.size w w' := by
  have hM := fun w => ref_May k b n s o w hs
  rw [hm] at hM
  clear hm
  go_enter Tryz.func4, Tryz.ntmps4
  go_wp2_with fail
  refine (hM _).mono ?_
  rintro e w' ⟨rfl, k'⟩
  have B1 := (HasB.new (w.alloc _) _ _).below k'
  have HB := Lib.hid (show Below w.heap.size w w' from below_via k' (by go_grown) (by simp; omega))
  have hz := k'.size
  simp at B1 hz
  obtain ⟨q0, q1, q2, q3, q4, qf⟩ := B1.five
  clear k' hM B1 hs
  go_wp2
  refine bodyPost_ret (v := val 0 false 0 ⟨#[]⟩ 0) (by simp [results, Tryz.results4, go_sem, q0, q1, q2, q3, q4]) rfl ?_
  exact ⟨rfl, HB.out.setCell (by simp) _ |>.setCell (by simp) _ |>.setCell (by simp) _ |>.setCell (by simp) _ |>.setCell (by simp) _⟩
theorem law14_Clean (k : Int) (b : Bool) (n : Nat) (s : ByteArray) (o : Int) (w : World) (hs : s.size ≤ maxLen) :
    Calls Tryz.prog 4 #[val k b n s o] w (SomeVal w) := by
  cases hm : mayB k b n s o with
  | true => exact (law14_Clean_yes k b n s o w hs hm).mono fun _ _ h => ⟨k, b, n, s, o, h.1, hs, h.2⟩
  | false => exact (law14_Clean_no k b n s o w hs hm).mono fun _ _ h => ⟨0, false, 0, ⟨#[]⟩, 0, h.1, Nat.zero_le _, h.2⟩
end Go.Proofs.YtelgobelbeabaaaGreatDoor
namespace Go.Proofs.YtelgobelbeabaaaGreatDoor
open Go.RowKit
namespace Us
open Nv

/-- Is the sign's bit set? -/
def sgB (n : Nat) : Bool := decide (wrap64 (n : Int) < 0)
attribute [local go_sem] run_Float64bits
theorem math_Signbit (n : Nat) (w : World) : Calls Tryz.prog 10 #[.float .f64 n] w fun e w' => e = .returned (.bool (sgB n)) ∧ w' = w := by
  go_enter Tryz.func10, Tryz.ntmps10
  go_wp2_with fail
  go_ret
  exact ⟨rfl, rfl⟩
/-- A boolean's text. -/
def boolS (b : Bool) : ByteArray := if b then ⟨#[116, 114, 117, 101]⟩ else ⟨#[102, 97, 108, 115, 101]⟩
/-- A value's text. -/
def ShowR (k : Int) (b : Bool) (n : Nat) (s : ByteArray) (t : ByteArray) : Prop :=
  (k = 0 ∧ t = ⟨#[117, 110, 100, 101, 102, 105, 110, 101, 100]⟩) ∨ (k = 1 ∧ t = ⟨#[110, 117, 108, 108]⟩) ∨ (k = 2 ∧ t = boolS b) ∨
  (k = 3 ∧ ((FloatKind.f64.format.order n 0 == some .eq) = true ∧ sgB n = true) ∧ t = ⟨#[45, 48]⟩) ∨ (k = 3 ∧ ¬ ((FloatKind.f64.format.order n 0 == some .eq) = true ∧ sgB n = true) ∧ ∃ l, TxtW n l ∧ t = S l) ∨
  (k = 4 ∧ t = S (qt s (s.size / 2))) ∨ (k = 5 ∧ t = ⟨#[35]⟩)
theorem ShowR.one {k : Int} {b : Bool} {n : Nat} {s t u : ByteArray} (h : ShowR k b n s t) (g : ShowR k b n s u) : t = u := by
  unfold ShowR at h g
  rcases h with ⟨h, rfl⟩ | ⟨h, rfl⟩ | ⟨h, rfl⟩ | ⟨h, p, rfl⟩ | ⟨h, p, l, hl, rfl⟩ | ⟨h, rfl⟩ | ⟨h, rfl⟩ <;> subst h <;> rcases g with ⟨g, rfl⟩ | ⟨g, rfl⟩ | ⟨g, rfl⟩ | ⟨g, q, rfl⟩ | ⟨g, q, m, hm, rfl⟩ | ⟨g, rfl⟩ | ⟨g, rfl⟩ <;> first | (exact absurd g (by decide)) | rfl | (exact absurd p q) | (exact absurd q p) | (rw [hl.one hm])
/-- What Show tells. -/
def ShowQ (k : Int) (b : Bool) (n : Nat) (s : ByteArray) (w : World) (e : Ending) (w' : World) : Prop := ∃ t, e = .returned (.string t) ∧ ShowR k b n s t ∧ Below w.heap.size w w'
/-- Letters below 128 alone. -/
def Low (l : List UInt8) : Prop := ∀ c ∈ l, c.toNat < 128
theorem Low.app {a b : List UInt8} (h : Low a) (g : Low b) : Low (a ++ b) := fun c hc => (List.mem_append.1 hc).elim (h c) (g c)
theorem Low.of {l : List UInt8} (h : l.all (fun c => decide (c.toNat < 128)) = true) : Low l := fun c hc => of_decide_eq_true (List.all_eq_true.1 h c hc)
theorem low_digs (q : Nat) : Low (digs 10 q) := fun c hc => by have := digs_digit q c hc; omega
theorem low_rep (n : Nat) : Low (List.replicate n 48) := fun c hc => by rw [(List.mem_replicate.1 hc).2]; decide
theorem low_take {l : List UInt8} (h : Low l) (n : Nat) : Low (l.take n) := fun c hc => h c (List.mem_of_mem_take hc)
theorem low_drop {l : List UInt8} (h : Low l) (n : Nat) : Low (l.drop n) := fun c hc => h c (List.mem_of_mem_drop hc)
theorem low_expS {l : List UInt8} (h : Low l) (e : Int) : Low (expS l e) := by
  unfold expS
  refine Low.app ?_ ?_
  · split
    · exact ((low_take h 1).app (Low.of (by decide))).app (low_drop h 1)
    · exact low_take h 1
  · split
    · exact (Low.of (l := [101, 45]) (by decide)).app (low_digs _)
    · exact (Low.of (l := [101, 43]) (by decide)).app (low_digs _)
theorem low_txt (c : Nat) (j : Int) : Low (txt c j) := by
  unfold txt
  dsimp only
  split
  · exact (low_digs c).app (low_rep _)
  · split
    · exact ((low_take (low_digs c) _).app (Low.of (by decide))).app (low_drop (low_digs c) _)
    · split
      · exact ((Low.of (by decide)).app (low_rep _)).app (low_digs c)
      · exact low_expS (low_digs c) _
theorem low_TxtR {r : Nat} {s : List UInt8} (h : TxtR r s) : Low s := by
  rcases h with ⟨-, rfl⟩ | ⟨-, rfl⟩ | ⟨-, -, c, j, -, rfl⟩
  · exact Low.of (by decide)
  · exact Low.of (by decide)
  · exact low_txt c j
theorem low_TxtW {f : Nat} {s : List UInt8} (h : TxtW f s) : Low s := by
  rcases h with ⟨-, rfl⟩ | ⟨-, -, h⟩ | ⟨-, -, t, h, rfl⟩
  · exact Low.of (by decide)
  · exact low_TxtR h
  · split
    · exact low_TxtR h
    · exact (Low.of (l := [45]) (by decide)).app (low_TxtR h)
theorem txt_ascii {n : Nat} {l : List UInt8} (h : TxtW n l) : ∀ k, k < l.length → (l.getD k 0).toNat < 128 := by
  intro k hk
  refine low_TxtW h _ ?_
  rw [List.getD_eq_getElem?_getD, List.getElem?_eq_getElem hk]
  exact List.getElem_mem hk
theorem qt_ascii (s : ByteArray) (n : Nat) : ∀ k, k < (qt s n).length → ((qt s n).getD k 0).toNat < 128 := by
  intro k h
  have hm : (qt s n).getD k 0 ∈ qt s n := by
    rw [List.getD_eq_getElem?_getD, List.getElem?_eq_getElem h]
    exact List.getElem_mem h
  unfold qt at hm ⊢
  rcases List.mem_append.1 hm with hm | hm
  · have := qk_range s n _ hm
    omega
  · rw [List.mem_singleton.1 hm]
    decide
theorem wide_S (l : List UInt8) : (⟨(wide l).toArray⟩ : ByteArray) = S (wide l) := rfl
theorem int_FormatBool (b : Bool) (w : World) : Calls Tryz.prog 22 #[.bool b] w fun e w' => e = .returned (.string (boolS b)) ∧ w' = w := by
  cases b
  all_goals
    go_enter Tryz.func22, Tryz.ntmps22
    go_wp2
    go_ret
    exact ⟨rfl, rfl⟩
theorem str_FormatBool (b : Bool) (w : World) : Calls Tryz.prog 9 #[.bool b] w fun e w' => e = .returned (.string (boolS b)) ∧ w' = w := by
  have h := Far.mk (int_FormatBool b)
  go_enter Tryz.func9, Tryz.ntmps9
  go_wp2_with (go_at_call 22; go_must (with_reducible refine (h.out _).mono ?_); rintro e w1 ⟨rfl, hw⟩; replace hw := hw.symm; subst hw)
  go_ret
  exact ⟨rfl, rfl⟩
/-- snapshot.quote. -/
theorem snap_quote {s : ByteArray} {n : Nat} (hs : s.size = 2 * n) (hn : n ≤ 600000) (w : World) : Calls Tryz.prog 13 #[.string s] w (EncQ (qt s n) w) := by
  have h1 := Far.mk (lex_Quote hs hn)
  have h2 := Far.mk (us_Encode (l := qt s n) (by have := qt_len s n; omega) (qt_ascii s n))
  clear hs hn
  unfold EncQ
  go_enter Tryz.func13, Tryz.ntmps13
  go_wp2_with fail
  with_reducible refine (h1.out _).mono ?_
  rintro e w1 ⟨rfl, hb1⟩
  go_wp2_with fail
  with_reducible refine (h2.out _).mono ?_
  rintro e w2 ⟨rfl, hb2⟩
  replace hb2 := hb1.trans (hb2.mono hb1.size)
  clear hb1
  go_wp2_with fail
  go_ret
  exact ⟨rfl, hb2⟩
theorem ref_narrow {l : List UInt8} (hl : l.length ≤ 3800000) (ha : ∀ k, k < l.length → (l.getD k 0).toNat < 128) (w : World) : Calls Tryz.prog 14 #[.string (S (wide l))] w (EncQ l w) := by
  have h2 := Far.mk (ref_Encode hl ha)
  clear hl ha
  unfold EncQ
  obtain ⟨s, hs⟩ : ∃ s, S (wide l) = s := ⟨_, rfl⟩
  replace h2 : Far (∀ w, Calls Tryz.prog 32 #[.string s] w (EncQ l w)) := ⟨by rw [← hs]; exact h2.out⟩
  rw [hs]
  clear hs
  go_enter Tryz.func14, Tryz.ntmps14
  go_wp2_with fail
  with_reducible refine (h2.out _).mono ?_
  rintro e w1 ⟨rfl, hb1⟩
  go_wp2_with fail
  go_ret
  exact ⟨rfl, hb1⟩
theorem snap_k0 {b : Bool} {n : Nat} {s : ByteArray} {o : Int} (w : World) : Calls Tryz.prog 5 #[_root_.Go.Proofs.YtelgobelbeabaaaGreatDoor.val 0 b n s o] w (ShowQ 0 b n s w) := by
  unfold ShowQ
  go_enter Tryz.func5, Tryz.ntmps5
  go_wp2
  go_ret
  exact ⟨_, rfl, .inl ⟨rfl, rfl⟩, by go_grown⟩
theorem snap_k1 {b : Bool} {n : Nat} {s : ByteArray} {o : Int} (w : World) : Calls Tryz.prog 5 #[_root_.Go.Proofs.YtelgobelbeabaaaGreatDoor.val 1 b n s o] w (ShowQ 1 b n s w) := by
  unfold ShowQ
  go_enter Tryz.func5, Tryz.ntmps5
  go_wp2
  go_ret
  exact ⟨_, rfl, .inr (.inl ⟨rfl, rfl⟩), by go_grown⟩
theorem snap_k5 {b : Bool} {n : Nat} {s : ByteArray} {o : Int} (w : World) : Calls Tryz.prog 5 #[_root_.Go.Proofs.YtelgobelbeabaaaGreatDoor.val 5 b n s o] w (ShowQ 5 b n s w) := by
  unfold ShowQ
  go_enter Tryz.func5, Tryz.ntmps5
  go_wp2
  go_ret
  exact ⟨_, rfl, .inr (.inr (.inr (.inr (.inr (.inr ⟨rfl, rfl⟩))))), by go_grown⟩
theorem snap_k2 {b : Bool} {n : Nat} {s : ByteArray} {o : Int} (w : World) : Calls Tryz.prog 5 #[_root_.Go.Proofs.YtelgobelbeabaaaGreatDoor.val 2 b n s o] w (ShowQ 2 b n s w) := by
  have h := Far.mk (str_FormatBool b)
  unfold ShowQ
  go_enter Tryz.func5, Tryz.ntmps5
  go_wp2_with (go_at_call 9; go_must (with_reducible refine (h.out _).mono ?_); rintro e w1 ⟨rfl, hw⟩; replace hw := hw.symm; subst hw)
  go_ret
  exact ⟨_, rfl, .inr (.inr (.inl ⟨rfl, rfl⟩)), by go_grown⟩
theorem snap_k3z {b : Bool} {n : Nat} {s : ByteArray} {o : Int} (w : World) (h1 : (FloatKind.f64.format.order n 0 == some .eq) = true) (h2 : sgB n = true) : Calls Tryz.prog 5 #[_root_.Go.Proofs.YtelgobelbeabaaaGreatDoor.val 3 b n s o] w (ShowQ 3 b n s w) := by
  have hS := math_Signbit n
  rw [h2] at hS
  have hR : Far (ShowR 3 b n s ⟨#[45, 48]⟩) := ⟨.inr (.inr (.inr (.inl ⟨rfl, ⟨h1, h2⟩, rfl⟩)))⟩
  replace hS := Far.mk hS
  clear h2
  unfold ShowQ
  go_enter Tryz.func5, Tryz.ntmps5
  go_wp2_with (go_at_call 10; go_must (with_reducible refine (hS.out _).mono ?_); rintro e w1 ⟨rfl, hw⟩; replace hw := hw.symm; subst hw)
  go_ret
  exact ⟨_, rfl, hR.out, by go_grown⟩
theorem snap_k3 {b : Bool} {n : Nat} {s : ByteArray} {o : Int} (w : World) (hT : Tabs w) (hf : n < 18446744073709551616) (h : ¬ ((FloatKind.f64.format.order n 0 == some .eq) = true ∧ sgB n = true)) : Calls Tryz.prog 5 #[_root_.Go.Proofs.YtelgobelbeabaaaGreatDoor.val 3 b n s o] w (ShowQ 3 b n s w) := by
  have hTx := Far.mk (fun W (hb : Below w.heap.size w W) => nt_Text_float hf (hT.keep hb))
  have hE : Far (∀ l, TxtW n l → l.length ≤ 2001 → ∀ w, Calls Tryz.prog 11 #[.string (S (wide l))] w (EncQ l w)) := ⟨fun l hl h2 w => us_Encode (by omega) (txt_ascii hl) w⟩
  have hR : Far (∀ l, TxtW n l → ShowR 3 b n s (S l)) := ⟨fun l hl => .inr (.inr (.inr (.inr (.inl ⟨rfl, h, l, hl, rfl⟩))))⟩
  have hC : (FloatKind.f64.format.order n 0 == some .eq) = false ∨ ((FloatKind.f64.format.order n 0 == some .eq) = true ∧ sgB n = false) := by
    cases h1 : (FloatKind.f64.format.order n 0 == some .eq) with
    | false => exact .inl rfl
    | true =>
      refine .inr ⟨rfl, ?_⟩
      cases h2 : sgB n with
      | false => rfl
      | true => exact absurd ⟨h1, h2⟩ h
  clear h hf hT
  unfold ShowQ
  rcases hC with h1 | ⟨h1, h2⟩
  · go_enter Tryz.func5, Tryz.ntmps5
    go_wp2_with fail
    refine calls_gen (fun W => Far (Below w.heap.size w W)) ⟨by go_grown⟩ ?_
    rintro W hb
    with_reducible refine (hTx.out _ hb.out).mono ?_
    rintro e w1 ⟨l, hl, hll, rfl, hb1⟩
    have hb2 := Far.mk (hb.out.trans (hb1.mono hb.out.size))
    have hEl := Far.mk (hE.out l hl hll)
    have hRl := Far.mk (hR.out l hl)
    clear hb hb1 hl hll
    go_wp2_with fail
    with_reducible refine (hEl.out _).mono ?_
    rintro e w2 ⟨rfl, hb3⟩
    have hb4 := Far.mk (hb2.out.trans (hb3.mono hb2.out.size))
    clear hb2 hb3
    go_wp2_with fail
    go_ret
    exact ⟨_, rfl, hRl.out, hb4.out⟩
  · have hS := math_Signbit n
    rw [h2] at hS
    replace hS := Far.mk hS
    clear h2
    go_enter Tryz.func5, Tryz.ntmps5
    go_wp2_with (go_at_call 10; go_must (with_reducible refine (hS.out _).mono ?_); rintro e w1 ⟨rfl, hw⟩; replace hw := hw.symm; subst hw)
    refine calls_gen (fun W => Far (Below w.heap.size w W)) ⟨by go_grown⟩ ?_
    rintro W hb
    with_reducible refine (hTx.out _ hb.out).mono ?_
    rintro e w1 ⟨l, hl, hll, rfl, hb1⟩
    have hb2 := Far.mk (hb.out.trans (hb1.mono hb.out.size))
    have hEl := Far.mk (hE.out l hl hll)
    have hRl := Far.mk (hR.out l hl)
    clear hb hb1 hl hll
    go_wp2_with fail
    with_reducible refine (hEl.out _).mono ?_
    rintro e w2 ⟨rfl, hb3⟩
    have hb4 := Far.mk (hb2.out.trans (hb3.mono hb2.out.size))
    clear hb2 hb3
    go_wp2_with fail
    go_ret
    exact ⟨_, rfl, hRl.out, hb4.out⟩
theorem snap_k4 {b : Bool} {n m : Nat} {s : ByteArray} {o : Int} (w : World) (hs : s.size = 2 * m) (hn : m ≤ 600000) : Calls Tryz.prog 5 #[_root_.Go.Proofs.YtelgobelbeabaaaGreatDoor.val 4 b n s o] w (ShowQ 4 b n s w) := by
  have hQ := Far.mk (snap_quote hs hn)
  have hR : Far (ShowR 4 b n s (S (qt s m))) := ⟨.inr (.inr (.inr (.inr (.inr (.inl ⟨rfl, by rw [hs, Nat.mul_div_cancel_left _ (by decide)]⟩)))))⟩
  clear hs hn
  unfold ShowQ
  go_enter Tryz.func5, Tryz.ntmps5
  go_wp2_with fail
  refine calls_gen (fun W => Far (Below w.heap.size w W)) ⟨by go_grown⟩ ?_
  rintro W hb
  with_reducible refine (hQ.out _).mono ?_
  rintro e w1 ⟨rfl, hb1⟩
  have hb4 := Far.mk (hb.out.trans (hb1.mono hb.out.size))
  clear hb hb1
  go_wp2_with fail
  go_ret
  exact ⟨_, rfl, hR.out, hb4.out⟩
theorem rf_k0 {b : Bool} {n : Nat} {s : ByteArray} {o : Int} (w : World) : Calls Tryz.prog 6 #[_root_.Go.Proofs.YtelgobelbeabaaaGreatDoor.val 0 b n s o] w (ShowQ 0 b n s w) := by
  unfold ShowQ
  go_enter Tryz.func6, Tryz.ntmps6
  go_wp2
  go_ret
  exact ⟨_, rfl, .inl ⟨rfl, rfl⟩, by go_grown⟩
theorem rf_k1 {b : Bool} {n : Nat} {s : ByteArray} {o : Int} (w : World) : Calls Tryz.prog 6 #[_root_.Go.Proofs.YtelgobelbeabaaaGreatDoor.val 1 b n s o] w (ShowQ 1 b n s w) := by
  unfold ShowQ
  go_enter Tryz.func6, Tryz.ntmps6
  go_wp2
  go_ret
  exact ⟨_, rfl, .inr (.inl ⟨rfl, rfl⟩), by go_grown⟩
theorem rf_k5 {b : Bool} {n : Nat} {s : ByteArray} {o : Int} (w : World) : Calls Tryz.prog 6 #[_root_.Go.Proofs.YtelgobelbeabaaaGreatDoor.val 5 b n s o] w (ShowQ 5 b n s w) := by
  unfold ShowQ
  go_enter Tryz.func6, Tryz.ntmps6
  go_wp2
  go_ret
  exact ⟨_, rfl, .inr (.inr (.inr (.inr (.inr (.inr ⟨rfl, rfl⟩))))), by go_grown⟩
theorem rf_k2 {b : Bool} {n : Nat} {s : ByteArray} {o : Int} (w : World) : Calls Tryz.prog 6 #[_root_.Go.Proofs.YtelgobelbeabaaaGreatDoor.val 2 b n s o] w (ShowQ 2 b n s w) := by
  cases b
  all_goals
    unfold ShowQ
    go_enter Tryz.func6, Tryz.ntmps6
    go_wp2
    go_ret
    exact ⟨_, rfl, .inr (.inr (.inl ⟨rfl, rfl⟩)), by go_grown⟩
theorem rf_k3z {b : Bool} {n : Nat} {s : ByteArray} {o : Int} (w : World) (h1 : (FloatKind.f64.format.order n 0 == some .eq) = true) (h2 : sgB n = true) : Calls Tryz.prog 6 #[_root_.Go.Proofs.YtelgobelbeabaaaGreatDoor.val 3 b n s o] w (ShowQ 3 b n s w) := by
  have hS := math_Signbit n
  rw [h2] at hS
  have hR : Far (ShowR 3 b n s ⟨#[45, 48]⟩) := ⟨.inr (.inr (.inr (.inl ⟨rfl, ⟨h1, h2⟩, rfl⟩)))⟩
  replace hS := Far.mk hS
  clear h2
  unfold ShowQ
  go_enter Tryz.func6, Tryz.ntmps6
  go_wp2_with (go_at_call 10; go_must (with_reducible refine (hS.out _).mono ?_); rintro e w1 ⟨rfl, hw⟩; replace hw := hw.symm; subst hw)
  go_ret
  exact ⟨_, rfl, hR.out, by go_grown⟩
theorem rf_k3 {b : Bool} {n : Nat} {s : ByteArray} {o : Int} (w : World) (hf : n < 18446744073709551616) (h : ¬ ((FloatKind.f64.format.order n 0 == some .eq) = true ∧ sgB n = true)) : Calls Tryz.prog 6 #[_root_.Go.Proofs.YtelgobelbeabaaaGreatDoor.val 3 b n s o] w (ShowQ 3 b n s w) := by
  have hTx := Far.mk (fun W (_ : Below w.heap.size w W) => ref_Text_float hf W)
  have hE : Far (∀ l, TxtW n l → l.length ≤ 2001 → ∀ w, Calls Tryz.prog 14 #[.string (S (wide l))] w (EncQ l w)) := ⟨fun l hl h2 w => ref_narrow (by omega) (txt_ascii hl) w⟩
  have hR : Far (∀ l, TxtW n l → ShowR 3 b n s (S l)) := ⟨fun l hl => .inr (.inr (.inr (.inr (.inl ⟨rfl, h, l, hl, rfl⟩))))⟩
  have hC : (FloatKind.f64.format.order n 0 == some .eq) = false ∨ ((FloatKind.f64.format.order n 0 == some .eq) = true ∧ sgB n = false) := by
    cases h1 : (FloatKind.f64.format.order n 0 == some .eq) with
    | false => exact .inl rfl
    | true =>
      refine .inr ⟨rfl, ?_⟩
      cases h2 : sgB n with
      | false => rfl
      | true => exact absurd ⟨h1, h2⟩ h
  clear h hf
  unfold ShowQ
  rcases hC with h1 | ⟨h1, h2⟩
  · go_enter Tryz.func6, Tryz.ntmps6
    go_wp2_with fail
    refine calls_gen (fun W => Far (Below w.heap.size w W)) ⟨by go_grown⟩ ?_
    rintro W hb
    with_reducible refine (hTx.out _ hb.out).mono ?_
    rintro e w1 ⟨l, hl, hll, rfl, hb1⟩
    have hb2 := Far.mk (hb.out.trans (hb1.mono hb.out.size))
    have hEl := Far.mk (hE.out l hl hll)
    have hRl := Far.mk (hR.out l hl)
    clear hb hb1 hl hll
    go_wp2_with fail
    with_reducible refine (hEl.out _).mono ?_
    rintro e w2 ⟨rfl, hb3⟩
    have hb4 := Far.mk (hb2.out.trans (hb3.mono hb2.out.size))
    clear hb2 hb3
    go_wp2_with fail
    go_ret
    exact ⟨_, rfl, hRl.out, hb4.out⟩
  · have hS := math_Signbit n
    rw [h2] at hS
    replace hS := Far.mk hS
    clear h2
    go_enter Tryz.func6, Tryz.ntmps6
    go_wp2_with (go_at_call 10; go_must (with_reducible refine (hS.out _).mono ?_); rintro e w1 ⟨rfl, hw⟩; replace hw := hw.symm; subst hw)
    refine calls_gen (fun W => Far (Below w.heap.size w W)) ⟨by go_grown⟩ ?_
    rintro W hb
    with_reducible refine (hTx.out _ hb.out).mono ?_
    rintro e w1 ⟨l, hl, hll, rfl, hb1⟩
    have hb2 := Far.mk (hb.out.trans (hb1.mono hb.out.size))
    have hEl := Far.mk (hE.out l hl hll)
    have hRl := Far.mk (hR.out l hl)
    clear hb hb1 hl hll
    go_wp2_with fail
    with_reducible refine (hEl.out _).mono ?_
    rintro e w2 ⟨rfl, hb3⟩
    have hb4 := Far.mk (hb2.out.trans (hb3.mono hb2.out.size))
    clear hb2 hb3
    go_wp2_with fail
    go_ret
    exact ⟨_, rfl, hRl.out, hb4.out⟩
theorem rf_k4 {b : Bool} {n m : Nat} {s : ByteArray} {o : Int} (w : World) (hs : s.size = 2 * m) (hn : m ≤ 600000) : Calls Tryz.prog 6 #[_root_.Go.Proofs.YtelgobelbeabaaaGreatDoor.val 4 b n s o] w (ShowQ 4 b n s w) := by
  have hQ := Far.mk (ref_Quote hs hn)
  have hE : Far (∀ w, Calls Tryz.prog 14 #[.string ⟨(wide (qt s m)).toArray⟩] w (EncQ (qt s m) w)) := ⟨ref_narrow (l := qt s m) (by have := qt_len s m; omega) (qt_ascii s m)⟩
  have hR : Far (ShowR 4 b n s (S (qt s m))) := ⟨.inr (.inr (.inr (.inr (.inr (.inl ⟨rfl, by rw [hs, Nat.mul_div_cancel_left _ (by decide)]⟩)))))⟩
  clear hs hn
  unfold ShowQ
  go_enter Tryz.func6, Tryz.ntmps6
  go_wp2_with fail
  refine calls_gen (fun W => Far (Below w.heap.size w W)) ⟨by go_grown⟩ ?_
  rintro W hb
  with_reducible refine (hQ.out _).mono ?_
  rintro e w1 ⟨rfl, hb1⟩
  have hb2 := Far.mk (hb.out.trans (hb1.mono hb.out.size))
  clear hb hb1
  go_wp2_with fail
  with_reducible refine (hE.out _).mono ?_
  rintro e w2 ⟨rfl, hb3⟩
  have hb4 := Far.mk (hb2.out.trans (hb3.mono hb2.out.size))
  clear hb2 hb3
  go_wp2_with fail
  go_ret
  exact ⟨_, rfl, hR.out, hb4.out⟩
end Us
end Go.Proofs.YtelgobelbeabaaaGreatDoor
