/-
  A contract of quillref03.Fixed. No condition but that the arguments are what they are. A contract of numtext.Fixed: a float's text with so many places. Conditions: the laid tables have their values. quilllaw03.NumtextFixed answers true. Conditions: the laid variables have their values.
-/
import Derived.Test.YtdpbpdhamekcdaaGreatDoorFiM22
import Derived.Test.YtdpbpdhamekcdaaGreatDoorFiM23
import Derived.Test.YtdpbpdhamekcdaaGreatDoorFiM13
namespace Go.Proofs.YtdpbpdhamekcdaaGreatDoor
open Go.RowKit
namespace Us
open Nv
attribute [local go_sem] S_append S_dot S_size S_e S_m
/-- How a float stands to 1e21. -/
theorem big_kind {f : Nat} (hn : nanB f = false) : ∃ o, FloatKind.f64.format.order (f % 9223372036854775808) 4921056587992461136 = some o ∧ bigB f = (o != .lt) ∧ (o = .lt → f % 9223372036854775808 < infR) := by
  have hm : f % 9223372036854775808 ≤ infR := by
    rcases Nat.lt_or_ge infR (f % 9223372036854775808) with g | g
    · rw [nan_big g] at hn
      cases hn
    · exact g
  rcases Nat.lt_or_ge (f % 9223372036854775808) infR with g | g
  · have e := order_rung g (show 4921056587992461136 < infR by decide)
    refine ⟨_, e, ?_, fun _ => g⟩
    unfold bigB
    rw [show FloatKind.f64.format.order (f % 9223372036854775808) 4921056587992461136 = _ from e]
    cases compare (f % 9223372036854775808) 4921056587992461136 <;> rfl
  · have e : f % 9223372036854775808 = infR := Nat.le_antisymm hm g
    have h := (show FloatKind.f64.format.order infR 4921056587992461136 = some .gt by decide +kernel)
    refine ⟨.gt, by rw [e]; exact h, ?_, fun h => by cases h⟩
    unfold bigB
    rw [e, h]
    rfl
def FixQ (f : Nat) (d : Int) (w : World) (x : Ending) (w' : World) : Prop := ∃ s e, x = .returned (.tuple #[.string (S s), .int .i64 e]) ∧ FixW f d s e ∧ Below w.heap.size w w'
theorem S_48 (a : List UInt8) : (⟨#[48]⟩ : ByteArray) ++ S a = S (48 :: a) := S_append [48] a
def padS (d : Nat) (s : List UInt8) : List UInt8 := List.replicate (d + 1 - s.length) 48 ++ s
theorem padS_len (d : Nat) (s : List UInt8) : d + 1 ≤ (padS d s).length ∧ (padS d s).length ≤ d + 1 + s.length := by
  unfold padS
  rw [List.length_append, List.length_replicate]
  omega
theorem fixS_zero (s : List UInt8) : fixS 0 s = padS 0 s := by
  unfold fixS padS
  rw [if_pos rfl]
theorem fixS_pos {d : Nat} (h : 0 < d) (s : List UInt8) : fixS d s = (padS d s).take ((padS d s).length - d) ++ [46] ++ (padS d s).drop ((padS d s).length - d) := by
  unfold fixS padS
  rw [if_neg (by omega)]
attribute [local go_sem] S_48
theorem rh_len {r P D : Nat} {p : Int} (h : FracT r P D p) (hp : -1000 ≤ p ∧ p ≤ 1000) : (Nv.words (rh P D)).length ≤ 202 := by
  have l := (h.lens hp).1
  have a := rh_le P D l
  refine Nat.le_trans (len_mono ?_) a
  unfold rh
  split <;> omega
theorem ref_Fixed_out {f : Nat} {d : Int} (h : d < 0 ∨ 20 < d) (w : World) : Calls Tryz.prog 38 #[.float .f64 f, .int .i64 d] w (FixQ f d w) := by
  have hT : FixW f d [] 1 := .inl ⟨h, rfl, rfl⟩
  replace hT := Far.mk hT
  go_enter Tryz.func38, Tryz.ntmps38
  by_cases g : d < 0
  · go_wp2_with fail
    go_ret2
    exact ⟨_, _, rfl, hT.out, Below.refl _ _⟩
  · have g2 : 20 < d := by omega
    go_wp2_with fail
    go_ret2
    exact ⟨_, _, rfl, hT.out, Below.refl _ _⟩
theorem ref_Fixed_text {f : Nat} (hf : f < 18446744073709551616) {d : Int} (h1 : 0 ≤ d) (h2 : d ≤ 20) (hk : nanB f = true ∨ bigB f = true) {w : World} : Calls Tryz.prog 38 #[.float .f64 f, .int .i64 d] w (FixQ f d w) := by
  have hT : ∀ t, TxtW f t → FixW f d (wide t) 0 := fun t h => .inr (.inl ⟨⟨h1, h2⟩, hk, ⟨t, h, rfl⟩, rfl⟩)
  have hR := Far.mk (ref_Text_float hf w)
  obtain ⟨b, hb⟩ : ∃ b, nanB f = b := ⟨_, rfl⟩
  have hA := Far.mk (fun W => math_Abs2 (w := W) hf)
  replace hT := Far.mk hT
  cases b with
  | true =>
    clear hk hf
    go_enter Tryz.func38, Tryz.ntmps38
    go_wp2_with (go_at_call 20; refine (math_IsNaN f _).mono ?_; rintro e w' ⟨rfl, hw⟩; subst hw; rw [hb])
    with_reducible refine hR.out.mono ?_
    rintro x w3 ⟨s, hs, hl, rfl, hb3⟩
    go_wp2_with fail
    go_ret2
    exact ⟨_, _, rfl, hT.out _ hs, hb3⟩
  | false =>
    obtain ⟨o, ho, hbo, -⟩ := big_kind hb
    have hoo : o = .gt ∨ o = .eq := by
      rcases hk with h | h
      · rw [hb] at h; cases h
      · rw [hbo] at h
        cases o
        · cases h
        · exact .inr rfl
        · exact .inl rfl
    clear hk hf hbo
    rcases hoo with rfl | rfl
    all_goals
      go_enter Tryz.func38, Tryz.ntmps38
      go_wp2_with (first
        | (go_at_call 61; go_must (with_reducible refine (hA.out _).mono ?_); rintro e w' ⟨rfl, hw⟩; replace hw := hw.symm; subst hw)
        | (go_at_call 20; refine (math_IsNaN f _).mono ?_; rintro e w' ⟨rfl, hw⟩; subst hw; rw [hb]))
      with_reducible refine hR.out.mono ?_
      rintro x w3 ⟨s, hs, hl, rfl, hb3⟩
      go_wp2_with fail
      go_ret2
      exact ⟨_, _, rfl, hT.out _ hs, hb3⟩
set_option maxRecDepth 100000 in
set_option maxHeartbeats 1600000 in
theorem ref_Fixed_num {f r d : Nat} (hf : f < 18446744073709551616) (h2 : d ≤ 20) (hn : nanB f = false) (hbg : bigB f = false) (hr : f % 9223372036854775808 = r)
    (hk : (∃ o, FloatKind.f64.format.order f 0 = some o ∧ (o = .eq ∨ o = .gt) ∧ sgnS f = [] ∧ Rung r f) ∨ (FloatKind.f64.format.order f 0 = some .lt ∧ sgnS f = [45] ∧ Rung r r ∧ ∀ W, (Op.unary .neg (.float .f64 f)).run Tryz.prog W = .ok (.float .f64 r) W)) {w : World} :
    Calls Tryz.prog 38 #[.float .f64 f, .int .i64 (d : Int)] w (FixQ f (d : Int) w) := by
  have hT : ∀ P D s, Frac r P D (-(d : Int)) → s = sgnS f ++ fixS d (digs 10 (rh P D)) → FixW f (d : Int) (wide s) 0 := fun P D s h e => .inr (.inr ⟨⟨by omega, by omega⟩, (show ¬ (nanB f = true ∨ bigB f = true) from fun h => by simp [hn, hbg] at h), ⟨P, D, by rw [hr]; exact h, by rw [e, Int.toNat_natCast]⟩, rfl⟩)
  obtain ⟨o, ho, hbo, -⟩ := big_kind hn
  obtain rfl : o = .lt := by
    rw [hbg] at hbo
    cases o
    · rfl
    · cases hbo
    · cases hbo
  have hA := Far.mk (fun W => math_Abs2 (w := W) hf)
  rw [hr] at hA ho
  have hS := Far.mk (fun (y : Nat) (h : Rung r y) => ref_rounded h (p := (d : Int)) (by omega) w)
  replace hT := Far.mk hT
  clear hf hr hbo hbg
  go_enter Tryz.func38, Tryz.ntmps38
  rcases hk with ⟨o, ho2, rfl | rfl, hsg, hrg⟩ | ⟨ho2, hsg, hrg, hneg⟩
  all_goals
    replace hS := Far.mk (hS.out _ hrg)
    rw [hsg] at hT
    clear hrg hsg
    go_wp2_with (first
      | (go_at_call 61; go_must (with_reducible refine (hA.out _).mono ?_); rintro e w' ⟨rfl, hw⟩; replace hw := hw.symm; subst hw)
      | (go_at_call 20; refine (math_IsNaN f _).mono ?_; rintro e w' ⟨rfl, hw⟩; subst hw; rw [hn]))
    with_reducible refine hS.out.mono ?_
    rintro x w4 ⟨P, D, rfl, hF, hb4⟩
    replace hT := Far.mk (hT.out P D · hF.frac)
    have hb := Far.mk hb4
    have hdl : (digs 10 (rh P D)).length ≤ 32 * 202 := digs_lenR (by decide) (rh_len hF (by omega)) (by decide)
    obtain ⟨s, hs⟩ : ∃ s, digs 10 (rh P D) = s := ⟨_, rfl⟩
    rw [hs] at hT hdl ⊢
    clear hF hb4 hs hS
    go_wp2_with fail
    go_loopw [7] (fun v wr => ∃ i, v = .string (S (List.replicate i 48 ++ s)) ∧ i ≤ d + 1 - s.length ∧ wr = w4) (fun v _ => d + 1 - lenOf v)
    case atStart => exact ⟨0, rfl, Nat.zero_le _, rfl⟩
    case round =>
      obtain ⟨i, rfl, hi, rfl⟩ := hrel
      have hsi : (S (List.replicate i 48 ++ s)).size = i + s.length := by rw [S_size]; simp
      by_cases hlt : i + s.length < d + 1
      · have hcat : (⟨#[48]⟩ : ByteArray) ++ S (List.replicate i 48 ++ s) = S (List.replicate (i + 1) 48 ++ s) := by rw [S_48, List.replicate_succ]; rfl
        have hsi2 : (S (List.replicate (i + 1) 48 ++ s)).size = i + 1 + s.length := by rw [S_size]; simp
        go_wp2_with fail
        go_roundw
        case rel => exact ⟨i + 1, by first | rfl | rw [hcat], by omega, by first | rfl | trivial⟩
        case measure => show d + 1 - (S (List.replicate (i + 1) 48 ++ s)).size < d + 1 - (S (List.replicate i 48 ++ s)).size; rw [hsi, hsi2]; omega
      · have htp : padS d s = List.replicate i 48 ++ s := by unfold padS; rw [show d + 1 - s.length = i by omega]
        have hpl := padS_len d s
        rw [htp] at hpl
        obtain ⟨t, ht⟩ : ∃ t, List.replicate i 48 ++ s = t := ⟨_, rfl⟩
        rw [ht] at htp hpl hsi ⊢
        have hsi3 : (S t).size = t.length := S_size t
        clear ht hsi hi hlt
        rcases Nat.eq_zero_or_pos d with rfl | hd
        · rw [fixS_zero, htp] at hT
          go_wp2_with fail
          with_reducible refine (ref01_Wide _ _ (by first | omega | (simp only [S_size, List.length_cons]; omega))).mono ?_
          rintro x w9 ⟨rfl, hb9⟩
          go_wp2_with fail
          go_ret2
          first
            | exact ⟨wide t, _, rfl, hT.out _ rfl, hb.out.trans (hb9.mono hb.out.size)⟩
            | exact ⟨wide (45 :: t), _, rfl, hT.out _ rfl, hb.out.trans (hb9.mono hb.out.size)⟩
        · rw [fixS_pos hd, htp] at hT
          obtain ⟨k, hk⟩ : ∃ k, t.length - d = k := ⟨_, rfl⟩
          rw [hk] at hT
          have hki : (t.length : Int) - (d : Int) = (k : Int) := by omega
          have hkl : k ≤ t.length := by omega
          have hsz := S_size t
          have x1 : (S t).extract 0 k = S (t.take k) := by rw [S_extract, List.drop_zero]
          have x2 : (S t).extract k t.length = S (t.drop k) := by rw [S_extract, List.take_of_length_le (Nat.le_refl _)]
          have n1 : (t.take k).length = k := by rw [List.length_take]; omega
          have n2 : (t.drop k).length = t.length - k := List.length_drop
          obtain ⟨a, ha⟩ : ∃ a, t.take k = a := ⟨_, rfl⟩
          obtain ⟨b, hb2⟩ : ∃ a, t.drop k = a := ⟨_, rfl⟩
          rw [ha] at x1 n1 hT
          rw [hb2] at x2 n2 hT
          clear ha hb2 hk
          go_wp2_with fail
          go_quiet (fail)
          go_wp2_with fail
          with_reducible refine (ref01_Wide _ _ (by simp only [S_size, List.length_cons, List.length_append]; omega)).mono ?_
          rintro x w9 ⟨rfl, hb9⟩
          go_wp2_with fail
          go_ret2
          first
            | exact ⟨wide (a ++ [46] ++ b), _, by simp [S], hT.out _ rfl, (below_drawn hb.out).trans (hb9.mono (below_drawn hb.out).size)⟩
            | exact ⟨wide (45 :: (a ++ [46] ++ b)), _, by simp [S], hT.out _ rfl, (below_drawn hb.out).trans (hb9.mono (below_drawn hb.out).size)⟩
end Us
end Go.Proofs.YtdpbpdhamekcdaaGreatDoor
namespace Go.Proofs.YtdpbpdhamekcdaaGreatDoor
open Go.RowKit
namespace Us
open Nv
attribute [local go_sem] S_append S_dot S_size S_e S_m S_dot2
theorem nt_Fixed_out {f : Nat} {d : Int} (h : d < 0 ∨ 20 < d) (w : World) : Calls Tryz.prog 37 #[.float .f64 f, .int .i64 d] w (FixQ f d w) := by
  have hT : FixW f d [] 1 := .inl ⟨h, rfl, rfl⟩
  replace hT := Far.mk hT
  go_enter Tryz.func37, Tryz.ntmps37
  by_cases g : d < 0
  · go_wp2_with fail
    go_ret2
    exact ⟨_, _, rfl, hT.out, Below.refl _ _⟩
  · have g2 : 20 < d := by omega
    go_wp2_with fail
    go_ret2
    exact ⟨_, _, rfl, hT.out, Below.refl _ _⟩
theorem nt_Fixed_text {f : Nat} (hf : f < 18446744073709551616) {d : Int} (h1 : 0 ≤ d) (h2 : d ≤ 20) (hk : nanB f = true ∨ bigB f = true) {w : World} (hTb : Tabs w) : Calls Tryz.prog 37 #[.float .f64 f, .int .i64 d] w (FixQ f d w) := by
  have hT : ∀ t, TxtW f t → FixW f d (wide t) 0 := fun t h => .inr (.inl ⟨⟨h1, h2⟩, hk, ⟨t, h, rfl⟩, rfl⟩)
  have hR := Far.mk (nt_Text_float hf hTb)
  obtain ⟨b, hb⟩ : ∃ b, nanB f = b := ⟨_, rfl⟩
  have hA := Far.mk (fun W => math_Abs2 (w := W) hf)
  replace hT := Far.mk hT
  cases b with
  | true =>
    clear hk hf
    go_enter Tryz.func37, Tryz.ntmps37
    go_wp2_with (go_at_call 20; refine (math_IsNaN f _).mono ?_; rintro e w' ⟨rfl, hw⟩; subst hw; rw [hb])
    with_reducible refine hR.out.mono ?_
    rintro x w3 ⟨s, hs, hl, rfl, hb3⟩
    go_wp2_with fail
    go_ret2
    exact ⟨_, _, rfl, hT.out _ hs, hb3⟩
  | false =>
    obtain ⟨o, ho, hbo, -⟩ := big_kind hb
    have hoo : o = .gt ∨ o = .eq := by
      rcases hk with h | h
      · rw [hb] at h; cases h
      · rw [hbo] at h
        cases o
        · cases h
        · exact .inr rfl
        · exact .inl rfl
    clear hk hf hbo
    rcases hoo with rfl | rfl
    all_goals
      go_enter Tryz.func37, Tryz.ntmps37
      go_wp2_with (first
        | (go_at_call 61; go_must (with_reducible refine (hA.out _).mono ?_); rintro e w' ⟨rfl, hw⟩; replace hw := hw.symm; subst hw)
        | (go_at_call 20; refine (math_IsNaN f _).mono ?_; rintro e w' ⟨rfl, hw⟩; subst hw; rw [hb]))
      with_reducible refine hR.out.mono ?_
      rintro x w3 ⟨s, hs, hl, rfl, hb3⟩
      go_wp2_with fail
      go_ret2
      exact ⟨_, _, rfl, hT.out _ hs, hb3⟩
set_option maxRecDepth 100000 in
set_option maxHeartbeats 1600000 in
theorem nt_Fixed_num {f r d : Nat} (hf : f < 18446744073709551616) (h2 : d ≤ 20) (hn : nanB f = false) (hbg : bigB f = false) (hr : f % 9223372036854775808 = r)
    (hk : (∃ o, FloatKind.f64.format.order f 0 = some o ∧ (o = .eq ∨ o = .gt) ∧ sgnS f = [] ∧ Rung r f) ∨ (FloatKind.f64.format.order f 0 = some .lt ∧ sgnS f = [45] ∧ Rung r r ∧ ∀ W, (Op.unary .neg (.float .f64 f)).run Tryz.prog W = .ok (.float .f64 r) W)) {w : World} (hTz : Tz w) :
    Calls Tryz.prog 37 #[.float .f64 f, .int .i64 (d : Int)] w (FixQ f (d : Int) w) := by
  have hT : ∀ P D s, Frac r P D (-(d : Int)) → s = sgnS f ++ fixS d (digs 10 (rh P D)) → FixW f (d : Int) (wide s) 0 := fun P D s h e => .inr (.inr ⟨⟨by omega, by omega⟩, (show ¬ (nanB f = true ∨ bigB f = true) from fun h => by simp [hn, hbg] at h), ⟨P, D, by rw [hr]; exact h, by rw [e, Int.toNat_natCast]⟩, rfl⟩)
  obtain ⟨o, ho, hbo, -⟩ := big_kind hn
  obtain rfl : o = .lt := by
    rw [hbg] at hbo
    cases o
    · rfl
    · cases hbo
    · cases hbo
  have hA := Far.mk (fun W => math_Abs2 (w := W) hf)
  rw [hr] at hA ho
  have hS := Far.mk (fun (y : Nat) (h : Rung r y) => nt_scaled h (p := (d : Int)) (by omega) hTz)
  replace hT := Far.mk hT
  clear hf hr hbo hbg
  go_enter Tryz.func37, Tryz.ntmps37
  rcases hk with ⟨o, ho2, rfl | rfl, hsg, hrg⟩ | ⟨ho2, hsg, hrg, hneg⟩
  all_goals
    replace hS := Far.mk (hS.out _ hrg)
    rw [hsg] at hT
    clear hrg hsg
    go_wp2_with (first
      | (go_at_call 61; go_must (with_reducible refine (hA.out _).mono ?_); rintro e w' ⟨rfl, hw⟩; replace hw := hw.symm; subst hw)
      | (go_at_call 20; refine (math_IsNaN f _).mono ?_; rintro e w' ⟨rfl, hw⟩; subst hw; rw [hn]))
    with_reducible refine hS.out.mono ?_
    rintro x w4 ⟨P, D, A, c, rfl, hF, hl, hR, hb4⟩
    replace hT := Far.mk (hT.out P D · hF)
    have hdl := digs_lenR (r := 10) (by decide) hl (by decide)
    replace hb4 := Far.mk hb4
    replace hR := Far.mk hR
    clear hF hS
    go_wp2_with fail
    with_reducible refine (bText (r := 10) (R := 10) hR.out (by omega) rfl (by decide) (by decide)).mono ?_
    rintro x w5 ⟨rfl, hb5⟩
    have hb := Far.mk (hb4.out.trans (hb5.mono hb4.out.size))
    clear hR hb5 hb4 hl
    obtain ⟨s, hs⟩ : ∃ s, digs 10 (rh P D) = s := ⟨_, rfl⟩
    rw [hs] at hT hdl ⊢
    clear hs
    have hss : (S s).size = s.length := S_size s
    go_wp2_with fail
    with_reducible refine (nt_noughts (by omega) _).mono ?_
    rintro x w6 ⟨rfl, hb6⟩
    replace hb := Far.mk (hb.out.trans (hb6.mono hb.out.size))
    clear hb6
    rw [show ((d : Int) + 1 - (s.length : Int)).toNat = d + 1 - s.length by omega]
    have hcat := S_append (List.replicate (d + 1 - s.length) 48) s
    have hzs : (S (List.replicate (d + 1 - s.length) 48)).size = d + 1 - s.length := by rw [S_size, List.length_replicate]
    have htp : padS d s = List.replicate (d + 1 - s.length) 48 ++ s := rfl
    have hpl := padS_len d s
    rw [htp] at hpl
    obtain ⟨t, ht⟩ : ∃ t, List.replicate (d + 1 - s.length) 48 ++ s = t := ⟨_, rfl⟩
    rw [ht] at htp hpl hcat
    have hsi3 : (S t).size = t.length := S_size t
    obtain ⟨z, hz⟩ : ∃ z, S (List.replicate (d + 1 - s.length) 48) = z := ⟨_, rfl⟩
    obtain ⟨k0, hk0⟩ : ∃ k, d + 1 - s.length = k := ⟨_, rfl⟩
    rw [hz, hk0] at hzs
    rw [hz] at hcat ⊢
    have hk0l : k0 ≤ d + 1 := by omega
    clear ht hz hk0
    rcases Nat.eq_zero_or_pos d with rfl | hd
    · rw [fixS_zero, htp] at hT
      go_wp2_with fail
      with_reducible refine (ustr_Wide _ _ (by first | omega | (simp only [S_size, List.length_cons]; omega))).mono ?_
      rintro x w9 ⟨rfl, hb9⟩
      go_wp2_with fail
      go_ret2
      first
        | exact ⟨wide t, _, rfl, hT.out _ rfl, hb.out.trans (hb9.mono hb.out.size)⟩
        | exact ⟨wide (45 :: t), _, rfl, hT.out _ rfl, hb.out.trans (hb9.mono hb.out.size)⟩
    · rw [fixS_pos hd, htp] at hT
      obtain ⟨k, hk⟩ : ∃ k, t.length - d = k := ⟨_, rfl⟩
      rw [hk] at hT
      have hki : (t.length : Int) - (d : Int) = (k : Int) := by omega
      have hkl : k ≤ t.length := by omega
      have hsz := S_size t
      have x1 : (S t).extract 0 k = S (t.take k) := by rw [S_extract, List.drop_zero]
      have x2 : (S t).extract k t.length = S (t.drop k) := by rw [S_extract, List.take_of_length_le (Nat.le_refl _)]
      have n1 : (t.take k).length = k := by rw [List.length_take]; omega
      have n2 : (t.drop k).length = t.length - k := List.length_drop
      obtain ⟨a, ha⟩ : ∃ a, t.take k = a := ⟨_, rfl⟩
      obtain ⟨b, hb2⟩ : ∃ a, t.drop k = a := ⟨_, rfl⟩
      rw [ha] at x1 n1 hT
      rw [hb2] at x2 n2 hT
      clear ha hb2 hk
      go_wp2_with fail
      go_quiet (fail)
      go_wp2_with fail
      with_reducible refine (ustr_Wide _ _ (by simp only [S_size, List.length_cons, List.length_append]; omega)).mono ?_
      rintro x w9 ⟨rfl, hb9⟩
      go_wp2_with fail
      go_ret2
      first
        | exact ⟨wide (a ++ [46] ++ b), _, by simp [S], hT.out _ rfl, (below_drawn hb.out).trans (hb9.mono (below_drawn hb.out).size)⟩
        | exact ⟨wide (45 :: (a ++ [46] ++ b)), _, by simp [S], hT.out _ rfl, (below_drawn hb.out).trans (hb9.mono (below_drawn hb.out).size)⟩
theorem nt_Fixed {f : Nat} {d : Int} (hf : f < 18446744073709551616) {w : World} (hTb : Tabs w) (hTz : Tz w) : Calls Tryz.prog 37 #[.float .f64 f, .int .i64 d] w (FixQ f d w) := by
  by_cases g : d < 0 ∨ 20 < d
  · exact nt_Fixed_out g w
  · by_cases g2 : nanB f = true ∨ bigB f = true
    · exact nt_Fixed_text hf (by omega) (by omega) g2 hTb
    · obtain ⟨k, rfl⟩ : ∃ k : Nat, d = k := ⟨d.toNat, by omega⟩
      have g3 : nanB f = false := by cases h : nanB f with | true => exact (g2 (.inl h)).elim | false => rfl
      have g4 : bigB f = false := by cases h : bigB f with | true => exact (g2 (.inr h)).elim | false => rfl
      obtain ⟨o, -, ho, hi⟩ := big_kind g3
      have hlt := hi (by rw [g4] at ho; cases o <;> first | rfl | cases ho)
      rcases kinds hf with h | ⟨h, h'⟩ | ⟨h, h', hk⟩
      · rw [h] at g3; cases g3
      · omega
      · exact nt_Fixed_num hf (by omega) g3 g4 rfl hk hTz
theorem ref_Fixed {f : Nat} {d : Int} (hf : f < 18446744073709551616) {w : World} : Calls Tryz.prog 38 #[.float .f64 f, .int .i64 d] w (FixQ f d w) := by
  by_cases g : d < 0 ∨ 20 < d
  · exact ref_Fixed_out g w
  · by_cases g2 : nanB f = true ∨ bigB f = true
    · exact ref_Fixed_text hf (by omega) (by omega) g2
    · obtain ⟨k, rfl⟩ : ∃ k : Nat, d = k := ⟨d.toNat, by omega⟩
      have g3 : nanB f = false := by cases h : nanB f with | true => exact (g2 (.inl h)).elim | false => rfl
      have g4 : bigB f = false := by cases h : bigB f with | true => exact (g2 (.inr h)).elim | false => rfl
      obtain ⟨o, -, ho, hi⟩ := big_kind g3
      have hlt := hi (by rw [g4] at ho; cases o <;> first | rfl | cases ho)
      rcases kinds hf with h | ⟨h, h'⟩ | ⟨h, h', hk⟩
      · rw [h] at g3; cases g3
      · omega
      · exact ref_Fixed_num hf (by omega) g3 g4 rfl hk
end Us
end Go.Proofs.YtdpbpdhamekcdaaGreatDoor
namespace Go.Proofs.YtdpbpdhamekcdaaGreatDoor
open Go.RowKit
namespace Us
open Nv
set_option maxRecDepth 100000 in
theorem law_Fixed {f : Nat} {radix : Int} (hf : f < 18446744073709551616) {w : World} (hR : Rds w) (hT : Tabs w) (hZ : Tz w) : Calls Tryz.prog 9 #[.float .f64 f, .int .i64 radix] w fun e w' => e = .returned (.bool true) ∧ Below w.heap.size w w' := by
  have h1 := Far.mk (nt_Fixed (d := radix) hf hT hZ)
  have h2 := Far.mk (fun W => ref_Fixed (d := radix) hf (w := W))
  have h5 := fun W (hb : Below w.heap.size w W) => Far.mk (nt_awake (hR.keep hb) (hT.keep hb))
  clear hR hT hZ hf
  go_enter Tryz.func9, Tryz.ntmps9
  go_wp2_with fail
  with_reducible refine h1.out.mono ?_
  rintro e w1 ⟨s, c, rfl, hs, hb1⟩
  replace hs := Far.mk hs
  go_wp2_with fail
  with_reducible refine (h2.out _).mono ?_
  rintro e w2 ⟨s', c', rfl, hs', hb2⟩
  obtain ⟨rfl, rfl⟩ := hs.out.one hs'
  replace hb2 := hb1.trans (hb2.mono hb1.size)
  clear hb1 hs hs'
  go_wp2_with fail
  with_reducible refine (h5 _ hb2).out.mono ?_
  rintro e w5 ⟨rfl, hb5⟩
  replace hb5 := hb2.trans (hb5.mono hb2.size)
  clear hb2
  go_wp2_with fail
  go_ret
  exact ⟨rfl, hb5⟩
end Us
end Go.Proofs.YtdpbpdhamekcdaaGreatDoor
