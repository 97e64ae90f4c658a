/-
  A contract of quillref03.Radix: a float's text in a radix. No condition but that the arguments are what they are. Contracts of numtext.fraction and Radix: a float's text in a radix. Conditions: the laid tables have their values.
-/
import Derived.Test.YtdpbpdhamekcdaaGreatDoorFxM31
import Derived.Test.YtdpbpdhamekcdaaGreatDoorBaM14
import Derived.Test.YtdpbpdhamekcdaaGreatDoorFxM26
namespace Go.Proofs.YtdpbpdhamekcdaaGreatDoor
open Go.RowKit
namespace Us
open Nv
attribute [local go_sem] S_append S_dot S_size

/-- The kinds of floats, as the functions of numtext tell them apart. -/
theorem kinds {f : Nat} (hf : f < 18446744073709551616) : nanB f = true ∨ (nanB f = false ∧ f % 9223372036854775808 = infR) ∨ (nanB f = false ∧ f % 9223372036854775808 < infR ∧
    ((∃ o, FloatKind.f64.format.order f 0 = some o ∧ (o = .eq ∨ o = .gt) ∧ sgnS f = [] ∧ Rung (f % 9223372036854775808) f) ∨
     (FloatKind.f64.format.order f 0 = some .lt ∧ sgnS f = [45] ∧ Rung (f % 9223372036854775808) (f % 9223372036854775808) ∧ ∀ W, (Op.unary .neg (.float .f64 f)).run Tryz.prog W = .ok (.float .f64 (f % 9223372036854775808)) W))) := by
  rcases order_all hf with h | ⟨h, h1, h2, h3⟩ | ⟨h, r, rfl, h2, h3⟩
  · exact .inl h
  · right
    rw [Nat.mod_eq_of_lt h1]
    rcases Nat.lt_or_ge f infR with g | g
    · refine .inr ⟨h, g, .inl ⟨_, h3, ?_, ?_, ?_⟩⟩
      · by_cases g0 : f = 0
        · rw [if_pos g0]; exact .inl rfl
        · rw [if_neg g0]; exact .inr rfl
      · unfold sgnS
        rw [if_neg (by omega)]
      · rcases Nat.eq_zero_or_pos f with g0 | g0
        · exact .inr ⟨g0, .inl g0⟩
        · exact .inl ⟨g0, g, rfl⟩
    · exact .inl ⟨h, Nat.le_antisymm h2 g⟩
  · right
    have hr63 : r < 9223372036854775808 := by unfold infR at h2; omega
    rw [show (9223372036854775808 + r) % 9223372036854775808 = r by omega]
    rcases Nat.lt_or_ge r infR with g | g
    · refine .inr ⟨h, g, ?_⟩
      rcases Nat.eq_zero_or_pos r with rfl | g0
      · rw [if_pos rfl] at h3
        exact .inl ⟨_, h3, .inl rfl, by unfold sgnS; rw [if_neg (by omega)], .inr ⟨rfl, .inr rfl⟩⟩
      · rw [if_neg (by omega)] at h3
        refine .inr ⟨h3, by unfold sgnS; rw [if_pos (by omega)], .inl ⟨g0, g, rfl⟩, fun W => ?_⟩
        show Result.ok (Value.float .f64 ((9223372036854775808 + r) ^^^ 9223372036854775808)) W = _
        rw [neg_bits hr63]
    · exact .inl ⟨h, Nat.le_antisymm h2 g⟩
theorem isinf_kind {f : Nat} (hn : nanB f = false) : (FloatKind.f64.format.order (f % 9223372036854775808) 9218868437227405311 == some .gt) = decide (f % 9223372036854775808 = infR) := by
  apply max_order
  rcases Nat.lt_or_ge infR (f % 9223372036854775808) with g | g
  · rw [nan_big g] at hn
    cases hn
  · exact g
theorem digs_small {r d : Nat} (hr : 2 ≤ r) (h : d < r) : digs r d = [dg d] := by
  unfold digs
  split
  · rename_i h0
    subst h0
    rfl
  · rw [rdigs_pos hr (by omega), Nat.mod_eq_of_lt h, Nat.div_eq_of_lt h, rdigs_zero]
    rfl
theorem digs_lenR {r n L : Nat} (hr : 2 ≤ r) (h : (Nv.words n).length ≤ L) (hL : 1 ≤ L) : (digs r n).length ≤ 32 * L := by
  unfold digs
  split
  · simp; omega
  · rw [List.length_reverse]
    exact rdigs_len2 hr (Nat.lt_of_lt_of_le (lt_len n) (Nat.pow_le_pow_right (by decide) h))
def RadQ (f : Nat) (radix : Int) (w : World) (x : Ending) (w' : World) : Prop := ∃ s e, x = .returned (.tuple #[.string (S s), .int .i64 e]) ∧ RadW f radix s e ∧ Below w.heap.size w w'
theorem ref_Radix_out {f : Nat} {radix : Int} (h : radix < 2 ∨ 36 < radix) (w : World) : Calls Tryz.prog 36 #[.float .f64 f, .int .i64 radix] w (RadQ f radix w) := by
  have hT : RadW f radix [] 1 := .inl ⟨h, rfl, rfl⟩
  replace hT := Far.mk hT
  go_enter Tryz.func36, Tryz.ntmps36
  by_cases g : radix < 2
  · go_wp2_with fail
    go_ret2
    exact ⟨_, _, rfl, hT.out, Below.refl _ _⟩
  · have g2 : 36 < radix := by omega
    go_wp2_with fail
    go_ret2
    exact ⟨_, _, rfl, hT.out, Below.refl _ _⟩
theorem ref_Radix_text {f : Nat} (hf : f < 18446744073709551616) {radix : Int} (h1 : 2 ≤ radix) (h2 : radix ≤ 36) (hk : radix = 10 ∨ nanB f = true ∨ f % 9223372036854775808 = infR) (w : World) : Calls Tryz.prog 36 #[.float .f64 f, .int .i64 radix] w (RadQ f radix w) := by
  have hT : ∀ t, TxtW f t → RadW f radix (wide t) 0 := fun t h => .inr (.inl ⟨⟨h1, h2⟩, hk, ⟨t, h, rfl⟩, rfl⟩)
  have hR := Far.mk (fun W => ref_Text_float hf W)
  obtain ⟨b, hb⟩ : ∃ b, nanB f = b := ⟨_, rfl⟩
  have hI := Far.mk (fun (hn : nanB f = false) W => math_IsInf0 hf (isinf_kind hn) W)
  replace hT := Far.mk hT
  go_enter Tryz.func36, Tryz.ntmps36
  by_cases g : radix = 10
  · subst g
    clear hk h1 h2 hf
    go_wp2_with fail
    with_reducible refine (hR.out _).mono ?_
    rintro x w3 ⟨s, hs, hl, rfl, hb3⟩
    go_wp2_with fail
    go_ret2
    exact ⟨_, _, rfl, hT.out _ hs, hb3⟩
  · cases b with
    | true =>
      clear hk hf
      go_wp2_with (go_at_call 20; refine (math_IsNaN f _).mono ?_; rintro e w' ⟨rfl, hw⟩; subst hw; rw [hb])
      with_reducible refine (hR.out _).mono ?_
      rintro x w3 ⟨s, hs, hl, rfl, hb3⟩
      go_wp2_with fail
      go_ret2
      exact ⟨_, _, rfl, hT.out _ hs, hb3⟩
    | false =>
      have hi : f % 9223372036854775808 = infR := by
        rcases hk with h | h | h
        · exact (g h).elim
        · rw [hb] at h; cases h
        · exact h
      replace hI := Far.mk (hI.out hb)
      rw [decide_eq_true hi] at hI
      clear hk hf hi
      go_wp2_with (first
        | (go_at_call 23; go_must (with_reducible refine (hI.out _).mono ?_); rintro e w' ⟨rfl, hw⟩; replace hw := hw.symm; subst hw)
        | (go_at_call 20; refine (math_IsNaN f _).mono ?_; rintro e w' ⟨rfl, hw⟩; subst hw; rw [hb]))
      with_reducible refine (hR.out _).mono ?_
      rintro x w3 ⟨s, hs, hl, rfl, hb3⟩
      go_wp2_with fail
      go_ret2
      exact ⟨_, _, rfl, hT.out _ hs, hb3⟩
theorem cTextR {W : World} {N r : Nat} {R : Int} {A : Option Addr} {c : Nat} (hR : Rd W A c (Nv.words N)) (hs : (Nv.words N).length ≤ 1024) (hRr : R = (r : Int)) (h2 : 2 ≤ r) (h36 : r ≤ 36) :
    Calls Tryz.prog 86 #[.slice A (Nv.words N).length c, .int .i64 R] W fun e w' => e = .returned (.tuple #[.string (S (digs r N)), .int .i64 0]) ∧ Below W.heap.size W w' := by
  have h := ref_Text (R := R) rfl hR (isW_words N) (by omega) hRr h2 h36 (by rw [nv_words]; exact hs)
  rw [nv_words] at h
  exact h
def lenOf : Value → Nat
  | .string s => s.size
  | _ => 0
theorem S_e (a : List UInt8) : (⟨#[]⟩ : ByteArray) ++ S a = S a := S_append [] a
theorem S_m (a : List UInt8) : (⟨#[45]⟩ : ByteArray) ++ S a = S (45 :: a) := S_append [45] a
attribute [local go_sem] S_e S_m
set_option maxRecDepth 100000 in
set_option maxHeartbeats 1600000 in
theorem ref_Radix_num {f : Nat} {r R : Nat} (hf : f < 18446744073709551616) (h1 : 2 ≤ R) (h2 : R ≤ 36) (h10 : R ≠ 10) (hn : nanB f = false) (hi : f % 9223372036854775808 < infR) (hr : f % 9223372036854775808 = r)
    (hk : (∃ o, FloatKind.f64.format.order f 0 = some o ∧ (o = .eq ∨ o = .gt) ∧ sgnS f = [] ∧ Rung r f) ∨ (FloatKind.f64.format.order f 0 = some .lt ∧ sgnS f = [45] ∧ Rung r r ∧ ∀ W, (Op.unary .neg (.float .f64 f)).run Tryz.prog W = .ok (.float .f64 r) W)) (w : World) :
    Calls Tryz.prog 36 #[.float .f64 f, .int .i64 (R : Int)] w (RadQ f (R : Int) w) := by
  have hT : ∀ P D s, Frac r P D 0 → s = sgnS f ++ radS R P D → RadW f (R : Int) (wide s) 0 := fun P D s h e => .inr (.inr ⟨⟨by omega, by omega⟩, fun h => by
    rcases h with h | h | h
    · omega
    · rw [hn] at h; cases h
    · omega, ⟨P, D, by rw [hr]; exact h, by rw [e, Int.toNat_natCast]⟩, rfl⟩)
  have hI := Far.mk (fun W => math_IsInf0 hf (isinf_kind hn) W)
  rw [decide_eq_false (by omega)] at hI
  have hS := Far.mk (fun (y : Nat) (h : Rung r y) W => ref_scaledT h (p := 0) (by omega) W)
  replace hT := Far.mk hT
  clear hf hi hr
  go_enter Tryz.func36, Tryz.ntmps36
  rcases hk with ⟨o, ho, rfl | rfl, hsg, hrg⟩ | ⟨ho, hsg, hrg, hneg⟩
  all_goals
    replace hS := Far.mk (hS.out _ hrg)
    rw [hsg] at hT
    clear hrg hsg
    go_wp2_with (first
      | (go_at_call 23; go_must (with_reducible refine (hI.out _).mono ?_); rintro e w' ⟨rfl, hw⟩; replace hw := hw.symm; subst hw)
      | (go_at_call 20; refine (math_IsNaN f _).mono ?_; rintro e w' ⟨rfl, hw⟩; subst hw; rw [hn]))
    with_reducible refine (hS.out _).mono ?_
    rintro x w4 ⟨P, D, v1, v2, rfl, hF, hu1, hu2, hb4⟩
    obtain ⟨A1, c1, rfl, hR1⟩ := hu1.rd
    obtain ⟨A2, c2, rfl, hR2⟩ := hu2.rd
    obtain ⟨l1, l2⟩ := hF.lens (by omega)
    have hD := hF.frac.pos
    have hs4 := hb4.size
    have hFr : Far (Frac r P D 0) := ⟨hF.frac⟩
    clear hu1 hu2 hS hF
    obtain ⟨q, hq⟩ : ∃ q, P / D = q := ⟨_, rfl⟩
    obtain ⟨r0, hr0⟩ : ∃ R, P % D = R := ⟨_, rfl⟩
    have hlq : (Nv.words q).length ≤ 200 := by rw [← hq]; exact Nat.le_trans (len_mono (Nat.div_le_self _ _)) l1
    have hrD : r0 < D := by rw [← hr0]; exact Nat.mod_lt _ hD
    have hrad : radS R P D = pointS (digs R q) (trimZ ((frd R D 60 r0).map dg)) := by unfold radS fracS; rw [hq, hr0]
    go_wp2_with fail
    with_reducible refine (cHalved hR1 (by omega) hR2 (by omega) hD).mono ?_
    rintro x w5 ⟨v5, v6, rfl, hu5, hu6, hb5⟩
    rw [hq] at hu5
    rw [hr0] at hu6
    obtain ⟨A5, c5, rfl, hR5⟩ := hu5.rd
    obtain ⟨A6, c6, rfl, hR6⟩ := hu6.rd
    replace hR2 := hR2.below hb5
    have hs5 := hb5.size
    have hbw5 := hb4.trans (hb5.mono (by omega))
    clear hb4 hb5 hu5 hu6 hR1 hq hr0
    go_wp2_with fail
    with_reducible refine (cTextR (R := (R : Int)) hR5 (by omega) rfl h1 h2).mono ?_
    rintro x w6 ⟨rfl, hb6⟩
    have hs6 := hb6.size
    have hdl := digs_lenR (r := R) h1 hlq (by omega)
    replace hR2 := Far.mk (hR2.below hb6)
    replace hR6 := Far.mk (hR6.below hb6)
    replace hrad := Far.mk hrad
    have hbw6 := Far.mk (hbw5.trans (hb6.mono (by omega)))
    clear hbw5 hb6 hR5 hs4 hs5
    obtain ⟨dq, hdq⟩ : ∃ l, digs R q = l := ⟨_, rfl⟩
    rw [hdq] at hrad hdl ⊢
    clear hdq hlq
    have hsw := hbw6.out.size
    go_wp2_with fail
    go_loopw [10, 13, 14] (fun a v i wr => ∃ (k ρ : Nat) (pre : List Nat) (A : Option Addr) (c : Nat), k ≤ 60 ∧ i = .int .i64 k ∧ v = .string (S (pre.map dg)) ∧ pre.length = k ∧ ρ < D ∧ a = .slice A (Nv.words ρ).length c ∧ Far (Rd wr A c (Nv.words ρ)) ∧ Far (frd R D 60 r0 = pre ++ frd R D (60 - k) ρ) ∧ Far (Below w6.heap.size w6 wr))
      (fun _ _ i _ => 60 - (intOf i).toNat)
    case atStart => exact ⟨0, r0, [], A6, c6, Nat.zero_le _, rfl, rfl, rfl, hrD, rfl, hR6, ⟨rfl⟩, ⟨Below.refl _ _⟩⟩
    case round =>
      clear hR6 hrD
      obtain ⟨k, ρ, pre, A, c, hk, rfl, rfl, hpl, hρ, rfl, hR, hp, hb⟩ := hrel
      have hsz := hb.out.size
      by_cases hgo : k < 60 ∧ ρ ≠ 0
      · obtain ⟨hk60, hρ0⟩ := hgo
        have hne : (Nv.words ρ).length ≠ 0 := fun e => hρ0 (words_len_zero.1 e)
        have hl : (Nv.words ρ).length ≤ 200 := Nat.le_trans (len_mono (Nat.le_of_lt hρ)) l2
        have hR1' : (Nv.words R).length ≤ 1 := words_len (by omega)
        have hlm : (Nv.words (ρ * R)).length ≤ 201 := Nat.le_trans (len_mul _ _) (by omega)
        obtain ⟨d, hd⟩ : ∃ d, ρ * R / D = d := ⟨_, rfl⟩
        obtain ⟨ρ2, hρ2⟩ : ∃ d, ρ * R % D = d := ⟨_, rfl⟩
        have hdR : d < R := by rw [← hd]; exact Nat.div_lt_of_lt_mul (Nat.mul_lt_mul_of_pos_right hρ (by omega))
        have hρD : ρ2 < D := by rw [← hρ2]; exact Nat.mod_lt _ hD
        have hds := digs_small (r := R) h1 hdR
        have hp2 : Far (frd R D 60 r0 = (pre ++ [d]) ++ frd R D (60 - (k + 1)) ρ2) := ⟨by
          rw [← hd, ← hρ2]
          refine frd_snoc ?_ hρ0
          rw [show 60 - (k + 1) + 1 = 60 - k by omega]
          exact hp.out⟩
        have hld : (Nv.words d).length ≤ 1 := words_len (by omega)
        have hmap : (pre ++ [d]).map dg = pre.map dg ++ [dg d] := by simp
        obtain ⟨t, ht⟩ : ∃ t, pre.map dg = t := ⟨_, rfl⟩
        have htl : t.length = k := by rw [← ht, List.length_map, hpl]
        rw [ht] at hmap ⊢
        replace hmap := Far.mk hmap
        clear hp ht
        have hnu := (Below.refl wr.heap.size wr).alloc (Nat.le_refl _) (.cells #[.int .u32 (R : Int)] 22)
        have hTm := ref_Times (m := [(R : Int)]) (p := 1) rfl rfl (hR.out.below hnu) (isW_words _) (by omega) (Rd.one _ _) (IsW.one (by omega) (by omega)) (by simp)
        rw [nv_words, show nv [(R : Int)] = R by simp [nv]] at hTm
        replace hTm := Far.mk hTm
        have hbn := hb.out.trans (hnu.mono hsz)
        replace hbn := Far.mk hbn
        clear hnu hR hb
        go_wp2_with fail
        with_reducible refine hTm.out.mono ?_
        rintro x w7 ⟨v7, rfl, hu7, hb7⟩
        obtain ⟨A7, c7, rfl, hR7⟩ := hu7.rd
        have hb7' := Far.mk (hbn.out.trans (hb7.mono (by simp; omega)))
        have hR2' := hR2.out.below hb7'.out
        have hs7 := hb7'.out.size
        clear hTm hbn hu7 hb7
        go_wp2_with fail
        with_reducible refine (cHalved hR7 (by omega) hR2' (by omega) hD).mono ?_
        rintro x w8 ⟨v8, v9, rfl, hu8, hu9, hb8⟩
        rw [hd] at hu8
        rw [hρ2] at hu9
        obtain ⟨A8, c8, rfl, hR8⟩ := hu8.rd
        obtain ⟨A9, c9, rfl, hR9⟩ := hu9.rd
        have hb8' := Far.mk (hb7'.out.trans (hb8.mono hs7))
        have hs8 := hb8'.out.size
        clear hu8 hu9 hR2' hR7 hb8 hb7' hd hρ2
        go_wp2_with fail
        with_reducible refine (cTextR (R := (R : Int)) hR8 (by omega) rfl h1 h2).mono ?_
        rintro x w10 ⟨rfl, hb10⟩
        rw [hds]
        have hb10' := Far.mk (hb8'.out.trans (hb10.mono hs8))
        replace hR9 := Far.mk (hR9.below hb10)
        clear hb10 hb8' hR8 hds
        go_wp2_with fail
        go_roundw
        case rel => first | exact ⟨k + 1, ρ2, pre ++ [d], A9, c9, by omega, by go_num, by rw [hmap.out], by simp; omega, hρD, rfl, hR9, hp2, hb10'⟩ | ((repeat apply Exists.intro); exact ⟨⟨k + 1, ρ2, pre ++ [d], A9, c9, by omega, by go_num, by rw [hmap.out], by simp; omega, hρD, rfl, hR9, hp2, hb10'⟩, rfl⟩)
        case measure => simp [intOf] <;> omega
      · have hfr : frd R D 60 r0 = pre := by
          rw [hp.out]
          by_cases e : ρ = 0
          · rw [e, frd_zero, List.append_nil]
          · rw [show 60 - k = 0 by omega]
            simp [frd]
        rw [hfr] at hrad
        obtain ⟨L, hL⟩ : ∃ t, pre.map dg = t := ⟨_, rfl⟩
        have hLl : L.length = k := by rw [← hL, List.length_map, hpl]
        rw [hL] at hrad ⊢
        have hexit : ¬ (k : Int) < 60 ∨ (k : Int) < 60 ∧ (Nv.words ρ).length = 0 := by
          by_cases e : ρ = 0
          · by_cases e2 : (k : Int) < 60
            · exact .inr ⟨e2, words_len_zero.2 e⟩
            · exact .inl e2
          · left; omega
        have hb' := Far.mk (hbw6.out.trans (hb.out.mono hsw))
        clear hp hfr hR hρ hgo hL hb
        rcases hexit with g | ⟨g, g2⟩
        all_goals
          go_wp2_with fail
          go_loopw [13] (fun v wq => ∃ t : List UInt8, v = .string (S t) ∧ t.length ≤ 60 ∧ Far (trimZ t = trimZ L) ∧ wq = wr) (fun v _ => lenOf v)
          case atStart => exact ⟨L, rfl, by omega, ⟨rfl⟩, rfl⟩
          case round =>
            obtain ⟨t, rfl, htl, htr, rfl⟩ := hrel
            by_cases hz : ∃ u, t = u ++ [48]
            · obtain ⟨u, rfl⟩ := hz
              have hu1 : (S (u ++ [48])).size = u.length + 1 := by rw [S_size]; simp
              have hat : (S (u ++ [48]))[u.length]'(by rw [hu1]; omega) = 48 := S_at (by rw [hu1]; omega) (by simp)
              have hex : (S (u ++ [48])).extract 0 u.length = S u := by rw [S_extract, List.drop_zero]; simp
              have hul : u.length + 1 ≤ 60 := by simpa using htl
              rw [trimZ_zero] at htr
              go_wp2_with fail
              go_roundw
              case rel => exact ⟨u, by first | rfl | rw [hex], by omega, htr, by first | rfl | trivial⟩
              case measure => show (S u).size < (S (u ++ [48])).size; rw [hu1, S_size]; omega
            · have htt : trimZ t = t ∧ (t = [] ∨ ∃ u c, t = u ++ [c] ∧ c ≠ 48) := by
                rcases List.eq_nil_or_concat t with rfl | ⟨u, c, rfl⟩
                · exact ⟨rfl, .inl rfl⟩
                · rw [List.concat_eq_append] at hz ⊢
                  have hc : c ≠ 48 := fun e => hz ⟨u, by rw [e]⟩
                  exact ⟨trimZ_other u hc, .inr ⟨u, c, rfl, hc⟩⟩
              obtain ⟨htt, hcase⟩ := htt
              have hrad2 : radS R P D = pointS dq t := by rw [hrad.out, ← htr.out, htt]
              replace hrad2 := Far.mk hrad2
              clear hz htt hrad htr
              rcases hcase with rfl | ⟨u, c, rfl, hc⟩
              · have hs0 : (S []).size = 0 := rfl
                go_wp2_with fail
                with_reducible refine (ref01_Wide _ _ (by simp only [S_size, List.length_cons]; omega)).mono ?_
                rintro x w12 ⟨rfl, hb12⟩
                go_wp2_with fail
                go_ret2
                first
                  | exact ⟨wide dq, _, rfl, hT.out P D _ hFr.out (by rw [hrad2.out]; rfl), hb'.out.trans (hb12.mono hb'.out.size)⟩
                  | exact ⟨wide (45 :: dq), _, rfl, hT.out P D _ hFr.out (by rw [hrad2.out]; rfl), hb'.out.trans (hb12.mono hb'.out.size)⟩
              · have hu1 : (S (u ++ [c])).size = u.length + 1 := by rw [S_size]; simp
                have hat : (S (u ++ [c]))[u.length]'(by rw [hu1]; omega) = c := S_at (by rw [hu1]; omega) (by simp)
                have hcb : ((c.toNat : Int) == 48) = false := by
                  simp only [beq_eq_false_iff_ne, ne_eq]
                  intro e
                  exact hc (UInt8.toNat_inj.1 (by rw [show (48 : UInt8).toNat = 48 from rfl]; omega))
                have hul : u.length + 1 ≤ 60 := by simpa using htl
                have hps : pointS dq (u ++ [c]) = dq ++ [46] ++ (u ++ [c]) := by unfold pointS; rw [if_neg (by simp)]
                rw [hps] at hrad2
                clear hps
                go_wp2_with fail
                with_reducible refine (ref01_Wide _ _ (by simp only [S_size, List.length_cons, List.length_append, List.length_nil]; omega)).mono ?_
                rintro x w12 ⟨rfl, hb12⟩
                go_wp2_with fail
                go_ret2
                first
                  | exact ⟨wide (dq ++ [46] ++ (u ++ [c])), _, by simp [S], hT.out P D _ hFr.out (by rw [hrad2.out]; rfl), hb'.out.trans (hb12.mono hb'.out.size)⟩
                  | exact ⟨wide (45 :: (dq ++ [46] ++ (u ++ [c]))), _, by simp [S], hT.out P D _ hFr.out (by rw [hrad2.out]; rfl), hb'.out.trans (hb12.mono hb'.out.size)⟩
end Us
end Go.Proofs.YtdpbpdhamekcdaaGreatDoor
namespace Go.Proofs.YtdpbpdhamekcdaaGreatDoor
open Go.RowKit
namespace Us
open Nv
attribute [local go_sem] S_append S_dot S_size S_e S_m

def lenV : Value → Nat
  | .slice _ n _ => n
  | _ => 0
theorem S_dot2 (b : List UInt8) : (⟨#[46]⟩ : ByteArray) ++ S b = S (46 :: b) := S_append [46] b
attribute [local go_sem] S_dot2
set_option maxRecDepth 100000 in
set_option maxHeartbeats 1600000 in
theorem nt_fraction {r0 R k : Nat} {A0 : Option Addr} {c0 : Nat} (h1 : 2 ≤ R) (h2 : R ≤ 36) (hk : k ≤ 4000) (hr : r0 < 2 ^ k) {w : World} (hR0 : Rd w A0 c0 (Nv.words r0)) :
    Calls Tryz.prog 83 #[.slice A0 (Nv.words r0).length c0, .int .i64 (k : Int), .int .i64 (R : Int)] w fun x w' => x = .returned (.string (S (trimZ ((frd R (2 ^ k) 60 r0).map dg)))) ∧ Below w.heap.size w w' := by
  replace hR0 := Far.mk hR0
  have hl1 : ∀ ρ, ρ < 2 ^ k → (Nv.words ρ).length ≤ 126 := fun ρ h => len_pow h (by omega)
  replace hl1 := Far.mk hl1
  go_enter Tryz.func83, Tryz.ntmps83
  go_wp2_with fail
  go_loopw [0, 7] (fun a v wr => ∃ (i ρ : Nat) (pre : List Nat) (A : Option Addr) (c : Nat), i ≤ 60 ∧ pre.length = i ∧ ρ < 2 ^ k ∧ a = .slice A (Nv.words ρ).length c ∧ B8 wr w.heap.size v (pre.map dg) ∧ Far (Rd wr A c (Nv.words ρ)) ∧ Far (frd R (2 ^ k) 60 r0 = pre ++ frd R (2 ^ k) (60 - i) ρ) ∧ Far (Below w.heap.size w wr))
    (fun _ v _ => 60 - (lenV v))
  case atStart => exact ⟨0, r0, [], A0, c0, Nat.zero_le _, rfl, hr, rfl, B8.nil _ _, hR0, ⟨rfl⟩, ⟨Below.refl _ _⟩⟩
  case round =>
    obtain ⟨i, ρ, pre, A, c, hi, hpl, hρ, rfl, hB, hR, hp, hb⟩ := hrel
    have hsz := hb.out.size
    have hown := fun k hk => (World.ownsRow.lt hB k hk).2
    obtain ⟨t, ht⟩ : ∃ t, pre.map dg = t := ⟨_, rfl⟩
    have htl : t.length = i := by rw [← ht, List.length_map, hpl]
    rw [ht] at hB
    obtain ⟨Ab, cb, hv⟩ := hB.len
    rw [htl] at hv
    subst hv
    have hl := hl1.out ρ hρ
    by_cases hgo : i < 60 ∧ ρ ≠ 0
    · obtain ⟨hi60, hρ0⟩ := hgo
      have hne : (Nv.words ρ).length ≠ 0 := fun e => hρ0 (words_len_zero.1 e)
      have hR1' : (Nv.words R).length ≤ 1 := words_len (by omega)
      have hlm : (Nv.words (ρ * R)).length ≤ 127 := Nat.le_trans (len_mul _ _) (by omega)
      have hP := Nat.two_pow_pos k
      obtain ⟨d, hd⟩ : ∃ d, ρ * R / 2 ^ k = d := ⟨_, rfl⟩
      have hle : d * 2 ^ k ≤ ρ * R := by rw [← hd]; exact Nat.div_mul_le_self _ _
      have hsub : ρ * R - d * 2 ^ k = ρ * R % 2 ^ k := by
        have := Nat.div_add_mod (ρ * R) (2 ^ k)
        rw [hd, Nat.mul_comm] at this
        omega
      obtain ⟨ρ2, hρ2⟩ : ∃ d, ρ * R % 2 ^ k = d := ⟨_, rfl⟩
      have hdR : d < R := by rw [← hd]; exact Nat.div_lt_of_lt_mul (Nat.mul_lt_mul_of_pos_right hρ (by omega))
      have hρD : ρ2 < 2 ^ k := by rw [← hρ2]; exact Nat.mod_lt _ hP
      have hds := digs_small (r := 36) (by decide) (show d < 36 by omega)
      have hp2 : Far (frd R (2 ^ k) 60 r0 = (pre ++ [d]) ++ frd R (2 ^ k) (60 - (i + 1)) ρ2) := ⟨by
        rw [← hd, ← hρ2]
        refine frd_snoc ?_ hρ0
        rw [show 60 - (i + 1) + 1 = 60 - i by omega]
        exact hp.out⟩
      have hld : (Nv.words d).length ≤ 1 := words_len (by omega)
      have hld2 : (Nv.words (d * 2 ^ k)).length ≤ 127 := Nat.le_trans (len_mono hle) hlm
      have hmap : Far ((pre ++ [d]).map dg = t ++ [dg d]) := ⟨by rw [List.map_append, ht]; rfl⟩
      clear hp ht hP
      have hO := bn_Of (x := (R : Int)) (by omega) (by omega) wr
      rw [Int.toNat_natCast] at hO
      replace hO := Far.mk hO
      go_wp2_with fail
      with_reducible refine hO.out.mono ?_
      rintro x w3 ⟨A3, c3, rfl, hR3, hb3⟩
      replace hR := Far.mk (hR.out.below hb3)
      replace hB := hB.keep hb3
      have hs3 := hb3.size
      have hbw := Far.mk (hb.out.trans (hb3.mono hsz))
      clear hO hb hb3
      go_wp2_with fail
      with_reducible refine (bMul hR.out (by omega) hR3 (by omega) (by omega)).mono ?_
      rintro x w4 ⟨A4, c4, rfl, hR4, hb4⟩
      replace hB := hB.keep hb4
      have hs4 := hb4.size
      replace hbw := Far.mk (hbw.out.trans (hb4.mono (by omega)))
      clear hR hR3 hb4
      go_wp2_with fail
      with_reducible refine (bShr (k := k) rfl hR4 (by omega) (by omega)).mono ?_
      rintro x w5 ⟨A5, c5, b5, rfl, hR5, hb5⟩
      rw [hd] at hR5 ⊢
      replace hR4 := Far.mk (hR4.below hb5)
      replace hB := hB.keep hb5
      have hs5 := hb5.size
      replace hbw := Far.mk (hbw.out.trans (hb5.mono (by omega)))
      clear hb5
      go_wp2_with fail
      with_reducible refine (bShl (k := k) rfl hR5 (by omega) (by omega) (by omega)).mono ?_
      rintro x w6 ⟨A6, c6, rfl, hR6, hb6⟩
      replace hR4 := Far.mk (hR4.out.below hb6)
      replace hR5 := Far.mk (hR5.below hb6)
      replace hB := hB.keep hb6
      have hs6 := hb6.size
      replace hbw := Far.mk (hbw.out.trans (hb6.mono (by omega)))
      clear hb6
      go_wp2_with fail
      with_reducible refine (bSub hR4.out (by omega) hR6 (by omega) hle).mono ?_
      rintro x w7 ⟨g7, c7, rfl, hg7, hR7, hb7⟩
      rw [hsub, hρ2] at hR7 ⊢
      replace hR5 := Far.mk (hR5.out.below hb7)
      replace hB := hB.keep hb7
      have hs7 := hb7.size
      replace hbw := Far.mk (hbw.out.trans (hb7.mono (by omega)))
      clear hb7 hR4 hR6
      go_wp2_with fail
      with_reducible refine (bText (r := 36) (R := 36) hR5.out (by omega) rfl (by decide) (by decide)).mono ?_
      rintro x w8 ⟨rfl, hb8⟩
      rw [hds]
      replace hR7 := Far.mk (hR7.below hb8)
      replace hB := hB.keep hb8
      have hs8 := hb8.size
      replace hbw := Far.mk (hbw.out.trans (hb8.mono (by omega)))
      clear hb8 hR5
      go_wp2_with (at_builtin; go_must (refine append_text rfl _ _ rfl w.heap.size rfl hB rfl (by simp; omega) (by omega) ?_))
      intro v9 w9 hB9 hg9
      have hb9 := hbw.out.grown hg9 (by omega) (fun k hk => (World.ownsRow.lt hB k hk).1)
      have hR9 := Far.mk (hR7.out.grown hg9 (fun e => by have := hown _ e; omega))
      obtain ⟨A9, c9, hv9⟩ := hB9.len
      have ht9 : (t ++ [dg d]).length = i + 1 := by simp [htl]
      rw [ht9] at hv9
      subst hv9
      clear hB hg9 hR7 hown hbw
      go_wp2_with fail
      go_roundw
      case rel => first | exact ⟨i + 1, ρ2, pre ++ [d], _, _, by omega, by simp [hpl], hρD, rfl, by rw [hmap.out]; exact hB9, hR9, hp2, ⟨hb9⟩⟩ | ((repeat apply Exists.intro); exact ⟨⟨i + 1, ρ2, pre ++ [d], _, _, by omega, by simp [hpl], hρD, rfl, by rw [hmap.out]; exact hB9, hR9, hp2, ⟨hb9⟩⟩, rfl⟩)
      case measure => simp [lenV] <;> omega
    · have hfr : frd R (2 ^ k) 60 r0 = pre := by
        rw [hp.out]
        by_cases e : ρ = 0
        · rw [e, frd_zero, List.append_nil]
        · rw [show 60 - i = 0 by omega]
          simp [frd]
      have hcv := run_string_own (P := Tryz.prog) wr 51 9 5 _ hB Tryz.underlying51 Tryz.underlying5 Tryz.underlying9
      have hfr2 : Far ((frd R (2 ^ k) 60 r0).map dg = t) := ⟨by rw [hfr, ht]⟩
      have hTr := Far.mk (strings_TrimRight_one ⟨t.toArray⟩ 48 (by decide) wr (show (S t).size ≤ _ by rw [S_size]; omega))
      have hexit : (Nv.words ρ).length = 0 ∨ ((Nv.words ρ).length ≠ 0 ∧ i = 60) := by
        by_cases e : ρ = 0
        · exact .inl (words_len_zero.2 e)
        · exact .inr ⟨fun h => e (words_len_zero.1 h), by omega⟩
      clear hp hfr hR hl1 hown hgo
      rcases hexit with g | ⟨g, rfl⟩
      all_goals
        go_wp2_with fail
        with_reducible refine hTr.out.mono ?_
        rintro x w3 ⟨rfl, hw⟩
        replace hw := hw.symm
        subst hw
        go_wp2_with fail
        go_ret
        exact ⟨by rw [hfr2.out]; rfl, hb.out⟩
set_option maxRecDepth 100000 in
theorem nt_fraction_nil {K R : Int} {A : Option Addr} {c : Nat} (w : World) : Calls Tryz.prog 83 #[.slice A 0 c, .int .i64 K, .int .i64 R] w fun x w' => x = .returned (.string (S [])) ∧ Below w.heap.size w w' := by
  have hTr := Far.mk (strings_TrimRight_one ⟨#[]⟩ 48 (by decide) w (by decide))
  have hB : B8 w w.heap.size (.slice none 0 0) [] := B8.nil _ _
  have hcv := run_string_own (P := Tryz.prog) w 51 9 5 _ hB Tryz.underlying51 Tryz.underlying5 Tryz.underlying9
  go_enter Tryz.func83, Tryz.ntmps83
  go_wp2_with fail
  go_loopw [0, 7] (fun a v wr => a = .slice A 0 c ∧ v = .slice none 0 0 ∧ wr = w) (fun _ _ _ => 0)
  case atStart => exact ⟨rfl, rfl, rfl⟩
  case round =>
    obtain ⟨rfl, rfl, rfl⟩ := hrel
    go_wp2_with fail
    with_reducible refine hTr.out.mono ?_
    rintro x w3 ⟨rfl, hw⟩
    replace hw := hw.symm
    subst hw
    go_wp2_with fail
    go_ret
    exact ⟨rfl, Below.refl _ _⟩
/-- What Parts tells, noughts too. -/
def PartsT (r : Nat) (w : World) (x : Ending) (w' : World) : Prop := ∃ (m : Nat) (e : Int) (A : Option Addr) (c : Nat), x = .returned (.tuple #[.slice A (Nv.words m).length c, .int .i64 e, .int .i64 0]) ∧ (∀ p : Int, Frac r (m * 2 ^ e.toNat * 10 ^ p.toNat) (2 ^ (-e).toNat * 10 ^ (-p).toNat) (-p)) ∧ m < 9007199254740992 ∧ (-1100 ≤ e ∧ e ≤ 1100) ∧ Rd w' A c (Nv.words m) ∧ Below w.heap.size w w'
set_option maxRecDepth 100000 in
theorem bn_Parts0 {f : Nat} (hz : f = 0 ∨ f = 9223372036854775808) (w : World) : Calls Tryz.prog 78 #[.float .f64 f] w fun x w' => x = .returned (.tuple #[.slice none 0 0, .int .i64 0, .int .i64 0]) ∧ w' = w := by
  obtain ⟨hn, ho, hl, hi⟩ := nought_facts hz
  have hI := Far.mk (fun W => math_IsInf0 hl hi W)
  clear hz hi
  go_enter Tryz.func78, Tryz.ntmps78
  go_wp2_with (first
    | (go_at_call 23; go_must (with_reducible refine (hI.out _).mono ?_); rintro e w' ⟨rfl, hw⟩; replace hw := hw.symm; subst hw)
    | (go_at_call 20; go_must (with_reducible refine (math_IsNaN f _).mono ?_); rintro e w' ⟨rfl, hw⟩; subst hw; rw [hn]))
  go_ret3
  exact ⟨rfl, rfl⟩
theorem bn_PartsT {r f : Nat} (h : Rung r f) {w : World} (hT : Tz w) : Calls Tryz.prog 78 #[.float .f64 f] w (PartsT r w) := by
  rcases h with ⟨h1, h2, rfl⟩ | ⟨rfl, hz⟩
  · refine (bn_Parts h1 h2 hT).mono ?_
    rintro x w' ⟨m, t, A, c, rfl, hm, hR, hb⟩
    have hml := mant_lt f
    have hmp := mant_pos h1
    have hmle : m ≤ mantOf f := by rw [hm]; exact Nat.le_mul_of_pos_right _ (Nat.two_pow_pos t)
    have htl : t < 64 := by
      rcases Nat.lt_or_ge t 64 with h | h
      · exact h
      · have a : 2 ^ 64 ≤ 2 ^ t := Nat.pow_le_pow_right (by decide) h
        have hm0 : 0 < m := by
          rcases Nat.eq_zero_or_pos m with h | h
          · rw [h, Nat.zero_mul] at hm
            omega
          · exact h
        have b : 2 ^ t ≤ m * 2 ^ t := Nat.le_mul_of_pos_left _ hm0
        rw [show (2 : Nat) ^ 64 = 18446744073709551616 by decide] at a
        omega
    have hkl : kOf f ≤ 2045 := by unfold kOf infR at *; omega
    exact ⟨m, _, A, c, rfl, fun p => (frac_of (p := p) h1 h2 hm rfl rfl rfl).frac, by omega, by omega, hR, hb⟩
  · refine (bn_Parts0 hz w).mono ?_
    rintro x w' ⟨rfl, rfl⟩
    refine ⟨0, 0, none, 0, by rw [words_zero]; rfl, fun p => ?_, by decide, by decide, by rw [words_zero]; exact Rd.nil _, Below.refl _ _⟩
    have := (FracT.nought p).frac
    simpa using this
theorem Tz.below {w w' : World} (h : Tz w) (hb : Below w.heap.size w w') : Tz w' := fun z hz => below_keep hb (h z hz)
end Us
end Go.Proofs.YtdpbpdhamekcdaaGreatDoor
