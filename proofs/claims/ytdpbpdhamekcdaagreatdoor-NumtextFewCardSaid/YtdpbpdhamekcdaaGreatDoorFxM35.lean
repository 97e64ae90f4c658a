/-
  A contract of numtext.Exponential. Conditions: the laid tables have their values. A contract of quillref03.Precision. No condition but that the arguments are what they are. A contract of numtext.Precision. Conditions: the laid tables have their values. What a rounded number's digits tell: fewer digits than the shortest ones are another float's. What numtext.Number tells of decimals of 17 digits. Contracts of quilllaw03.digits and quillref01.Len. Conditions: the laid variables have their values.
-/
import Derived.Test.YtdpbpdhamekcdaaGreatDoorFxM34
import Derived.Test.YtdpbpdhamekcdaaGreatDoorFxM23
namespace Go.Proofs.YtdpbpdhamekcdaaGreatDoor
open Go.RowKit
namespace Us
open Nv
attribute [local go_sem] S_append S_e S_m S_size
/-- The three kinds of a number: nought, above, below. -/
theorem kinds3 {f r : Nat} (hf : f < 18446744073709551616) (hr : f % 9223372036854775808 = r) (hk : (∃ o, FloatKind.f64.format.order f 0 = some o ∧ (o = .eq ∨ o = .gt) ∧ sgnS f = [] ∧ Rung r f) ∨ (FloatKind.f64.format.order f 0 = some .lt ∧ sgnS f = [45] ∧ Rung r r ∧ ∀ W, (Op.unary .neg (.float .f64 f)).run Tryz.prog W = .ok (.float .f64 r) W)) :
    (r = 0 ∧ FloatKind.f64.format.order f 0 = some .eq ∧ sgnS f = []) ∨ ((1 ≤ r ∧ r < infR) ∧ FloatKind.f64.format.order f 0 = some .gt ∧ sgnS f = [] ∧ f = r) ∨
    ((1 ≤ r ∧ r < infR) ∧ FloatKind.f64.format.order f 0 = some .lt ∧ FloatKind.f64.format.order r 0 = some .gt ∧ sgnS f = [45] ∧ ∀ W, (Op.unary .neg (.float .f64 f)).run Tryz.prog W = .ok (.float .f64 r) W) := by
  rcases hk with ⟨o, ho, h, hsg, hrg⟩ | ⟨ho, hsg, hrg, hneg⟩
  · obtain ⟨h1, h2⟩ := order_rungs hrg
    rcases Nat.eq_zero_or_pos r with h0 | h0
    · rw [if_pos h0] at h1
      exact .inl ⟨h0, h1, hsg⟩
    · rw [if_neg (by omega)] at h1
      exact .inr (.inl ⟨⟨h0, hrg.lt⟩, h1, hsg, h2 h0⟩)
  · have h0 : 1 ≤ r := by
      have : 9223372036854775808 < f := by
        unfold sgnS at hsg
        split at hsg
        · assumption
        · cases hsg
      omega
    obtain ⟨h1, -⟩ := order_rungs hrg
    rw [if_neg (by omega)] at h1
    exact .inr (.inr ⟨⟨h0, hrg.lt⟩, ho, h1, hsg, hneg⟩)
theorem nt_Exponential_out {f : Nat} {d : Int} (h : d < -1 ∨ 20 < d) (w : World) : Calls Tryz.prog 41 #[.float .f64 f, .int .i64 d] w (ExpQ f d w) := by
  have hT : ExpW f d [] 1 := .inl ⟨h, rfl, rfl⟩
  replace hT := Far.mk hT
  go_enter Tryz.func41, Tryz.ntmps41
  by_cases g : d < -1
  · go_wp2_with fail
    go_ret2
    exact ⟨_, _, rfl, hT.out, Below.refl _ _⟩
  · have g2 : 20 < d := by omega
    go_wp2_with fail
    go_ret2
    exact ⟨_, _, rfl, hT.out, Below.refl _ _⟩
theorem nt_Exponential_text {f : Nat} (hf : f < 18446744073709551616) {d : Int} (h1 : -1 ≤ d) (h2 : d ≤ 20) (hk : nanB f = true ∨ f % 9223372036854775808 = infR) {w : World} (hTb : Tabs w) : Calls Tryz.prog 41 #[.float .f64 f, .int .i64 d] w (ExpQ f d w) := by
  have hT : ∀ t, TxtW f t → ExpW f d (wide t) 0 := fun t h => .inr (.inl ⟨⟨h1, h2⟩, hk, ⟨t, h, rfl⟩, rfl⟩)
  have hR := Far.mk (nt_Text_float hf hTb)
  obtain ⟨b, hb⟩ : ∃ b, nanB f = b := ⟨_, rfl⟩
  have hI := Far.mk (fun (hn : nanB f = false) W => math_IsInf0 hf (isinf_kind hn) W)
  replace hT := Far.mk hT
  go_enter Tryz.func41, Tryz.ntmps41
  cases b with
  | true =>
    clear hk hf
    go_wp2_with (go_at_call 20; refine (math_IsNaN f _).mono ?_; rintro e w' ⟨rfl, hw⟩; subst hw; rw [hb])
    with_reducible refine hR.out.mono ?_
    rintro x w3 ⟨s, hs, hl, rfl, hb3⟩
    go_wp2_with fail
    go_ret2
    exact ⟨_, _, rfl, hT.out _ hs, hb3⟩
  | false =>
    have hi : f % 9223372036854775808 = infR := by
      rcases hk with h | h
      · rw [hb] at h; cases h
      · exact h
    replace hI := Far.mk (hI.out hb)
    rw [decide_eq_true hi] at hI
    clear hk hf hi
    go_wp2_with (first
      | (go_at_call 23; go_must (with_reducible refine (hI.out _).mono ?_); rintro e w' ⟨rfl, hw⟩; replace hw := hw.symm; subst hw)
      | (go_at_call 20; refine (math_IsNaN f _).mono ?_; rintro e w' ⟨rfl, hw⟩; subst hw; rw [hb]))
    with_reducible refine hR.out.mono ?_
    rintro x w3 ⟨s, hs, hl, rfl, hb3⟩
    go_wp2_with fail
    go_ret2
    exact ⟨_, _, rfl, hT.out _ hs, hb3⟩
set_option maxRecDepth 100000 in
set_option maxHeartbeats 3200000 in
theorem nt_Exponential_num {f r : Nat} {d : Int} (hf : f < 18446744073709551616) (h1 : -1 ≤ d) (h2 : d ≤ 20) (hn : nanB f = false) (hi : f % 9223372036854775808 < infR) (hr : f % 9223372036854775808 = r)
    (hk : (∃ o, FloatKind.f64.format.order f 0 = some o ∧ (o = .eq ∨ o = .gt) ∧ sgnS f = [] ∧ Rung r f) ∨ (FloatKind.f64.format.order f 0 = some .lt ∧ sgnS f = [45] ∧ Rung r r ∧ ∀ W, (Op.unary .neg (.float .f64 f)).run Tryz.prog W = .ok (.float .f64 r) W)) {w : World} (hTb : Tabs w) (hTz : Tz w) : Calls Tryz.prog 41 #[.float .f64 f, .int .i64 d] w (ExpQ f d w) := by
  have hT : ∀ t E, ((0 ≤ d ∧ PlaceR r (d + 1).toNat t E) ∨ (d = -1 ∧ r = 0 ∧ t = [48] ∧ E = 0) ∨ (d = -1 ∧ 1 ≤ r ∧ ∃ c j, Short r c j ∧ t = digs 10 c ∧ E = j + ((digs 10 c).length : Int) - 1)) → ExpW f d (wide (sgnS f ++ expS t E)) 0 := fun t E h => .inr (.inr ⟨⟨by omega, by omega⟩, (show ¬ (nanB f = true ∨ f % 9223372036854775808 = infR) from fun h => by rcases h with h | h; (rw [hn] at h; cases h); omega), ⟨t, E, by rw [hr]; exact h, rfl⟩, rfl⟩)
  have hI := Far.mk (fun W => math_IsInf0 hf (isinf_kind hn) W)
  rw [decide_eq_false (by omega)] at hI
  have hk3 := kinds3 hf hr hk
  replace hT := Far.mk hT
  have hK := Far.mk (fun W (hb : Below w.heap.size w W) => hTb.keep hb)
  have hZ := Far.mk (fun W (hb : Below w.heap.size w W) => hTz.keep hb rfl)
  obtain ⟨n, hdn, hn1⟩ : ∃ n : Nat, (if d < 0 then 1 else d + 1) = (n : Int) ∧ 1 ≤ n := ⟨(if d < 0 then 1 else d + 1).toNat, by split <;> omega, by split <;> omega⟩
  have hn2 : n ≤ 21 := by
    split at hdn <;> omega
  clear hf hi hr hk hTb hTz
  go_enter Tryz.func41, Tryz.ntmps41
  rcases hk3 with ⟨rfl, ho, hsg⟩ | ⟨hrr, ho, hsg, rfl⟩ | ⟨hrr, ho, ho2, hsg, hneg⟩
  · rw [hsg] at hT
    rcases Int.lt_or_le d 0 with gd | gd
    · obtain rfl : d = -1 := by omega
      obtain rfl : n = 1 := by simp at hdn; omega
      clear hdn h1 h2 gd
      have hmx : max (-1 : Int) 0 = 0 := by decide
      go_wp2_with (first
        | (go_at_call 23; go_must (with_reducible refine (hI.out _).mono ?_); rintro e w' ⟨rfl, hw⟩; replace hw := hw.symm; subst hw)
        | (go_at_call 20; refine (math_IsNaN f _).mono ?_; rintro e w' ⟨rfl, hw⟩; subst hw; rw [hn]))
      with_reducible refine (nt_noughts (by omega) _).mono ?_
      rintro x w4 ⟨rfl, hb⟩
      replace hb := Far.mk hb
      have hX := Far.mk (show (0 ≤ (-1 : Int) ∧ PlaceR 0 ((-1 : Int) + 1).toNat (List.replicate 1 48) 0) ∨ ((-1 : Int) = -1 ∧ 0 = 0 ∧ List.replicate 1 48 = ([48] : List UInt8) ∧ (0 : Int) = 0) ∨ ((-1 : Int) = -1 ∧ 1 ≤ 0 ∧ ∃ c j, Short 0 c j ∧ List.replicate 1 48 = digs 10 c ∧ (0 : Int) = j + ((digs 10 c).length : Int) - 1) from .inr (.inl ⟨rfl, rfl, rfl, rfl⟩))
      rw [show (1 : Int).toNat = 1 from rfl]
      obtain ⟨t, ht⟩ : ∃ t, List.replicate 1 (48 : UInt8) = t := ⟨_, rfl⟩
      have htl : t.length = 1 := by rw [← ht]; rfl
      rw [ht] at hX ⊢
      clear ht
      have hlE := expS_len t 0 (by omega) (by omega)
      have hTu := Far.mk (hT.out t 0 (by first | exact hX.out | simpa using hX.out))
      clear hX hT
      go_wp2_with fail
      with_reducible refine (nt_pointed (l := t) (e := 0) (by omega) (by omega) (by omega) (hK.out _ hb.out)).mono ?_
      rintro x w8 ⟨rfl, hb8⟩
      replace hb := Far.mk (hb.out.trans (hb8.mono hb.out.size))
      clear hb8
      obtain ⟨u, hu⟩ : ∃ u, expS t 0 = u := ⟨_, rfl⟩
      rw [hu] at hlE hTu ⊢
      clear hu
      have hus : (S u).size = u.length := S_size u
      go_wp2_with fail
      with_reducible refine (ustr_Wide _ _ (by first | omega | (simp only [S_size, List.length_cons]; omega))).mono ?_
      rintro x w9 ⟨rfl, hb9⟩
      go_wp2_with fail
      go_ret2
      exact ⟨wide u, _, rfl, hTu.out, hb.out.trans (hb9.mono hb.out.size)⟩
    · have hmx : max d 0 = d := by omega
      rw [if_neg (by omega)] at hdn
      have hdt : (d + 1).toNat = n := by omega
      go_wp2_with (first
        | (go_at_call 23; go_must (with_reducible refine (hI.out _).mono ?_); rintro e w' ⟨rfl, hw⟩; replace hw := hw.symm; subst hw)
        | (go_at_call 20; refine (math_IsNaN f _).mono ?_; rintro e w' ⟨rfl, hw⟩; subst hw; rw [hn]))
      with_reducible refine (nt_noughts (by omega) _).mono ?_
      rintro x w4 ⟨rfl, hb⟩
      replace hb := Far.mk hb
      rw [Int.toNat_natCast]
      have hX := Far.mk (show (0 ≤ d ∧ PlaceR 0 (d + 1).toNat (List.replicate n 48) 0) ∨ (d = -1 ∧ 0 = 0 ∧ List.replicate n 48 = ([48] : List UInt8) ∧ (0 : Int) = 0) ∨ (d = -1 ∧ 1 ≤ 0 ∧ ∃ c j, Short 0 c j ∧ List.replicate n 48 = digs 10 c ∧ (0 : Int) = j + ((digs 10 c).length : Int) - 1) from .inl ⟨gd, by rw [hdt]; exact .inl ⟨rfl, rfl, rfl⟩⟩)
      obtain ⟨t, ht⟩ : ∃ t, List.replicate n (48 : UInt8) = t := ⟨_, rfl⟩
      have htl : t.length = n := by rw [← ht, List.length_replicate]
      rw [ht] at hX ⊢
      clear ht hdt
      have hlE := expS_len t 0 (by omega) (by omega)
      have hTu := Far.mk (hT.out t 0 (by first | exact hX.out | simpa using hX.out))
      clear hX hT
      go_wp2_with fail
      with_reducible refine (nt_pointed (l := t) (e := 0) (by omega) (by omega) (by omega) (hK.out _ hb.out)).mono ?_
      rintro x w8 ⟨rfl, hb8⟩
      replace hb := Far.mk (hb.out.trans (hb8.mono hb.out.size))
      clear hb8
      obtain ⟨u, hu⟩ : ∃ u, expS t 0 = u := ⟨_, rfl⟩
      rw [hu] at hlE hTu ⊢
      clear hu
      have hus : (S u).size = u.length := S_size u
      go_wp2_with fail
      with_reducible refine (ustr_Wide _ _ (by first | omega | (simp only [S_size, List.length_cons]; omega))).mono ?_
      rintro x w9 ⟨rfl, hb9⟩
      go_wp2_with fail
      go_ret2
      exact ⟨wide u, _, rfl, hTu.out, hb.out.trans (hb9.mono hb.out.size)⟩
  · rw [hsg] at hT
    rcases Int.lt_or_le d 0 with gd | gd
    · obtain rfl : d = -1 := by omega
      obtain rfl : n = 1 := by simp at hdn; omega
      clear hdn h1 h2 gd
      have hmx : max (-1 : Int) 0 = 0 := by decide
      go_wp2_with (first
        | (go_at_call 23; go_must (with_reducible refine (hI.out _).mono ?_); rintro e w' ⟨rfl, hw⟩; replace hw := hw.symm; subst hw)
        | (go_at_call 20; refine (math_IsNaN f _).mono ?_; rintro e w' ⟨rfl, hw⟩; subst hw; rw [hn]))
      with_reducible refine (nt_noughts (by omega) _).mono ?_
      rintro x w4 ⟨rfl, hb⟩
      replace hb := Far.mk hb
      have hSh := Far.mk (fun W (hb : Below w.heap.size w W) => nt_shortest hrr.1 hrr.2 (hK.out W hb))
      have hr1 := Far.mk hrr
      clear hrr
      go_wp2_with fail
      with_reducible refine (hSh.out _ hb.out).mono ?_
      rintro x w5 ⟨c, j, rfl, hsh, hl, hj1, hj2, hb5⟩
      replace hb := Far.mk (hb.out.trans (hb5.mono hb.out.size))
      have hpos := hsh.pos
      have hl1' : 1 ≤ (digs 10 c).length := by
        obtain ⟨c0, l0, e, -⟩ := digs_head hpos
        rw [e]
        simp
      have hX := Far.mk (show ∀ E : Int, j + ((digs 10 c).length : Int) - 1 = E → (((0 : Int) ≤ -1 ∧ PlaceR f ((-1 : Int) + 1).toNat (digs 10 c) E) ∨ ((-1 : Int) = -1 ∧ f = 0 ∧ (digs 10 c) = ([48] : List UInt8) ∧ E = 0) ∨ ((-1 : Int) = -1 ∧ 1 ≤ f ∧ ∃ c' j', Short f c' j' ∧ (digs 10 c) = digs 10 c' ∧ E = j' + ((digs 10 c').length : Int) - 1)) from fun E hE => .inr (.inr ⟨rfl, hr1.out.1, c, j, hsh, rfl, hE.symm⟩))
      clear hb5 hsh hSh hpos
      obtain ⟨t, ht⟩ : ∃ t : List UInt8, digs 10 c = t := ⟨_, rfl⟩
      rw [ht] at hX hl hl1' ⊢
      obtain ⟨E, hE⟩ : ∃ E : Int, j + (t.length : Int) - 1 = E := ⟨_, rfl⟩
      replace hX := Far.mk (hX.out E hE)
      clear ht
      have hlE := expS_len t E (by omega) (by omega)
      have hTu := Far.mk (hT.out t E (by first | exact hX.out | simpa using hX.out))
      clear hX hT
      go_wp2_with fail
      with_reducible refine (nt_pointed (l := t) (e := E) (by omega) (by omega) (by omega) (hK.out _ hb.out)).mono ?_
      rintro x w8 ⟨rfl, hb8⟩
      replace hb := Far.mk (hb.out.trans (hb8.mono hb.out.size))
      clear hb8
      obtain ⟨u, hu⟩ : ∃ u, expS t E = u := ⟨_, rfl⟩
      rw [hu] at hlE hTu ⊢
      clear hu
      have hus : (S u).size = u.length := S_size u
      go_wp2_with fail
      with_reducible refine (ustr_Wide _ _ (by first | omega | (simp only [S_size, List.length_cons]; omega))).mono ?_
      rintro x w9 ⟨rfl, hb9⟩
      go_wp2_with fail
      go_ret2
      exact ⟨wide u, _, rfl, hTu.out, hb.out.trans (hb9.mono hb.out.size)⟩
    · have hmx : max d 0 = d := by omega
      rw [if_neg (by omega)] at hdn
      have hdt : (d + 1).toNat = n := by omega
      go_wp2_with (first
        | (go_at_call 23; go_must (with_reducible refine (hI.out _).mono ?_); rintro e w' ⟨rfl, hw⟩; replace hw := hw.symm; subst hw)
        | (go_at_call 20; refine (math_IsNaN f _).mono ?_; rintro e w' ⟨rfl, hw⟩; subst hw; rw [hn]))
      with_reducible refine (nt_noughts (by omega) _).mono ?_
      rintro x w4 ⟨rfl, hb⟩
      replace hb := Far.mk hb
      rw [Int.toNat_natCast]
      have hRo := Far.mk (fun W (hb : Below w.heap.size w W) => nt_rounded hrr.1 hrr.2 hn1 (by omega) (hK.out W hb) (hZ.out W hb))
      clear hrr
      go_wp2_with fail
      with_reducible refine (hRo.out _ hb.out).mono ?_
      rintro x w5 ⟨t, E, rfl, hpr, hl, hE, hb5⟩
      replace hb := Far.mk (hb.out.trans (hb5.mono hb.out.size))
      have hX := Far.mk (show (0 ≤ d ∧ PlaceR f (d + 1).toNat t E) ∨ (d = -1 ∧ f = 0 ∧ t = ([48] : List UInt8) ∧ E = 0) ∨ (d = -1 ∧ 1 ≤ f ∧ ∃ c j, Short f c j ∧ t = digs 10 c ∧ E = j + ((digs 10 c).length : Int) - 1) from .inl ⟨gd, by rw [hdt]; exact hpr⟩)
      clear hb5 hpr hRo hdt
      have hlE := expS_len t E (by omega) (by omega)
      have hTu := Far.mk (hT.out t E (by first | exact hX.out | simpa using hX.out))
      clear hX hT
      go_wp2_with fail
      with_reducible refine (nt_pointed (l := t) (e := E) (by omega) (by omega) (by omega) (hK.out _ hb.out)).mono ?_
      rintro x w8 ⟨rfl, hb8⟩
      replace hb := Far.mk (hb.out.trans (hb8.mono hb.out.size))
      clear hb8
      obtain ⟨u, hu⟩ : ∃ u, expS t E = u := ⟨_, rfl⟩
      rw [hu] at hlE hTu ⊢
      clear hu
      have hus : (S u).size = u.length := S_size u
      go_wp2_with fail
      with_reducible refine (ustr_Wide _ _ (by first | omega | (simp only [S_size, List.length_cons]; omega))).mono ?_
      rintro x w9 ⟨rfl, hb9⟩
      go_wp2_with fail
      go_ret2
      exact ⟨wide u, _, rfl, hTu.out, hb.out.trans (hb9.mono hb.out.size)⟩
  · rw [hsg] at hT
    rcases Int.lt_or_le d 0 with gd | gd
    · obtain rfl : d = -1 := by omega
      obtain rfl : n = 1 := by simp at hdn; omega
      clear hdn h1 h2 gd
      have hmx : max (-1 : Int) 0 = 0 := by decide
      go_wp2_with (first
        | (go_at_call 23; go_must (with_reducible refine (hI.out _).mono ?_); rintro e w' ⟨rfl, hw⟩; replace hw := hw.symm; subst hw)
        | (go_at_call 20; refine (math_IsNaN f _).mono ?_; rintro e w' ⟨rfl, hw⟩; subst hw; rw [hn]))
      with_reducible refine (nt_noughts (by omega) _).mono ?_
      rintro x w4 ⟨rfl, hb⟩
      replace hb := Far.mk hb
      have hSh := Far.mk (fun W (hb : Below w.heap.size w W) => nt_shortest hrr.1 hrr.2 (hK.out W hb))
      have hr1 := Far.mk hrr
      clear hrr
      go_wp2_with fail
      with_reducible refine (hSh.out _ hb.out).mono ?_
      rintro x w5 ⟨c, j, rfl, hsh, hl, hj1, hj2, hb5⟩
      replace hb := Far.mk (hb.out.trans (hb5.mono hb.out.size))
      have hpos := hsh.pos
      have hl1' : 1 ≤ (digs 10 c).length := by
        obtain ⟨c0, l0, e, -⟩ := digs_head hpos
        rw [e]
        simp
      have hX := Far.mk (show ∀ E : Int, j + ((digs 10 c).length : Int) - 1 = E → (((0 : Int) ≤ -1 ∧ PlaceR r ((-1 : Int) + 1).toNat (digs 10 c) E) ∨ ((-1 : Int) = -1 ∧ r = 0 ∧ (digs 10 c) = ([48] : List UInt8) ∧ E = 0) ∨ ((-1 : Int) = -1 ∧ 1 ≤ r ∧ ∃ c' j', Short r c' j' ∧ (digs 10 c) = digs 10 c' ∧ E = j' + ((digs 10 c').length : Int) - 1)) from fun E hE => .inr (.inr ⟨rfl, hr1.out.1, c, j, hsh, rfl, hE.symm⟩))
      clear hb5 hsh hSh hpos
      obtain ⟨t, ht⟩ : ∃ t : List UInt8, digs 10 c = t := ⟨_, rfl⟩
      rw [ht] at hX hl hl1' ⊢
      obtain ⟨E, hE⟩ : ∃ E : Int, j + (t.length : Int) - 1 = E := ⟨_, rfl⟩
      replace hX := Far.mk (hX.out E hE)
      clear ht
      have hlE := expS_len t E (by omega) (by omega)
      have hTu := Far.mk (hT.out t E (by first | exact hX.out | simpa using hX.out))
      clear hX hT
      go_wp2_with fail
      with_reducible refine (nt_pointed (l := t) (e := E) (by omega) (by omega) (by omega) (hK.out _ hb.out)).mono ?_
      rintro x w8 ⟨rfl, hb8⟩
      replace hb := Far.mk (hb.out.trans (hb8.mono hb.out.size))
      clear hb8
      obtain ⟨u, hu⟩ : ∃ u, expS t E = u := ⟨_, rfl⟩
      rw [hu] at hlE hTu ⊢
      clear hu
      have hus : (S u).size = u.length := S_size u
      go_wp2_with fail
      with_reducible refine (ustr_Wide _ _ (by first | omega | (simp only [S_size, List.length_cons]; omega))).mono ?_
      rintro x w9 ⟨rfl, hb9⟩
      go_wp2_with fail
      go_ret2
      exact ⟨wide (45 :: u), _, rfl, hTu.out, hb.out.trans (hb9.mono hb.out.size)⟩
    · have hmx : max d 0 = d := by omega
      rw [if_neg (by omega)] at hdn
      have hdt : (d + 1).toNat = n := by omega
      go_wp2_with (first
        | (go_at_call 23; go_must (with_reducible refine (hI.out _).mono ?_); rintro e w' ⟨rfl, hw⟩; replace hw := hw.symm; subst hw)
        | (go_at_call 20; refine (math_IsNaN f _).mono ?_; rintro e w' ⟨rfl, hw⟩; subst hw; rw [hn]))
      with_reducible refine (nt_noughts (by omega) _).mono ?_
      rintro x w4 ⟨rfl, hb⟩
      replace hb := Far.mk hb
      rw [Int.toNat_natCast]
      have hRo := Far.mk (fun W (hb : Below w.heap.size w W) => nt_rounded hrr.1 hrr.2 hn1 (by omega) (hK.out W hb) (hZ.out W hb))
      clear hrr
      go_wp2_with fail
      with_reducible refine (hRo.out _ hb.out).mono ?_
      rintro x w5 ⟨t, E, rfl, hpr, hl, hE, hb5⟩
      replace hb := Far.mk (hb.out.trans (hb5.mono hb.out.size))
      have hX := Far.mk (show (0 ≤ d ∧ PlaceR r (d + 1).toNat t E) ∨ (d = -1 ∧ r = 0 ∧ t = ([48] : List UInt8) ∧ E = 0) ∨ (d = -1 ∧ 1 ≤ r ∧ ∃ c j, Short r c j ∧ t = digs 10 c ∧ E = j + ((digs 10 c).length : Int) - 1) from .inl ⟨gd, by rw [hdt]; exact hpr⟩)
      clear hb5 hpr hRo hdt
      have hlE := expS_len t E (by omega) (by omega)
      have hTu := Far.mk (hT.out t E (by first | exact hX.out | simpa using hX.out))
      clear hX hT
      go_wp2_with fail
      with_reducible refine (nt_pointed (l := t) (e := E) (by omega) (by omega) (by omega) (hK.out _ hb.out)).mono ?_
      rintro x w8 ⟨rfl, hb8⟩
      replace hb := Far.mk (hb.out.trans (hb8.mono hb.out.size))
      clear hb8
      obtain ⟨u, hu⟩ : ∃ u, expS t E = u := ⟨_, rfl⟩
      rw [hu] at hlE hTu ⊢
      clear hu
      have hus : (S u).size = u.length := S_size u
      go_wp2_with fail
      with_reducible refine (ustr_Wide _ _ (by first | omega | (simp only [S_size, List.length_cons]; omega))).mono ?_
      rintro x w9 ⟨rfl, hb9⟩
      go_wp2_with fail
      go_ret2
      exact ⟨wide (45 :: u), _, rfl, hTu.out, hb.out.trans (hb9.mono hb.out.size)⟩
theorem nt_Exponential {f : Nat} {d : Int} (hf : f < 18446744073709551616) {w : World} (hTb : Tabs w) (hTz : Tz w) : Calls Tryz.prog 41 #[.float .f64 f, .int .i64 d] w (ExpQ f d w) := by
  by_cases g : d < -1 ∨ 20 < d
  · exact nt_Exponential_out g w
  · by_cases g2 : nanB f = true ∨ f % 9223372036854775808 = infR
    · exact nt_Exponential_text hf (by omega) (by omega) g2 hTb
    · rcases kinds hf with h | ⟨h, h'⟩ | ⟨h, h', hk⟩
      · exact (g2 (.inl h)).elim
      · exact (g2 (.inr h')).elim
      · exact nt_Exponential_num hf (by omega) (by omega) h h' rfl hk hTb hTz
theorem ref_Exponential {f : Nat} {d : Int} (hf : f < 18446744073709551616) {w : World} : Calls Tryz.prog 42 #[.float .f64 f, .int .i64 d] w (ExpQ f d w) := by
  by_cases g : d < -1 ∨ 20 < d
  · exact ref_Exponential_out g w
  · by_cases g2 : nanB f = true ∨ f % 9223372036854775808 = infR
    · exact ref_Exponential_text hf (by omega) (by omega) g2
    · rcases kinds hf with h | ⟨h, h'⟩ | ⟨h, h', hk⟩
      · exact (g2 (.inl h)).elim
      · exact (g2 (.inr h')).elim
      · exact ref_Exponential_num hf (by omega) (by omega) h h' rfl hk
end Us
end Go.Proofs.YtdpbpdhamekcdaaGreatDoor
namespace Go.Proofs.YtdpbpdhamekcdaaGreatDoor
open Go.RowKit
namespace Us
open Nv
attribute [local go_sem] S_append S_e S_m S_dot
def PreQ (f : Nat) (d : Int) (w : World) (x : Ending) (w' : World) : Prop := ∃ s e, x = .returned (.tuple #[.string (S s), .int .i64 e]) ∧ PreW f d s e ∧ Below w.heap.size w w'
theorem ref_Precision_out {f : Nat} {d : Int} (h : d < 1 ∨ 21 < d) (w : World) : Calls Tryz.prog 43 #[.float .f64 f, .int .i64 d] w (PreQ f d w) := by
  have hT : PreW f d [] 1 := .inl ⟨h, rfl, rfl⟩
  replace hT := Far.mk hT
  go_enter Tryz.func43, Tryz.ntmps43
  by_cases g : d < 1
  · go_wp2_with fail
    go_ret2
    exact ⟨_, _, rfl, hT.out, Below.refl _ _⟩
  · have g2 : 21 < d := by omega
    go_wp2_with fail
    go_ret2
    exact ⟨_, _, rfl, hT.out, Below.refl _ _⟩
theorem ref_Precision_text {f : Nat} (hf : f < 18446744073709551616) {d : Int} (h1 : 1 ≤ d) (h2 : d ≤ 21) (hk : nanB f = true ∨ f % 9223372036854775808 = infR) {w : World} : Calls Tryz.prog 43 #[.float .f64 f, .int .i64 d] w (PreQ f d w) := by
  have hT : ∀ t, TxtW f t → PreW f d (wide t) 0 := fun t h => .inr (.inl ⟨⟨h1, h2⟩, hk, ⟨t, h, rfl⟩, rfl⟩)
  have hR := Far.mk (ref_Text_float hf w)
  obtain ⟨b, hb⟩ : ∃ b, nanB f = b := ⟨_, rfl⟩
  have hI := Far.mk (fun (hn : nanB f = false) W => math_IsInf0 hf (isinf_kind hn) W)
  replace hT := Far.mk hT
  go_enter Tryz.func43, Tryz.ntmps43
  cases b with
  | true =>
    clear hk hf
    go_wp2_with (go_at_call 20; refine (math_IsNaN f _).mono ?_; rintro e w' ⟨rfl, hw⟩; subst hw; rw [hb])
    with_reducible refine hR.out.mono ?_
    rintro x w3 ⟨s, hs, hl, rfl, hb3⟩
    go_wp2_with fail
    go_ret2
    exact ⟨_, _, rfl, hT.out _ hs, hb3⟩
  | false =>
    have hi : f % 9223372036854775808 = infR := by
      rcases hk with h | h
      · rw [hb] at h; cases h
      · exact h
    replace hI := Far.mk (hI.out hb)
    rw [decide_eq_true hi] at hI
    clear hk hf hi
    go_wp2_with (first
      | (go_at_call 23; go_must (with_reducible refine (hI.out _).mono ?_); rintro e w' ⟨rfl, hw⟩; replace hw := hw.symm; subst hw)
      | (go_at_call 20; refine (math_IsNaN f _).mono ?_; rintro e w' ⟨rfl, hw⟩; subst hw; rw [hb]))
    with_reducible refine hR.out.mono ?_
    rintro x w3 ⟨s, hs, hl, rfl, hb3⟩
    go_wp2_with fail
    go_ret2
    exact ⟨_, _, rfl, hT.out _ hs, hb3⟩
set_option maxRecDepth 100000 in
set_option maxHeartbeats 3200000 in
theorem ref_Precision_num {f r k : Nat} (hf : f < 18446744073709551616) (h1 : 1 ≤ k) (h2 : k ≤ 21) (hn : nanB f = false) (hi : f % 9223372036854775808 < infR) (hr : f % 9223372036854775808 = r)
    (hk : (∃ o, FloatKind.f64.format.order f 0 = some o ∧ (o = .eq ∨ o = .gt) ∧ sgnS f = [] ∧ Rung r f) ∨ (FloatKind.f64.format.order f 0 = some .lt ∧ sgnS f = [45] ∧ Rung r r ∧ ∀ W, (Op.unary .neg (.float .f64 f)).run Tryz.prog W = .ok (.float .f64 r) W)) {w : World} : Calls Tryz.prog 43 #[.float .f64 f, .int .i64 (k : Int)] w (PreQ f (k : Int) w) := by
  have hT : ∀ t E u, PlaceR r k t E → preS k t E = u → PreW f (k : Int) (wide (sgnS f ++ u)) 0 := fun t E u h e => .inr (.inr ⟨⟨by omega, by omega⟩, (show ¬ (nanB f = true ∨ f % 9223372036854775808 = infR) from fun h => by rcases h with h | h; (rw [hn] at h; cases h); omega), ⟨t, E, by rw [hr]; exact h, by rw [← e]; rfl⟩, rfl⟩)
  have hI := Far.mk (fun W => math_IsInf0 hf (isinf_kind hn) W)
  rw [decide_eq_false (by omega)] at hI
  have hSg := Far.mk (fun W => ref_signed hk W)
  have hsl : (sgnS f).length ≤ 1 := by unfold sgnS; split <;> simp
  replace hT := Far.mk hT
  clear hf hr hi
  go_enter Tryz.func43, Tryz.ntmps43
  go_wp2_with (first
    | (go_at_call 23; go_must (with_reducible refine (hI.out _).mono ?_); rintro e w' ⟨rfl, hw⟩; replace hw := hw.symm; subst hw)
    | (go_at_call 20; refine (math_IsNaN f _).mono ?_; rintro e w' ⟨rfl, hw⟩; subst hw; rw [hn]))
  with_reducible refine (hSg.out _).mono ?_
  rintro x w3 ⟨y, rfl, hrg, rfl⟩
  obtain ⟨g, hg⟩ : ∃ g, sgnS f = g := ⟨_, rfl⟩
  rw [hg] at hT hsl ⊢
  clear hg hk hSg
  have hgs : (S g).size = g.length := S_size g
  have hP1 := Far.mk (fun W => ref_places hrg h1 (by omega) W)
  clear hn hrg
  go_wp2_with fail
  with_reducible refine (hP1.out _).mono ?_
  rintro x w4 ⟨t, E, rfl, hpr, hl, hE, hb⟩
  replace hb := Far.mk hb
  replace hT := Far.mk (fun u => hT.out t E u hpr)
  clear hpr hP1
  by_cases c1 : E < -6
  · have hlE := expS_len t E (by omega) (by omega)
    replace hT := Far.mk (hT.out _ (by unfold preS; rw [if_pos (by omega)]))
    go_wp2_with fail
    with_reducible refine (ref_exponent (l := t) (e := E) (by omega) (by omega) (by omega)).mono ?_
    rintro x w8 ⟨rfl, hb8⟩
    replace hb := Far.mk (hb.out.trans (hb8.mono hb.out.size))
    clear hb8
    obtain ⟨u, hu⟩ : ∃ u, expS t E = u := ⟨_, rfl⟩
    rw [hu] at hlE hT ⊢
    have hTu := hT
    clear hu hT
    have hus : (S u).size = u.length := S_size u
    have hcat := S_append g u
    have hcs : (S (g ++ u)).size = g.length + u.length := by rw [S_size, List.length_append]
    go_wp2_with fail
    with_reducible refine (ref01_Wide _ _ (by rw [hcs]; omega)).mono ?_
    rintro x w9 ⟨rfl, hb9⟩
    go_wp2_with fail
    go_ret2
    exact ⟨wide (g ++ u), _, rfl, hTu.out, hb.out.trans (hb9.mono hb.out.size)⟩
  · by_cases c2 : (k : Int) ≤ E
    · have hlE := expS_len t E (by omega) (by omega)
      replace hT := Far.mk (hT.out _ (by unfold preS; rw [if_pos (by omega)]))
      go_wp2_with fail
      with_reducible refine (ref_exponent (l := t) (e := E) (by omega) (by omega) (by omega)).mono ?_
      rintro x w8 ⟨rfl, hb8⟩
      replace hb := Far.mk (hb.out.trans (hb8.mono hb.out.size))
      clear hb8
      obtain ⟨u, hu⟩ : ∃ u, expS t E = u := ⟨_, rfl⟩
      rw [hu] at hlE hT ⊢
      have hTu := hT
      clear hu hT
      have hus : (S u).size = u.length := S_size u
      have hcat := S_append g u
      have hcs : (S (g ++ u)).size = g.length + u.length := by rw [S_size, List.length_append]
      go_wp2_with fail
      with_reducible refine (ref01_Wide _ _ (by rw [hcs]; omega)).mono ?_
      rintro x w9 ⟨rfl, hb9⟩
      go_wp2_with fail
      go_ret2
      exact ⟨wide (g ++ u), _, rfl, hTu.out, hb.out.trans (hb9.mono hb.out.size)⟩
    · by_cases c3 : E = (k : Int) - 1
      · have hTu := Far.mk (hT.out t (by unfold preS; rw [if_neg (by omega), if_pos (by omega)]))
        clear hT
        have hus : (S t).size = t.length := S_size t
        have hcat := S_append g t
        have hcs : (S (g ++ t)).size = g.length + t.length := by rw [S_size, List.length_append]
        obtain rfl : E = (k : Int) - 1 := by omega
        go_wp2_with fail
        with_reducible refine (ref01_Wide _ _ (by rw [hcs]; omega)).mono ?_
        rintro x w9 ⟨rfl, hb9⟩
        go_wp2_with fail
        go_ret2
        exact ⟨wide (g ++ t), _, rfl, hTu.out, hb.out.trans (hb9.mono hb.out.size)⟩
      · by_cases c4 : 0 ≤ E
        · obtain ⟨q, hq⟩ : ∃ q : Nat, E + 1 = (q : Int) := ⟨(E + 1).toNat, by omega⟩
          have hqk : q ≤ t.length := by omega
          have hTu := Far.mk (hT.out _ (by unfold preS; rw [if_neg (by omega), if_neg c3, if_pos c4]))
          rw [show (E + 1).toNat = q by omega] at hTu
          clear hT
          have hsz := S_size t
          have x1 : (S t).extract 0 q = S (t.take q) := by rw [S_extract, List.drop_zero]
          have x2 : (S t).extract q k = S (t.drop q) := by rw [S_extract, List.take_of_length_le (by omega)]
          have n1 : (t.take q).length = q := by rw [List.length_take]; omega
          have n2 : (t.drop q).length = t.length - q := List.length_drop
          obtain ⟨a, ha⟩ : ∃ a, t.take q = a := ⟨_, rfl⟩
          obtain ⟨b, hb2⟩ : ∃ a, t.drop q = a := ⟨_, rfl⟩
          rw [ha] at x1 n1 hTu
          rw [hb2] at x2 n2 hTu
          clear ha hb2
          have hsa := S_size a
          have hsb := S_size b
          have y1 := S_append a [46]
          have y2 := S_append (a ++ [46]) b
          have hl3 : (a ++ [46] ++ b).length = t.length + 1 := by simp; omega
          have hsy : (S (a ++ [46])).size = q + 1 := by rw [S_size]; simp; omega
          go_wp2_with fail
          go_quiet (fail)
          obtain ⟨u, hu⟩ : ∃ u, a ++ 46 :: b = u := ⟨_, rfl⟩
          rw [show a ++ [46] ++ b = a ++ 46 :: b by simp, hu] at hTu hl3 y2
          rw [hu]
          clear hu
          replace hb := Far.mk (below_drawn (n := nq) hb.out)
          have hus : (S u).size = u.length := S_size u
          have hcat := S_append g u
          have hcs : (S (g ++ u)).size = g.length + u.length := by rw [S_size, List.length_append]
          go_wp2_with fail
          with_reducible refine (ref01_Wide _ _ (by rw [hcs]; omega)).mono ?_
          rintro x w9 ⟨rfl, hb9⟩
          go_wp2_with fail
          go_ret2
          exact ⟨wide (g ++ u), _, rfl, hTu.out, hb.out.trans (hb9.mono hb.out.size)⟩
        · have hTu := Far.mk (hT.out _ (by unfold preS; rw [if_neg (by omega), if_neg c3, if_neg c4]))
          clear hT
          go_wp2_with fail
          with_reducible refine (ref_noughts (by omega)).mono ?_
          rintro x w8 ⟨rfl, rfl⟩
          obtain ⟨z, hz⟩ : ∃ z, List.replicate (-E - 1).toNat (48 : UInt8) = z := ⟨_, rfl⟩
          have hzl : z.length ≤ 6 := by rw [← hz, List.length_replicate]; omega
          rw [hz] at hTu ⊢
          clear hz
          have hz1 := S_append [48, 46] z
          have hz2 := S_append ([48, 46] ++ z) t
          have hzs : (S z).size = z.length := S_size z
          have hts : (S t).size = t.length := S_size t
          have hzz : (S ([48, 46] ++ z)).size = 2 + z.length := by rw [S_size]; simp; omega
          have hl3 : ([48, 46] ++ z ++ t).length = 2 + z.length + t.length := by simp; omega
          change (⟨#[48, 46]⟩ : ByteArray) ++ S z = _ at hz1
          obtain ⟨z2, hz3⟩ : ∃ z2, [48, 46] ++ z = z2 := ⟨_, rfl⟩
          rw [hz3] at hz1 hz2 hzz hl3 hTu
          obtain ⟨u, hu⟩ : ∃ u, z2 ++ t = u := ⟨_, rfl⟩
          rw [hu] at hTu hl3 hz2
          clear hu hz3
          have hus : (S u).size = u.length := S_size u
          have hcat := S_append g u
          have hcs : (S (g ++ u)).size = g.length + u.length := by rw [S_size, List.length_append]
          go_wp2_with fail
          with_reducible refine (ref01_Wide _ _ (by rw [hcs]; omega)).mono ?_
          rintro x w9 ⟨rfl, hb9⟩
          go_wp2_with fail
          go_ret2
          exact ⟨wide (g ++ u), _, rfl, hTu.out, hb.out.trans (hb9.mono hb.out.size)⟩
end Us
end Go.Proofs.YtdpbpdhamekcdaaGreatDoor
namespace Go.Proofs.YtdpbpdhamekcdaaGreatDoor
open Go.RowKit
namespace Us
open Nv
attribute [local go_sem] S_append S_e S_m S_size S_dot
theorem nt_Precision_out {f : Nat} {d : Int} (h : d < 1 ∨ 21 < d) (w : World) : Calls Tryz.prog 40 #[.float .f64 f, .int .i64 d] w (PreQ f d w) := by
  have hT : PreW f d [] 1 := .inl ⟨h, rfl, rfl⟩
  replace hT := Far.mk hT
  go_enter Tryz.func40, Tryz.ntmps40
  by_cases g : d < 1
  · go_wp2_with fail
    go_ret2
    exact ⟨_, _, rfl, hT.out, Below.refl _ _⟩
  · have g2 : 21 < d := by omega
    go_wp2_with fail
    go_ret2
    exact ⟨_, _, rfl, hT.out, Below.refl _ _⟩
theorem nt_Precision_text {f : Nat} (hf : f < 18446744073709551616) {d : Int} (h1 : 1 ≤ d) (h2 : d ≤ 21) (hk : nanB f = true ∨ f % 9223372036854775808 = infR) {w : World} (hTb : Tabs w) : Calls Tryz.prog 40 #[.float .f64 f, .int .i64 d] w (PreQ f d w) := by
  have hT : ∀ t, TxtW f t → PreW f d (wide t) 0 := fun t h => .inr (.inl ⟨⟨h1, h2⟩, hk, ⟨t, h, rfl⟩, rfl⟩)
  have hR := Far.mk (nt_Text_float hf hTb)
  obtain ⟨b, hb⟩ : ∃ b, nanB f = b := ⟨_, rfl⟩
  have hI := Far.mk (fun (hn : nanB f = false) W => math_IsInf0 hf (isinf_kind hn) W)
  replace hT := Far.mk hT
  go_enter Tryz.func40, Tryz.ntmps40
  cases b with
  | true =>
    clear hk hf
    go_wp2_with (go_at_call 20; refine (math_IsNaN f _).mono ?_; rintro e w' ⟨rfl, hw⟩; subst hw; rw [hb])
    with_reducible refine hR.out.mono ?_
    rintro x w3 ⟨s, hs, hl, rfl, hb3⟩
    go_wp2_with fail
    go_ret2
    exact ⟨_, _, rfl, hT.out _ hs, hb3⟩
  | false =>
    have hi : f % 9223372036854775808 = infR := by
      rcases hk with h | h
      · rw [hb] at h; cases h
      · exact h
    replace hI := Far.mk (hI.out hb)
    rw [decide_eq_true hi] at hI
    clear hk hf hi
    go_wp2_with (first
      | (go_at_call 23; go_must (with_reducible refine (hI.out _).mono ?_); rintro e w' ⟨rfl, hw⟩; replace hw := hw.symm; subst hw)
      | (go_at_call 20; refine (math_IsNaN f _).mono ?_; rintro e w' ⟨rfl, hw⟩; subst hw; rw [hb]))
    with_reducible refine hR.out.mono ?_
    rintro x w3 ⟨s, hs, hl, rfl, hb3⟩
    go_wp2_with fail
    go_ret2
    exact ⟨_, _, rfl, hT.out _ hs, hb3⟩
set_option maxRecDepth 100000 in
set_option maxHeartbeats 6400000 in
theorem nt_Precision_num {f r k : Nat} (hf : f < 18446744073709551616) (h1 : 1 ≤ k) (h2 : k ≤ 21) (hn : nanB f = false) (hi : f % 9223372036854775808 < infR) (hr : f % 9223372036854775808 = r)
    (hk : (∃ o, FloatKind.f64.format.order f 0 = some o ∧ (o = .eq ∨ o = .gt) ∧ sgnS f = [] ∧ Rung r f) ∨ (FloatKind.f64.format.order f 0 = some .lt ∧ sgnS f = [45] ∧ Rung r r ∧ ∀ W, (Op.unary .neg (.float .f64 f)).run Tryz.prog W = .ok (.float .f64 r) W)) {w : World} (hTb : Tabs w) (hTz : Tz w) : Calls Tryz.prog 40 #[.float .f64 f, .int .i64 (k : Int)] w (PreQ f (k : Int) w) := by
  have hT : ∀ t E u, PlaceR r k t E → preS k t E = u → PreW f (k : Int) (wide (sgnS f ++ u)) 0 := fun t E u h e => .inr (.inr ⟨⟨by omega, by omega⟩, (show ¬ (nanB f = true ∨ f % 9223372036854775808 = infR) from fun h => by rcases h with h | h; (rw [hn] at h; cases h); omega), ⟨t, E, by rw [hr]; exact h, by rw [← e]; rfl⟩, rfl⟩)
  have hI := Far.mk (fun W => math_IsInf0 hf (isinf_kind hn) W)
  rw [decide_eq_false (by omega)] at hI
  have hk3 := kinds3 hf hr hk
  replace hT := Far.mk hT
  have hK := Far.mk (fun W (hb : Below w.heap.size w W) => hTb.keep hb)
  have hZ := Far.mk (fun W (hb : Below w.heap.size w W) => hTz.keep hb rfl)
  clear hf hi hr hk hTb hTz
  go_enter Tryz.func40, Tryz.ntmps40
  rcases hk3 with ⟨rfl, ho, hsg⟩ | ⟨hrr, ho, hsg, rfl⟩ | ⟨hrr, ho, ho2, hsg, hneg⟩
  · rw [hsg] at hT
    go_wp2_with (first
      | (go_at_call 23; go_must (with_reducible refine (hI.out _).mono ?_); rintro e w' ⟨rfl, hw⟩; replace hw := hw.symm; subst hw)
      | (go_at_call 20; refine (math_IsNaN f _).mono ?_; rintro e w' ⟨rfl, hw⟩; subst hw; rw [hn]))
    with_reducible refine (nt_noughts (by omega) _).mono ?_
    rintro x w4 ⟨rfl, hb⟩
    replace hb := Far.mk hb
    rw [Int.toNat_natCast]
    replace hT := Far.mk (fun u => hT.out (List.replicate k 48) 0 u (.inl ⟨rfl, rfl, rfl⟩))
    have hl : (List.replicate k (48 : UInt8)).length = k := List.length_replicate
    obtain ⟨t, ht⟩ : ∃ t, List.replicate k (48 : UInt8) = t := ⟨_, rfl⟩
    rw [ht] at hl hT ⊢
    clear ht
    by_cases c3 : (0 : Int) = (k : Int) - 1
    · have hTu := Far.mk (hT.out t (by unfold preS; rw [if_neg (by omega), if_pos (by omega)]))
      clear hT
      have c5 : (k : Int) - 1 = 0 := by omega
      clear c3
      have hus : (S t).size = t.length := S_size t
      go_wp2_with fail
      with_reducible refine (ustr_Wide _ _ (by first | omega | (simp only [S_size, List.length_cons]; omega))).mono ?_
      rintro x w9 ⟨rfl, hb9⟩
      go_wp2_with fail
      go_ret2
      exact ⟨wide t, _, rfl, hTu.out, hb.out.trans (hb9.mono hb.out.size)⟩
    · have c4 : (0 : Int) ≤ 0 := by omega
      have hqk : 1 ≤ t.length := by omega
      have hTu := Far.mk (hT.out _ (by unfold preS; rw [if_neg (by omega), if_neg c3, if_pos c4]))
      rw [show ((0 : Int) + 1).toNat = 1 from rfl] at hTu
      clear hT
      have hsz := S_size t
      have x1 : (S t).extract 0 1 = S (t.take 1) := by rw [S_extract, List.drop_zero]
      have x2 : (S t).extract 1 k = S (t.drop 1) := by rw [S_extract, List.take_of_length_le (by omega)]
      have n1 : (t.take 1).length = 1 := by rw [List.length_take]; omega
      have n2 : (t.drop 1).length = t.length - 1 := List.length_drop
      obtain ⟨a, ha⟩ : ∃ a, t.take 1 = a := ⟨_, rfl⟩
      obtain ⟨b, hb2⟩ : ∃ a, t.drop 1 = a := ⟨_, rfl⟩
      rw [ha] at x1 n1 hTu
      rw [hb2] at x2 n2 hTu
      clear ha hb2
      have hsa := S_size a
      have hsb := S_size b
      have y1 := S_append a [46]
      have y2 := S_append (a ++ [46]) b
      have hl3 : (a ++ [46] ++ b).length = t.length + 1 := by simp; omega
      have hsy : (S (a ++ [46])).size = 1 + 1 := by rw [S_size]; simp; omega
      go_wp2_with fail
      go_quiet (fail)
      obtain ⟨u, hu⟩ : ∃ u, a ++ 46 :: b = u := ⟨_, rfl⟩
      rw [show a ++ [46] ++ b = a ++ 46 :: b by simp, hu] at hTu hl3 y2
      rw [hu]
      clear hu
      replace hb := Far.mk (below_drawn (n := nq) hb.out)
      have hus : (S u).size = u.length := S_size u
      go_wp2_with fail
      with_reducible refine (ustr_Wide _ _ (by first | omega | (simp only [S_size, List.length_cons]; omega))).mono ?_
      rintro x w9 ⟨rfl, hb9⟩
      go_wp2_with fail
      go_ret2
      exact ⟨wide u, _, rfl, hTu.out, hb.out.trans (hb9.mono hb.out.size)⟩
  · rw [hsg] at hT
    go_wp2_with (first
      | (go_at_call 23; go_must (with_reducible refine (hI.out _).mono ?_); rintro e w' ⟨rfl, hw⟩; replace hw := hw.symm; subst hw)
      | (go_at_call 20; refine (math_IsNaN f _).mono ?_; rintro e w' ⟨rfl, hw⟩; subst hw; rw [hn]))
    with_reducible refine (nt_noughts (by omega) _).mono ?_
    rintro x w4 ⟨rfl, hb⟩
    replace hb := Far.mk hb
    rw [Int.toNat_natCast]
    have hRo := Far.mk (fun W (hb : Below w.heap.size w W) => nt_rounded hrr.1 hrr.2 h1 (by omega) (hK.out W hb) (hZ.out W hb))
    clear hrr
    go_wp2_with fail
    with_reducible refine (hRo.out _ hb.out).mono ?_
    rintro x w5 ⟨t, E, rfl, hpr, hl, hE, hb5⟩
    replace hb := Far.mk (hb.out.trans (hb5.mono hb.out.size))
    replace hT := Far.mk (fun u => hT.out t E u hpr)
    clear hb5 hpr hRo
    by_cases c1 : E < -6
    · have hlE := expS_len t E (by omega) (by omega)
      have hTu := Far.mk (hT.out _ (by unfold preS; rw [if_pos (by omega)]))
      clear hT
      go_wp2_with fail
      with_reducible refine (nt_pointed (l := t) (e := E) (by omega) (by omega) (by omega) (hK.out _ hb.out)).mono ?_
      rintro x w8 ⟨rfl, hb8⟩
      replace hb := Far.mk (hb.out.trans (hb8.mono hb.out.size))
      clear hb8
      obtain ⟨u, hu⟩ : ∃ u, expS t E = u := ⟨_, rfl⟩
      rw [hu] at hlE hTu ⊢
      clear hu
      have hus : (S u).size = u.length := S_size u
      go_wp2_with fail
      with_reducible refine (ustr_Wide _ _ (by first | omega | (simp only [S_size, List.length_cons]; omega))).mono ?_
      rintro x w9 ⟨rfl, hb9⟩
      go_wp2_with fail
      go_ret2
      exact ⟨wide u, _, rfl, hTu.out, hb.out.trans (hb9.mono hb.out.size)⟩
    · by_cases c2 : (k : Int) ≤ E
      · have hlE := expS_len t E (by omega) (by omega)
        have hTu := Far.mk (hT.out _ (by unfold preS; rw [if_pos (by omega)]))
        clear hT
        go_wp2_with fail
        with_reducible refine (nt_pointed (l := t) (e := E) (by omega) (by omega) (by omega) (hK.out _ hb.out)).mono ?_
        rintro x w8 ⟨rfl, hb8⟩
        replace hb := Far.mk (hb.out.trans (hb8.mono hb.out.size))
        clear hb8
        obtain ⟨u, hu⟩ : ∃ u, expS t E = u := ⟨_, rfl⟩
        rw [hu] at hlE hTu ⊢
        clear hu
        have hus : (S u).size = u.length := S_size u
        go_wp2_with fail
        with_reducible refine (ustr_Wide _ _ (by first | omega | (simp only [S_size, List.length_cons]; omega))).mono ?_
        rintro x w9 ⟨rfl, hb9⟩
        go_wp2_with fail
        go_ret2
        exact ⟨wide u, _, rfl, hTu.out, hb.out.trans (hb9.mono hb.out.size)⟩
      · by_cases c3 : E = (k : Int) - 1
        · have hTu := Far.mk (hT.out t (by unfold preS; rw [if_neg (by omega), if_pos (by omega)]))
          clear hT
          obtain rfl : E = (k : Int) - 1 := by omega
          have hus : (S t).size = t.length := S_size t
          go_wp2_with fail
          with_reducible refine (ustr_Wide _ _ (by first | omega | (simp only [S_size, List.length_cons]; omega))).mono ?_
          rintro x w9 ⟨rfl, hb9⟩
          go_wp2_with fail
          go_ret2
          exact ⟨wide t, _, rfl, hTu.out, hb.out.trans (hb9.mono hb.out.size)⟩
        · by_cases c4 : 0 ≤ E
          · obtain ⟨q, hq⟩ : ∃ q : Nat, E + 1 = (q : Int) := ⟨(E + 1).toNat, by omega⟩
            have hqk : q ≤ t.length := by omega
            have hTu := Far.mk (hT.out _ (by unfold preS; rw [if_neg (by omega), if_neg c3, if_pos c4]))
            rw [show (E + 1).toNat = q by omega] at hTu
            clear hT
            have hsz := S_size t
            have x1 : (S t).extract 0 q = S (t.take q) := by rw [S_extract, List.drop_zero]
            have x2 : (S t).extract q k = S (t.drop q) := by rw [S_extract, List.take_of_length_le (by omega)]
            have n1 : (t.take q).length = q := by rw [List.length_take]; omega
            have n2 : (t.drop q).length = t.length - q := List.length_drop
            obtain ⟨a, ha⟩ : ∃ a, t.take q = a := ⟨_, rfl⟩
            obtain ⟨b, hb2⟩ : ∃ a, t.drop q = a := ⟨_, rfl⟩
            rw [ha] at x1 n1 hTu
            rw [hb2] at x2 n2 hTu
            clear ha hb2
            have hsa := S_size a
            have hsb := S_size b
            have y1 := S_append a [46]
            have y2 := S_append (a ++ [46]) b
            have hl3 : (a ++ [46] ++ b).length = t.length + 1 := by simp; omega
            have hsy : (S (a ++ [46])).size = q + 1 := by rw [S_size]; simp; omega
            go_wp2_with fail
            go_quiet (fail)
            obtain ⟨u, hu⟩ : ∃ u, a ++ 46 :: b = u := ⟨_, rfl⟩
            rw [show a ++ [46] ++ b = a ++ 46 :: b by simp, hu] at hTu hl3 y2
            rw [hu]
            clear hu
            replace hb := Far.mk (below_drawn (n := nq) hb.out)
            have hus : (S u).size = u.length := S_size u
            go_wp2_with fail
            with_reducible refine (ustr_Wide _ _ (by first | omega | (simp only [S_size, List.length_cons]; omega))).mono ?_
            rintro x w9 ⟨rfl, hb9⟩
            go_wp2_with fail
            go_ret2
            exact ⟨wide u, _, rfl, hTu.out, hb.out.trans (hb9.mono hb.out.size)⟩
          · have hTu := Far.mk (hT.out _ (by unfold preS; rw [if_neg (by omega), if_neg c3, if_neg c4]))
            clear hT
            go_wp2_with fail
            with_reducible refine (nt_noughts (by omega) _).mono ?_
            rintro x w8 ⟨rfl, hb8⟩
            replace hb := Far.mk (hb.out.trans (hb8.mono hb.out.size))
            clear hb8
            rw [show (-(E + 1)).toNat = (-E - 1).toNat by omega]
            obtain ⟨z, hz⟩ : ∃ z, List.replicate (-E - 1).toNat (48 : UInt8) = z := ⟨_, rfl⟩
            have hzl : z.length ≤ 6 := by rw [← hz, List.length_replicate]; omega
            rw [hz] at hTu ⊢
            clear hz
            have hz1 := S_append [48, 46] z
            have hz2 := S_append ([48, 46] ++ z) t
            have hzs : (S z).size = z.length := S_size z
            have hts : (S t).size = t.length := S_size t
            have hzz : (S ([48, 46] ++ z)).size = 2 + z.length := by rw [S_size]; simp; omega
            have hl3 : ([48, 46] ++ z ++ t).length = 2 + z.length + t.length := by simp; omega
            change (⟨#[48, 46]⟩ : ByteArray) ++ S z = _ at hz1
            obtain ⟨z2, hz3⟩ : ∃ z2, [48, 46] ++ z = z2 := ⟨_, rfl⟩
            rw [hz3] at hz1 hz2 hzz hl3 hTu
            obtain ⟨u, hu⟩ : ∃ u, z2 ++ t = u := ⟨_, rfl⟩
            rw [hu] at hTu hl3 hz2
            clear hu hz3
            have hus : (S u).size = u.length := S_size u
            go_wp2_with fail
            with_reducible refine (ustr_Wide _ _ (by first | omega | (simp only [S_size, List.length_cons]; omega))).mono ?_
            rintro x w9 ⟨rfl, hb9⟩
            go_wp2_with fail
            go_ret2
            exact ⟨wide u, _, rfl, hTu.out, hb.out.trans (hb9.mono hb.out.size)⟩
  · rw [hsg] at hT
    go_wp2_with (first
      | (go_at_call 23; go_must (with_reducible refine (hI.out _).mono ?_); rintro e w' ⟨rfl, hw⟩; replace hw := hw.symm; subst hw)
      | (go_at_call 20; refine (math_IsNaN f _).mono ?_; rintro e w' ⟨rfl, hw⟩; subst hw; rw [hn]))
    with_reducible refine (nt_noughts (by omega) _).mono ?_
    rintro x w4 ⟨rfl, hb⟩
    replace hb := Far.mk hb
    rw [Int.toNat_natCast]
    have hRo := Far.mk (fun W (hb : Below w.heap.size w W) => nt_rounded hrr.1 hrr.2 h1 (by omega) (hK.out W hb) (hZ.out W hb))
    clear hrr
    go_wp2_with fail
    with_reducible refine (hRo.out _ hb.out).mono ?_
    rintro x w5 ⟨t, E, rfl, hpr, hl, hE, hb5⟩
    replace hb := Far.mk (hb.out.trans (hb5.mono hb.out.size))
    replace hT := Far.mk (fun u => hT.out t E u hpr)
    clear hb5 hpr hRo
    by_cases c1 : E < -6
    · have hlE := expS_len t E (by omega) (by omega)
      have hTu := Far.mk (hT.out _ (by unfold preS; rw [if_pos (by omega)]))
      clear hT
      go_wp2_with fail
      with_reducible refine (nt_pointed (l := t) (e := E) (by omega) (by omega) (by omega) (hK.out _ hb.out)).mono ?_
      rintro x w8 ⟨rfl, hb8⟩
      replace hb := Far.mk (hb.out.trans (hb8.mono hb.out.size))
      clear hb8
      obtain ⟨u, hu⟩ : ∃ u, expS t E = u := ⟨_, rfl⟩
      rw [hu] at hlE hTu ⊢
      clear hu
      have hus : (S u).size = u.length := S_size u
      go_wp2_with fail
      with_reducible refine (ustr_Wide _ _ (by first | omega | (simp only [S_size, List.length_cons]; omega))).mono ?_
      rintro x w9 ⟨rfl, hb9⟩
      go_wp2_with fail
      go_ret2
      exact ⟨wide (45 :: u), _, rfl, hTu.out, hb.out.trans (hb9.mono hb.out.size)⟩
    · by_cases c2 : (k : Int) ≤ E
      · have hlE := expS_len t E (by omega) (by omega)
        have hTu := Far.mk (hT.out _ (by unfold preS; rw [if_pos (by omega)]))
        clear hT
        go_wp2_with fail
        with_reducible refine (nt_pointed (l := t) (e := E) (by omega) (by omega) (by omega) (hK.out _ hb.out)).mono ?_
        rintro x w8 ⟨rfl, hb8⟩
        replace hb := Far.mk (hb.out.trans (hb8.mono hb.out.size))
        clear hb8
        obtain ⟨u, hu⟩ : ∃ u, expS t E = u := ⟨_, rfl⟩
        rw [hu] at hlE hTu ⊢
        clear hu
        have hus : (S u).size = u.length := S_size u
        go_wp2_with fail
        with_reducible refine (ustr_Wide _ _ (by first | omega | (simp only [S_size, List.length_cons]; omega))).mono ?_
        rintro x w9 ⟨rfl, hb9⟩
        go_wp2_with fail
        go_ret2
        exact ⟨wide (45 :: u), _, rfl, hTu.out, hb.out.trans (hb9.mono hb.out.size)⟩
      · by_cases c3 : E = (k : Int) - 1
        · have hTu := Far.mk (hT.out t (by unfold preS; rw [if_neg (by omega), if_pos (by omega)]))
          clear hT
          obtain rfl : E = (k : Int) - 1 := by omega
          have hus : (S t).size = t.length := S_size t
          go_wp2_with fail
          with_reducible refine (ustr_Wide _ _ (by first | omega | (simp only [S_size, List.length_cons]; omega))).mono ?_
          rintro x w9 ⟨rfl, hb9⟩
          go_wp2_with fail
          go_ret2
          exact ⟨wide (45 :: t), _, rfl, hTu.out, hb.out.trans (hb9.mono hb.out.size)⟩
        · by_cases c4 : 0 ≤ E
          · obtain ⟨q, hq⟩ : ∃ q : Nat, E + 1 = (q : Int) := ⟨(E + 1).toNat, by omega⟩
            have hqk : q ≤ t.length := by omega
            have hTu := Far.mk (hT.out _ (by unfold preS; rw [if_neg (by omega), if_neg c3, if_pos c4]))
            rw [show (E + 1).toNat = q by omega] at hTu
            clear hT
            have hsz := S_size t
            have x1 : (S t).extract 0 q = S (t.take q) := by rw [S_extract, List.drop_zero]
            have x2 : (S t).extract q k = S (t.drop q) := by rw [S_extract, List.take_of_length_le (by omega)]
            have n1 : (t.take q).length = q := by rw [List.length_take]; omega
            have n2 : (t.drop q).length = t.length - q := List.length_drop
            obtain ⟨a, ha⟩ : ∃ a, t.take q = a := ⟨_, rfl⟩
            obtain ⟨b, hb2⟩ : ∃ a, t.drop q = a := ⟨_, rfl⟩
            rw [ha] at x1 n1 hTu
            rw [hb2] at x2 n2 hTu
            clear ha hb2
            have hsa := S_size a
            have hsb := S_size b
            have y1 := S_append a [46]
            have y2 := S_append (a ++ [46]) b
            have hl3 : (a ++ [46] ++ b).length = t.length + 1 := by simp; omega
            have hsy : (S (a ++ [46])).size = q + 1 := by rw [S_size]; simp; omega
            go_wp2_with fail
            go_quiet (fail)
            obtain ⟨u, hu⟩ : ∃ u, a ++ 46 :: b = u := ⟨_, rfl⟩
            rw [show a ++ [46] ++ b = a ++ 46 :: b by simp, hu] at hTu hl3 y2
            rw [hu]
            clear hu
            replace hb := Far.mk (below_drawn (n := nq) hb.out)
            have hus : (S u).size = u.length := S_size u
            go_wp2_with fail
            with_reducible refine (ustr_Wide _ _ (by first | omega | (simp only [S_size, List.length_cons]; omega))).mono ?_
            rintro x w9 ⟨rfl, hb9⟩
            go_wp2_with fail
            go_ret2
            exact ⟨wide (45 :: u), _, rfl, hTu.out, hb.out.trans (hb9.mono hb.out.size)⟩
          · have hTu := Far.mk (hT.out _ (by unfold preS; rw [if_neg (by omega), if_neg c3, if_neg c4]))
            clear hT
            go_wp2_with fail
            with_reducible refine (nt_noughts (by omega) _).mono ?_
            rintro x w8 ⟨rfl, hb8⟩
            replace hb := Far.mk (hb.out.trans (hb8.mono hb.out.size))
            clear hb8
            rw [show (-(E + 1)).toNat = (-E - 1).toNat by omega]
            obtain ⟨z, hz⟩ : ∃ z, List.replicate (-E - 1).toNat (48 : UInt8) = z := ⟨_, rfl⟩
            have hzl : z.length ≤ 6 := by rw [← hz, List.length_replicate]; omega
            rw [hz] at hTu ⊢
            clear hz
            have hz1 := S_append [48, 46] z
            have hz2 := S_append ([48, 46] ++ z) t
            have hzs : (S z).size = z.length := S_size z
            have hts : (S t).size = t.length := S_size t
            have hzz : (S ([48, 46] ++ z)).size = 2 + z.length := by rw [S_size]; simp; omega
            have hl3 : ([48, 46] ++ z ++ t).length = 2 + z.length + t.length := by simp; omega
            change (⟨#[48, 46]⟩ : ByteArray) ++ S z = _ at hz1
            obtain ⟨z2, hz3⟩ : ∃ z2, [48, 46] ++ z = z2 := ⟨_, rfl⟩
            rw [hz3] at hz1 hz2 hzz hl3 hTu
            obtain ⟨u, hu⟩ : ∃ u, z2 ++ t = u := ⟨_, rfl⟩
            rw [hu] at hTu hl3 hz2
            clear hu hz3
            have hus : (S u).size = u.length := S_size u
            go_wp2_with fail
            with_reducible refine (ustr_Wide _ _ (by first | omega | (simp only [S_size, List.length_cons]; omega))).mono ?_
            rintro x w9 ⟨rfl, hb9⟩
            go_wp2_with fail
            go_ret2
            exact ⟨wide (45 :: u), _, rfl, hTu.out, hb.out.trans (hb9.mono hb.out.size)⟩
theorem nt_Precision {f : Nat} {d : Int} (hf : f < 18446744073709551616) {w : World} (hTb : Tabs w) (hTz : Tz w) : Calls Tryz.prog 40 #[.float .f64 f, .int .i64 d] w (PreQ f d w) := by
  by_cases g : d < 1 ∨ 21 < d
  · exact nt_Precision_out g w
  · by_cases g2 : nanB f = true ∨ f % 9223372036854775808 = infR
    · exact nt_Precision_text hf (by omega) (by omega) g2 hTb
    · rcases kinds hf with h | ⟨h, h'⟩ | ⟨h, h', hk⟩
      · exact (g2 (.inl h)).elim
      · exact (g2 (.inr h')).elim
      · obtain ⟨k, rfl⟩ : ∃ k : Nat, d = k := ⟨d.toNat, by omega⟩
        exact nt_Precision_num hf (by omega) (by omega) h h' rfl hk hTb hTz
theorem ref_Precision {f : Nat} {d : Int} (hf : f < 18446744073709551616) {w : World} : Calls Tryz.prog 43 #[.float .f64 f, .int .i64 d] w (PreQ f d w) := by
  by_cases g : d < 1 ∨ 21 < d
  · exact ref_Precision_out g w
  · by_cases g2 : nanB f = true ∨ f % 9223372036854775808 = infR
    · exact ref_Precision_text hf (by omega) (by omega) g2
    · rcases kinds hf with h | ⟨h, h'⟩ | ⟨h, h', hk⟩
      · exact (g2 (.inl h)).elim
      · exact (g2 (.inr h')).elim
      · obtain ⟨k, rfl⟩ : ∃ k : Nat, d = k := ⟨d.toNat, by omega⟩
        exact ref_Precision_num hf (by omega) (by omega) h h' rfl hk
end Us
end Go.Proofs.YtdpbpdhamekcdaaGreatDoor
namespace Go.Proofs.YtdpbpdhamekcdaaGreatDoor
open Go.RowKit
namespace Us
open Nv

theorem num_of {t : List UInt8} {V : Nat} {j : Int} (h : ToldN t V j) {w : World} (hR : Rdt w) (hT : Tabs w) : Calls Tryz.prog 13 #[.string (S (wide t))] w (NumQ V j w) := by
  obtain ⟨W, P, pt, ex, rfl, h1, h2, h3, h4, h5, h6⟩ := h.ex
  refine (nt_Number_dec h1 h2 h3 h4 hR hT h5).mono ?_
  rintro x w' ⟨R, rfl, hr, hb⟩
  exact ⟨R, rfl, h6 R hr, hb⟩
/-- What Precision writes is a decimal. -/
theorem pre_told {t : List UInt8} (h : Dg t) {E : Int} (he1 : -360 ≤ E) (he2 : E ≤ 360) : ToldN (preS t.length t E) (valL t) (E - (t.length : Int) + 1) := by
  have h1 := h.one
  unfold preS
  split
  · exact form_exp h (by omega) (by omega)
  · rename_i g1
    split
    · rename_i g2
      rw [show E - (t.length : Int) + 1 = 0 by omega]
      exact form_plain h
    · split
      · rename_i g2 g3
        have := form_pt h (m := (E + 1).toNat) (by omega) (by omega)
        rw [show (((E + 1).toNat : Nat) : Int) - (t.length : Int) = E - (t.length : Int) + 1 by omega] at this
        exact this
      · rename_i g2 g3
        have := form_zero h (m := (-E - 1).toNat) (by omega)
        rw [show -((((-E - 1).toNat : Nat) : Int) + (t.length : Int)) = E - (t.length : Int) + 1 by omega] at this
        exact this
theorem le_up {r : Nat} {m n : Int} (h : ¬ Le r 1 m) (hmn : m ≤ n) : ¬ Le r 1 n := by
  intro hh
  obtain ⟨u, rfl⟩ : ∃ u : Nat, n = m + u := ⟨(n - m).toNat, by omega⟩
  have := (le_pow r 1 m u).2 hh
  exact h (this.mono (by rw [Nat.one_mul]; exact Nat.pow_pos (by decide)))
/-- The places of fewer digits are higher ones. -/
theorem few_top {r c : Nat} {j m E : Int} {i : Nat} (h1 : 1 ≤ r) (hs : Short r c j) (hm : ¬ Le r 1 m) (hE : m - 1 ≤ E) (hi1 : 1 ≤ i) (hi2 : i < (digs 10 c).length) : j < E - (i : Int) + 1 := by
  rcases Int.lt_or_le j (E - (i : Int) + 1) with g | g
  · exact g
  · exfalso
    have hc := hs.pos
    have h17 := short17 h1 hs
    have hD : Dg (digs 10 c) := ⟨digs_D, digs_first hc, digs_pos c, digs17 h17⟩
    have hge := hD.ge
    rw [valL_digs] at hge
    obtain ⟨k, hk⟩ : ∃ k, (digs 10 c).length = k + 1 := ⟨(digs 10 c).length - 1, by omega⟩
    rw [hk, Nat.add_sub_cancel] at hge
    have hn : ¬ Le r (10 ^ k) j := by
      have h2 := le_up hm (show m ≤ j + k by omega)
      rw [← le_pow, Nat.one_mul] at h2
      exact h2
    have hin := in_down h1 hs.inn hge hn
    have hnear := hs.near _ hin
    have hd1 := dv_le hge j
    unfold Le at hn
    rw [dst_above (by omega), dst_above (by omega)] at hnear
    have heq : dv c j = dv (10 ^ k) j := by omega
    have hcc : c = 10 ^ k := by
      rcases Nat.lt_or_eq_of_le hge with g2 | g2
      · exfalso
        have h3 := dv_le g2 j
        have h4 := dv_succ (10 ^ k) j
        have h5 := dv1_pos j
        have h6 : dv (10 ^ k).succ j = dv (10 ^ k + 1) j := rfl
        omega
      · exact g2.symm
    have h10 := hs.odd10
    rw [hcc, show k = (k - 1) + 1 by omega, Nat.pow_succ] at h10
    omega
/-- Fewer digits are another float's. -/
theorem few_not {r c : Nat} {j : Int} {i : Nat} {t : List UInt8} {E : Int} (h1 : 1 ≤ r) (h2 : r < infR) (hs : Short r c j) (hi1 : 1 ≤ i) (hi2 : i < (digs 10 c).length) (hp : PlaceR r i t E) :
    ToldN (preS i t E) (valL t) (E - (i : Int) + 1) ∧ ∀ R, Rnd R (valL t * hiP (E - (i : Int) + 1) * tiny) (loQ (E - (i : Int) + 1)) → R ≠ r := by
  have h17 := digs17 (short17 h1 hs)
  obtain ⟨hl, -, -⟩ := hp.len hi1 h2
  rcases hp with ⟨h0, -⟩ | ⟨-, m, P, D, hm, hf, hcut⟩
  · omega
  · obtain ⟨b1, b2⟩ := rh_bounds hi1 hm.1 hm.2 hf
    obtain ⟨k1, k2, k3⟩ := cutS_len hi1 b1 (m - 1)
    rw [← hcut] at k1 k2 k3
    obtain ⟨n', a', b', c', d'⟩ := pt_of h1 h2
    obtain rfl := pt_one a' b' hm.1 hm.2
    have k2' : n' - 1 ≤ E := k2
    have k3' : E ≤ n' - 1 + 1 := k3
    have hq : 0 < rh P D := Nat.lt_of_lt_of_le (Nat.pow_pos (by decide)) b1
    have hD : Dg t := by
      have ht : t = (cutS i (digs 10 (rh P D)) (n' - 1)).1 := congrArg Prod.fst hcut
      have hdd : ∀ b ∈ t, isD b = true := by
        rw [ht]
        unfold cutS
        split
        · exact fun b hb => digs_D b (List.mem_of_mem_take hb)
        · exact digs_D
      refine ⟨hdd, ?_, by omega, by omega⟩
      rw [ht]
      unfold cutS
      split
      · show ((digs 10 (rh P D)).take i).head? ≠ some 48
        rw [List.head?_take, if_neg (by omega)]
        exact digs_first hq
      · exact digs_first hq
    constructor
    · have := pre_told hD (E := E) (by omega) (by omega)
      rw [hl] at this
      exact this
    · intro R hR hRr
      rw [hRr] at hR
      have hin := (in_rnd h2).2 hR
      have ht := hs.top _ _ hin
      have := few_top h1 hs hm.2 k2' hi1 hi2
      omega
theorem ref01_Len {l : List UInt8} (hl : l.length ≤ 100000) (w : World) : Calls Tryz.prog 39 #[.string (S (wide l))] w fun e w' => e = .returned (.int .i64 (l.length : Int)) ∧ w' = w := by
  have hsz : (S (wide l)).size = 2 * l.length := by rw [S_size, wide_length]
  generalize S (wide l) = s at *
  go_enter Tryz.func39, Tryz.ntmps39
  go_wp2_with fail
  go_ret
  exact ⟨by first | rfl | (congr 2; omega), rfl⟩
theorem digs_step {n : Nat} (h : 9 < n) : digs 10 n = digs 10 (n / 10) ++ [dg (n % 10)] := by
  unfold digs
  rw [if_neg (by omega), if_neg (by omega), rdigs_pos (by decide) (by omega), List.reverse_cons]
theorem digs_last {n : Nat} (h : n ≤ 9) : digs 10 n = [dg n] := by
  unfold digs
  split
  · rename_i h0
    subst h0
    rfl
  · rw [rdigs_pos (by decide) (by omega), show n / 10 = 0 by omega, rdigs_zero, show n % 10 = n by omega]
    rfl
/-- One byte, turned into a text. -/
theorem conv_byte {x : Nat} (hx : x < 10) (w : World) : (convert 51 9 (.slice (some ⟨w.heap.size, 0, none⟩) 1 1)).run Tryz.prog (w.alloc (.cells #[.int .u8 (48 + (x : Int))] 5)) = .ok (.string (S [dg x])) (w.alloc (.cells #[.int .u8 (48 + (x : Int))] 5)) := by
  refine run_convert_bytes_back (P := Tryz.prog) (w.alloc (.cells #[.int .u8 (48 + (x : Int))] 5)) 51 9 5 ⟨w.heap.size, 0, none⟩ 1 [dg x] Tryz.underlying51 Tryz.underlying5 Tryz.underlying9 fun j hj => ?_
  obtain rfl : j = 0 := by simpa using hj
  have h := (HasB.new w #[.int .u8 (48 + (x : Int))] 5).cell 0
  have e : ((dg x).toNat : Int) = 48 + (x : Int) := by rw [dg_dec hx]; omega
  show _ = some (Value.int .u8 ((dg x).toNat : Int))
  rw [e]
  exact h
set_option maxRecDepth 100000 in
theorem law_digits {n : Nat} (hn : n < 4294967296) (w : World) : Calls Tryz.prog 12 #[.int .u32 (n : Int)] w fun e w' => e = .returned (.string (S (digs 10 n))) ∧ Below w.heap.size w w' := by
  go_enter Tryz.func12, Tryz.ntmps12
  go_wp2_with fail
  go_loopg [0, 3] n (fun M v x wr => ∃ t : List UInt8, v = .int .u32 (M : Int) ∧ x = .string (S t) ∧ M < 4294967296 ∧ Far (digs 10 M ++ t = digs 10 n) ∧ Below w.heap.size w wr)
  case atStart => exact ⟨[], rfl, rfl, hn, ⟨List.append_nil _⟩, Below.refl _ _⟩
  case round =>
    obtain ⟨t, rfl, rfl, hgk, hd, hb⟩ := hrel
    have htl : t.length ≤ 32 := by
      have h := congrArg List.length hd.out
      rw [List.length_append] at h
      have := Nv.digs_len hn
      omega
    have hsz := S_size t
    by_cases h9 : 9 < gk
    · have h9' : (9 : Int) < (gk : Int) := by omega
      have hm : ((gk : Int) % 10) = ((gk % 10 : Nat) : Int) := by omega
      have hcv := conv_byte (x := gk % 10) (by omega) wr
      rw [← hm] at hcv
      have hsd := S_size [dg (gk % 10)]
      have hap := S_append [dg (gk % 10)] t
      rw [show [dg (gk % 10)].length = 1 from rfl] at hsd
      have hd' : Far (digs 10 (gk / 10) ++ ([dg (gk % 10)] ++ t) = digs 10 n) := ⟨by rw [← List.append_assoc, ← digs_step h9]; exact hd.out⟩
      clear hd hm
      go_wp2_with fail
      go_roundg (gk / 10)
      case measure => omega
      case rel => first | exact ⟨[dg (gk % 10)] ++ t, by first | rfl | (congr 1; omega), rfl, by omega, hd', hb.alloc hb.size _⟩ | ((repeat apply Exists.intro); exact ⟨⟨[dg (gk % 10)] ++ t, by first | rfl | (congr 1; omega), rfl, by omega, hd', hb.alloc hb.size _⟩, rfl⟩)
    · have h9' : ¬ (9 : Int) < (gk : Int) := by omega
      have hcv := conv_byte (x := gk) (by omega) wr
      have hsd := S_size [dg gk]
      have hap := S_append [dg gk] t
      rw [show [dg gk].length = 1 from rfl] at hsd
      have hd' : Far ([dg gk] ++ t = digs 10 n) := ⟨by rw [← digs_last (by omega)]; exact hd.out⟩
      clear hd
      go_wp2_with fail
      go_ret
      refine ⟨?_, hb.alloc hb.size _⟩
      rw [← hd'.out]
      rfl
end Us
end Go.Proofs.YtdpbpdhamekcdaaGreatDoor
