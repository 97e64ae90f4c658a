/-
  What numtext.Float tells of decimals of either sign and of texts that are none; what numtext.Number tells of texts that are none. Conditions: the laid variables have their values; strconv's product is sharp at the digits; the point stands no more than 400 places away.
-/
import Derived.Test.YtdpbpdhamekcdaaGreatDoorBaM20
namespace Go.Proofs.YtdpbpdhamekcdaaGreatDoor
open Go.RowKit
namespace Us
open Nv

theorem conv_one (w : World) : (convert 24 3 (.float .f64 4607182418800017408)).run Tryz.prog w = .ok (.int .i64 1) w := by kernel_rfl
theorem conv_minus (w : World) : (convert 24 3 (.float .f64 13830554455654793216)).run Tryz.prog w = .ok (.int .i64 (-1)) w := by kernel_rfl
attribute [local go_sem] conv_one conv_minus
set_option maxRecDepth 100000 in
theorem nt_Float_dec {W P : List UInt8} {pt : Bool} {ex} (h : IsDec W P pt ex) (hW : W ≠ []) (hl : (ownS W P pt ++ exS ex).length ≤ 999) {w : World} (hR : Rdt w) (hT : Tabs w)
    (ha : (W ++ P).dropWhile (· == 48) ≠ [] → -400 ≤ atOf W P ex ∧ atOf W P ex ≤ 400 ∧ Sharp ((W ++ P).dropWhile (· == 48)) (atOf W P ex)) :
    Calls Tryz.prog 25 #[.string (S (wide (ownS W P pt ++ exS ex)))] w (NumQ (valL (W ++ P)) (exN ex - (P.length : Int)) w) := by
  have hF : Far (∀ W0, Below w.heap.size w W0 → Calls Tryz.prog 51 #[.string (S (ownS W P pt ++ exS ex))] W0 (NumQ (valL (W ++ P)) (exN ex - (P.length : Int)) W0)) := ⟨fun W0 hb => nt_float h (hR.keep hb) (hT.keep hb) ha⟩
  have hD := decN_own h
  obtain ⟨b, r, ht, hb⟩ := dec_first h hW
  have hr := dec_range h
  generalize exN ex - (P.length : Int) = p at *
  generalize valL (W ++ P) = V at *
  generalize ownS W P pt ++ exS ex = t at *
  have hb2 := isD_iff.1 hb
  have h0 : t[0]? = some b := by rw [ht]; rfl
  have ht1 : 1 ≤ t.length := by rw [ht]; simp
  have hr2 : ∀ b ∈ t, b.toNat ≤ 127 := by
    intro b hb
    exact (hr b hb).2
  have hAh := Far.mk (nt_ahead (l := t) (by omega) h0 (by omega))
  have hNa := Far.mk (nt_narrow (l := t) (by omega) (by omega) hr2)
  have hS := Far.mk (nt_signed_none (l := t) (by omega) h0 (by rintro rfl; simp at hb2) (by rintro rfl; simp at hb2))
  have hPr : Far (∀ W0, Calls Tryz.prog 63 #[.string (S t), .string ⟨#[73, 110, 102, 105, 110, 105, 116, 121]⟩] W0 fun e w' => e = .returned (.bool false) ∧ w' = W0) := ⟨fun W0 => by
    have := strings_HasPrefix (S t) ⟨#[73, 110, 102, 105, 110, 105, 116, 121]⟩ W0
    rw [S_lst, ht] at this
    have e : Lib.hasPrefix (b :: r) (⟨#[73, 110, 102, 105, 110, 105, 116, 121]⟩ : ByteArray).data.toList = false := by
      show ((73 : UInt8) == b && _) = false
      rw [beq_eq_false_iff_ne.2 (show (73 : UInt8) ≠ b by rintro rfl; simp at hb2)]
      rfl
    rw [e] at this
    rw [ht]
    exact this⟩
  have hDc := nt_decimal (l := t) (by omega)
  rw [hD] at hDc
  replace hDc := Far.mk hDc
  have hsz := S_size t
  have hxt : (S t).extract 0 t.length = S t := by rw [S_extract, List.drop_zero, List.take_length]
  have hz : ((t.length : Int) == 0) = false := beq_eq_false_iff_ne.2 (by omega)
  clear h hW ha hR hT hD hb hb2 h0 ht hr hr2
  generalize S (wide (t)) = s0 at *
  unfold NumQ
  go_enter Tryz.func25, Tryz.ntmps25
  go_wp2_with fail
  with_reducible refine (hAh.out _).mono ?_
  rintro e w1 ⟨rfl, hb1⟩
  go_wp2_with fail
  with_reducible refine (hNa.out _).mono ?_
  rintro e w2 ⟨rfl, hb2⟩
  replace hb2 := hb1.trans (hb2.mono hb1.size)
  clear hb1
  go_wp2_with fail
  with_reducible refine (hS.out _).mono ?_
  rintro e w' ⟨rfl, hw⟩
  replace hw := hw.symm
  subst hw
  go_wp2_with fail
  with_reducible refine (hPr.out _).mono ?_
  rintro e w' ⟨rfl, hw⟩
  replace hw := hw.symm
  subst hw
  go_wp2_with fail
  with_reducible refine (hDc.out _).mono ?_
  rintro e w' ⟨rfl, hw⟩
  replace hw := hw.symm
  subst hw
  go_wp2_with fail
  with_reducible refine (hF.out _ hb2).mono ?_
  rintro e w3 ⟨R, rfl, hr, hb3⟩
  replace hb3 := hb2.trans (hb3.mono hb2.size)
  have hmr := run_fmul (one_mul_rung hr.1) 24
  replace hr := Far.mk hr
  clear hb2
  go_wp2_with fail
  go_ret
  exact ⟨R, rfl, hr.out, hb3⟩
set_option maxRecDepth 100000 in
theorem nt_Float_neg {W P : List UInt8} {pt : Bool} {ex} (h : IsDec W P pt ex) (hW : W ≠ []) (hl : (ownS W P pt ++ exS ex).length ≤ 999) {w : World} (hR : Rdt w) (hT : Tabs w)
    (ha : (W ++ P).dropWhile (· == 48) ≠ [] → -400 ≤ atOf W P ex ∧ atOf W P ex ≤ 400 ∧ Sharp ((W ++ P).dropWhile (· == 48)) (atOf W P ex)) (hfin : ∀ R, Rnd R (valL (W ++ P) * hiP (exN ex - (P.length : Int)) * tiny) (loQ (exN ex - (P.length : Int))) → R < infR) :
    Calls Tryz.prog 25 #[.string (S (wide (45 :: (ownS W P pt ++ exS ex))))] w (NegQ (valL (W ++ P)) (exN ex - (P.length : Int)) w) := by
  have hF : Far (∀ W0, Below w.heap.size w W0 → Calls Tryz.prog 51 #[.string (S (ownS W P pt ++ exS ex))] W0 (NumQ (valL (W ++ P)) (exN ex - (P.length : Int)) W0)) := ⟨fun W0 hb => nt_float h (hR.keep hb) (hT.keep hb) ha⟩
  have hD := decN_own h
  obtain ⟨b, r, ht, hb⟩ := dec_first h hW
  have hr := dec_range h
  generalize exN ex - (P.length : Int) = p at *
  generalize valL (W ++ P) = V at *
  generalize ownS W P pt ++ exS ex = t at *
  have hb2 := isD_iff.1 hb
  have h0 : t[0]? = some b := by rw [ht]; rfl
  have ht1 : 1 ≤ t.length := by rw [ht]; simp
  have hr2 : ∀ b ∈ 45 :: t, b.toNat ≤ 127 := by
    intro b hb
    rcases List.mem_cons.1 hb with hb | hb
    · subst hb
      decide
    · exact (hr b hb).2
  have hAh := Far.mk (nt_ahead (l := 45 :: t) (by simp; omega) (b := 45) rfl (by decide))
  have hNa := Far.mk (nt_narrow (l := 45 :: t) (by simp) (by simp; omega) hr2)
  have hS := Far.mk (nt_signed_minus (l := t) (by omega))
  have hPr : Far (∀ W0, Calls Tryz.prog 63 #[.string (S t), .string ⟨#[73, 110, 102, 105, 110, 105, 116, 121]⟩] W0 fun e w' => e = .returned (.bool false) ∧ w' = W0) := ⟨fun W0 => by
    have := strings_HasPrefix (S t) ⟨#[73, 110, 102, 105, 110, 105, 116, 121]⟩ W0
    rw [S_lst, ht] at this
    have e : Lib.hasPrefix (b :: r) (⟨#[73, 110, 102, 105, 110, 105, 116, 121]⟩ : ByteArray).data.toList = false := by
      show ((73 : UInt8) == b && _) = false
      rw [beq_eq_false_iff_ne.2 (show (73 : UInt8) ≠ b by rintro rfl; simp at hb2)]
      rfl
    rw [e] at this
    rw [ht]
    exact this⟩
  have hDc := nt_decimal (l := t) (by omega)
  rw [hD] at hDc
  replace hDc := Far.mk hDc
  have hsz := S_size t
  have hxt : (S t).extract 0 t.length = S t := by rw [S_extract, List.drop_zero, List.take_length]
  have hz : ((t.length : Int) == 0) = false := beq_eq_false_iff_ne.2 (by omega)
  replace hfin := Far.mk hfin
  clear h hW ha hR hT hD hb hb2 h0 ht hr hr2
  generalize S (wide (45 :: t)) = s0 at *
  generalize S (45 :: t) = s1 at *
  unfold NegQ
  go_enter Tryz.func25, Tryz.ntmps25
  go_wp2_with fail
  with_reducible refine (hAh.out _).mono ?_
  rintro e w1 ⟨rfl, hb1⟩
  go_wp2_with fail
  with_reducible refine (hNa.out _).mono ?_
  rintro e w2 ⟨rfl, hb2⟩
  replace hb2 := hb1.trans (hb2.mono hb1.size)
  clear hb1
  go_wp2_with fail
  with_reducible refine (hS.out _).mono ?_
  rintro e w' ⟨rfl, hw⟩
  replace hw := hw.symm
  subst hw
  go_wp2_with fail
  with_reducible refine (hPr.out _).mono ?_
  rintro e w' ⟨rfl, hw⟩
  replace hw := hw.symm
  subst hw
  go_wp2_with fail
  with_reducible refine (hDc.out _).mono ?_
  rintro e w' ⟨rfl, hw⟩
  replace hw := hw.symm
  subst hw
  go_wp2_with fail
  with_reducible refine (hF.out _ hb2).mono ?_
  rintro e w3 ⟨R, rfl, hr, hb3⟩
  replace hb3 := hb2.trans (hb3.mono hb2.size)
  have hmr := run_fmul (neg_mul_rung (hfin.out R hr)) 24
  replace hr := Far.mk hr
  clear hb2
  go_wp2_with fail
  go_ret
  exact ⟨R, rfl, hr.out, hb3⟩
set_option maxRecDepth 100000 in
theorem nt_Number_nan (w : World) : Calls Tryz.prog 13 #[.string (S (wide [78, 97, 78]))] w fun x w' => x = .returned (.float .f64 qnan) ∧ Below w.heap.size w w' := by
  have hTr := Far.mk (ustr_Trim (l := [78, 97, 78]) ⟨by decide, by decide⟩)
  have hNa := Far.mk (nt_narrow (l := [78, 97, 78]) (by decide) (by decide) (by decide))
  have hH := Far.mk (nt_hex_no (l := [78, 97, 78]) (by decide) (.inr (.inl (by decide))))
  have hS := Far.mk (nt_signed_none (l := [78, 97, 78]) (b := 78) (by decide) rfl (by decide) (by decide))
  have hDc := nt_decimal (l := [78, 97, 78]) (by decide)
  rw [decN_none (l := [78, 97, 78]) (by intro b hb; obtain rfl := Option.some.inj hb; decide)] at hDc
  replace hDc := Far.mk hDc
  have hNn := Far.mk nt_nan
  have he : (S [78, 97, 78]).toList.isEmpty = false := by rw [Lib.toList_data, S_lst]; rfl
  have hInf : ((S [78, 97, 78]).toList == [73, 110, 102, 105, 110, 105, 116, 121]) = false := by rw [Lib.toList_data, S_lst]; rfl
  have hsz := S_size [78, 97, 78]
  rw [show ([78, 97, 78] : List UInt8).length = 3 from rfl] at hsz
  generalize S (wide [78, 97, 78]) = s0 at *
  generalize S [78, 97, 78] = s2 at *
  go_enter Tryz.func13, Tryz.ntmps13
  go_wp2_with fail
  with_reducible refine (hTr.out _).mono ?_
  rintro e w1 ⟨rfl, hb1⟩
  go_wp2_with fail
  with_reducible refine (hNa.out _).mono ?_
  rintro e w2 ⟨rfl, hb2⟩
  replace hb2 := hb1.trans (hb2.mono hb1.size)
  clear hb1
  go_wp2_with fail
  with_reducible refine (hH.out _).mono ?_
  rintro e w' ⟨rfl, hw⟩
  replace hw := hw.symm
  subst hw
  go_wp2_with fail
  with_reducible refine (hS.out _).mono ?_
  rintro e w' ⟨rfl, hw⟩
  replace hw := hw.symm
  subst hw
  go_wp2_with fail
  with_reducible refine (hDc.out _).mono ?_
  rintro e w' ⟨rfl, hw⟩
  replace hw := hw.symm
  subst hw
  go_wp2_with fail
  with_reducible refine (hNn.out _).mono ?_
  rintro e w' ⟨rfl, hw⟩
  replace hw := hw.symm
  subst hw
  go_wp2_with fail
  go_ret
  exact ⟨rfl, hb2⟩
set_option maxRecDepth 100000 in
theorem nt_Float_nan (w : World) : Calls Tryz.prog 25 #[.string (S (wide [78, 97, 78]))] w fun x w' => x = .returned (.float .f64 qnan) ∧ Below w.heap.size w w' := by
  have hAh := Far.mk (nt_ahead (l := [78, 97, 78]) (by decide) (b := 78) rfl (by decide))
  have hNa := Far.mk (nt_narrow (l := [78, 97, 78]) (by decide) (by decide) (by decide))
  have hS := Far.mk (nt_signed_none (l := [78, 97, 78]) (b := 78) (by decide) rfl (by decide) (by decide))
  have hPr : Far (∀ W0, Calls Tryz.prog 63 #[.string (S [78, 97, 78]), .string ⟨#[73, 110, 102, 105, 110, 105, 116, 121]⟩] W0 fun e w' => e = .returned (.bool false) ∧ w' = W0) := ⟨fun W0 => strings_HasPrefix (S [78, 97, 78]) ⟨#[73, 110, 102, 105, 110, 105, 116, 121]⟩ W0⟩
  have hDc := nt_decimal (l := [78, 97, 78]) (by decide)
  rw [decN_none (l := [78, 97, 78]) (by intro b hb; obtain rfl := Option.some.inj hb; decide)] at hDc
  replace hDc := Far.mk hDc
  have hNn := Far.mk nt_nan
  generalize S (wide [78, 97, 78]) = s0 at *
  generalize S [78, 97, 78] = s2 at *
  go_enter Tryz.func25, Tryz.ntmps25
  go_wp2_with fail
  with_reducible refine (hAh.out _).mono ?_
  rintro e w1 ⟨rfl, hb1⟩
  go_wp2_with fail
  with_reducible refine (hNa.out _).mono ?_
  rintro e w2 ⟨rfl, hb2⟩
  replace hb2 := hb1.trans (hb2.mono hb1.size)
  clear hb1
  go_wp2_with fail
  with_reducible refine (hS.out _).mono ?_
  rintro e w' ⟨rfl, hw⟩
  replace hw := hw.symm
  subst hw
  go_wp2_with fail
  with_reducible refine (hPr.out _).mono ?_
  rintro e w' ⟨rfl, hw⟩
  replace hw := hw.symm
  subst hw
  go_wp2_with fail
  with_reducible refine (hDc.out _).mono ?_
  rintro e w' ⟨rfl, hw⟩
  replace hw := hw.symm
  subst hw
  go_wp2_with fail
  with_reducible refine (hNn.out _).mono ?_
  rintro e w' ⟨rfl, hw⟩
  replace hw := hw.symm
  subst hw
  go_wp2_with fail
  go_ret
  exact ⟨rfl, hb2⟩
set_option maxRecDepth 100000 in
theorem nt_Number_inf (w : World) : Calls Tryz.prog 13 #[.string (S (wide [73, 110, 102, 105, 110, 105, 116, 121]))] w fun x w' => x = .returned (.float .f64 infR) ∧ Below w.heap.size w w' := by
  have hTr := Far.mk (ustr_Trim (l := [73, 110, 102, 105, 110, 105, 116, 121]) ⟨by decide, by decide⟩)
  have hNa := Far.mk (nt_narrow (l := [73, 110, 102, 105, 110, 105, 116, 121]) (by decide) (by decide) (by decide))
  have hH := Far.mk (nt_hex_no (l := [73, 110, 102, 105, 110, 105, 116, 121]) (by decide) (.inr (.inl (by decide))))
  have hS := Far.mk (nt_signed_none (l := [73, 110, 102, 105, 110, 105, 116, 121]) (b := 73) (by decide) rfl (by decide) (by decide))
  have he : (S [73, 110, 102, 105, 110, 105, 116, 121]).toList.isEmpty = false := by rw [Lib.toList_data, S_lst]; rfl
  have hInf : ((S [73, 110, 102, 105, 110, 105, 116, 121]).toList == [73, 110, 102, 105, 110, 105, 116, 121]) = true := by rw [Lib.toList_data, S_lst]; rfl
  have hsz := S_size [73, 110, 102, 105, 110, 105, 116, 121]
  rw [show ([73, 110, 102, 105, 110, 105, 116, 121] : List UInt8).length = 8 from rfl] at hsz
  generalize S (wide [73, 110, 102, 105, 110, 105, 116, 121]) = s0 at *
  generalize S [73, 110, 102, 105, 110, 105, 116, 121] = s2 at *
  go_enter Tryz.func13, Tryz.ntmps13
  go_wp2_with fail
  with_reducible refine (hTr.out _).mono ?_
  rintro e w1 ⟨rfl, hb1⟩
  go_wp2_with fail
  with_reducible refine (hNa.out _).mono ?_
  rintro e w2 ⟨rfl, hb2⟩
  replace hb2 := hb1.trans (hb2.mono hb1.size)
  clear hb1
  go_wp2_with fail
  with_reducible refine (hH.out _).mono ?_
  rintro e w' ⟨rfl, hw⟩
  replace hw := hw.symm
  subst hw
  go_wp2_with fail
  with_reducible refine (hS.out _).mono ?_
  rintro e w' ⟨rfl, hw⟩
  replace hw := hw.symm
  subst hw
  go_wp2_with fail
  with_reducible refine (math_Inf1 _).mono ?_
  rintro e w' ⟨rfl, hw⟩
  replace hw := hw.symm
  subst hw
  go_wp2_with fail
  go_ret
  exact ⟨rfl, hb2⟩
set_option maxRecDepth 100000 in
theorem nt_Float_inf (w : World) : Calls Tryz.prog 25 #[.string (S (wide [73, 110, 102, 105, 110, 105, 116, 121]))] w fun x w' => x = .returned (.float .f64 infR) ∧ Below w.heap.size w w' := by
  have hAh := Far.mk (nt_ahead (l := [73, 110, 102, 105, 110, 105, 116, 121]) (by decide) (b := 73) rfl (by decide))
  have hNa := Far.mk (nt_narrow (l := [73, 110, 102, 105, 110, 105, 116, 121]) (by decide) (by decide) (by decide))
  have hS := Far.mk (nt_signed_none (l := [73, 110, 102, 105, 110, 105, 116, 121]) (b := 73) (by decide) rfl (by decide) (by decide))
  have hPr : Far (∀ W0, Calls Tryz.prog 63 #[.string (S [73, 110, 102, 105, 110, 105, 116, 121]), .string ⟨#[73, 110, 102, 105, 110, 105, 116, 121]⟩] W0 fun e w' => e = .returned (.bool true) ∧ w' = W0) := ⟨fun W0 => strings_HasPrefix (S [73, 110, 102, 105, 110, 105, 116, 121]) ⟨#[73, 110, 102, 105, 110, 105, 116, 121]⟩ W0⟩
  generalize S (wide [73, 110, 102, 105, 110, 105, 116, 121]) = s0 at *
  generalize S [73, 110, 102, 105, 110, 105, 116, 121] = s2 at *
  go_enter Tryz.func25, Tryz.ntmps25
  go_wp2_with fail
  with_reducible refine (hAh.out _).mono ?_
  rintro e w1 ⟨rfl, hb1⟩
  go_wp2_with fail
  with_reducible refine (hNa.out _).mono ?_
  rintro e w2 ⟨rfl, hb2⟩
  replace hb2 := hb1.trans (hb2.mono hb1.size)
  clear hb1
  go_wp2_with fail
  with_reducible refine (hS.out _).mono ?_
  rintro e w' ⟨rfl, hw⟩
  replace hw := hw.symm
  subst hw
  go_wp2_with fail
  with_reducible refine (hPr.out _).mono ?_
  rintro e w' ⟨rfl, hw⟩
  replace hw := hw.symm
  subst hw
  go_wp2_with fail
  with_reducible refine (math_Inf1 _).mono ?_
  rintro e w' ⟨rfl, hw⟩
  replace hw := hw.symm
  subst hw
  go_wp2_with fail
  go_ret
  exact ⟨rfl, hb2⟩
set_option maxRecDepth 100000 in
theorem nt_Number_minf (w : World) : Calls Tryz.prog 13 #[.string (S (wide [45, 73, 110, 102, 105, 110, 105, 116, 121]))] w fun x w' => x = .returned (.float .f64 18442240474082181120) ∧ Below w.heap.size w w' := by
  have hTr := Far.mk (ustr_Trim (l := [45, 73, 110, 102, 105, 110, 105, 116, 121]) ⟨by decide, by decide⟩)
  have hNa := Far.mk (nt_narrow (l := [45, 73, 110, 102, 105, 110, 105, 116, 121]) (by decide) (by decide) (by decide))
  have hH := Far.mk (nt_hex_no (l := [45, 73, 110, 102, 105, 110, 105, 116, 121]) (by decide) (.inr (.inl (by decide))))
  have hS := Far.mk (nt_signed_minus (l := [73, 110, 102, 105, 110, 105, 116, 121]) (by decide))
  have he : (S [45, 73, 110, 102, 105, 110, 105, 116, 121]).toList.isEmpty = false := by rw [Lib.toList_data, S_lst]; rfl
  have hInf : ((S [73, 110, 102, 105, 110, 105, 116, 121]).toList == [73, 110, 102, 105, 110, 105, 116, 121]) = true := by rw [Lib.toList_data, S_lst]; rfl
  have hsz := S_size [73, 110, 102, 105, 110, 105, 116, 121]
  rw [show ([73, 110, 102, 105, 110, 105, 116, 121] : List UInt8).length = 8 from rfl] at hsz
  have he2 : (S [73, 110, 102, 105, 110, 105, 116, 121]).toList.isEmpty = false := by rw [Lib.toList_data, S_lst]; rfl
  generalize S (wide [45, 73, 110, 102, 105, 110, 105, 116, 121]) = s0 at *
  generalize S [45, 73, 110, 102, 105, 110, 105, 116, 121] = s1 at *
  generalize S [73, 110, 102, 105, 110, 105, 116, 121] = s2 at *
  go_enter Tryz.func13, Tryz.ntmps13
  go_wp2_with fail
  with_reducible refine (hTr.out _).mono ?_
  rintro e w1 ⟨rfl, hb1⟩
  go_wp2_with fail
  with_reducible refine (hNa.out _).mono ?_
  rintro e w2 ⟨rfl, hb2⟩
  replace hb2 := hb1.trans (hb2.mono hb1.size)
  clear hb1
  go_wp2_with fail
  with_reducible refine (hH.out _).mono ?_
  rintro e w' ⟨rfl, hw⟩
  replace hw := hw.symm
  subst hw
  go_wp2_with fail
  with_reducible refine (hS.out _).mono ?_
  rintro e w' ⟨rfl, hw⟩
  replace hw := hw.symm
  subst hw
  go_wp2_with fail
  with_reducible refine (math_InfM _).mono ?_
  rintro e w' ⟨rfl, hw⟩
  replace hw := hw.symm
  subst hw
  go_wp2_with fail
  go_ret
  exact ⟨rfl, hb2⟩
set_option maxRecDepth 100000 in
theorem nt_Float_minf (w : World) : Calls Tryz.prog 25 #[.string (S (wide [45, 73, 110, 102, 105, 110, 105, 116, 121]))] w fun x w' => x = .returned (.float .f64 18442240474082181120) ∧ Below w.heap.size w w' := by
  have hAh := Far.mk (nt_ahead (l := [45, 73, 110, 102, 105, 110, 105, 116, 121]) (by decide) (b := 45) rfl (by decide))
  have hNa := Far.mk (nt_narrow (l := [45, 73, 110, 102, 105, 110, 105, 116, 121]) (by decide) (by decide) (by decide))
  have hS := Far.mk (nt_signed_minus (l := [73, 110, 102, 105, 110, 105, 116, 121]) (by decide))
  have hPr : Far (∀ W0, Calls Tryz.prog 63 #[.string (S [73, 110, 102, 105, 110, 105, 116, 121]), .string ⟨#[73, 110, 102, 105, 110, 105, 116, 121]⟩] W0 fun e w' => e = .returned (.bool true) ∧ w' = W0) := ⟨fun W0 => strings_HasPrefix (S [73, 110, 102, 105, 110, 105, 116, 121]) ⟨#[73, 110, 102, 105, 110, 105, 116, 121]⟩ W0⟩
  generalize S (wide [45, 73, 110, 102, 105, 110, 105, 116, 121]) = s0 at *
  generalize S [45, 73, 110, 102, 105, 110, 105, 116, 121] = s1 at *
  generalize S [73, 110, 102, 105, 110, 105, 116, 121] = s2 at *
  go_enter Tryz.func25, Tryz.ntmps25
  go_wp2_with fail
  with_reducible refine (hAh.out _).mono ?_
  rintro e w1 ⟨rfl, hb1⟩
  go_wp2_with fail
  with_reducible refine (hNa.out _).mono ?_
  rintro e w2 ⟨rfl, hb2⟩
  replace hb2 := hb1.trans (hb2.mono hb1.size)
  clear hb1
  go_wp2_with fail
  with_reducible refine (hS.out _).mono ?_
  rintro e w' ⟨rfl, hw⟩
  replace hw := hw.symm
  subst hw
  go_wp2_with fail
  with_reducible refine (hPr.out _).mono ?_
  rintro e w' ⟨rfl, hw⟩
  replace hw := hw.symm
  subst hw
  go_wp2_with fail
  with_reducible refine (math_InfM _).mono ?_
  rintro e w' ⟨rfl, hw⟩
  replace hw := hw.symm
  subst hw
  go_wp2_with fail
  go_ret
  exact ⟨rfl, hb2⟩
end Us
end Go.Proofs.YtdpbpdhamekcdaaGreatDoor
