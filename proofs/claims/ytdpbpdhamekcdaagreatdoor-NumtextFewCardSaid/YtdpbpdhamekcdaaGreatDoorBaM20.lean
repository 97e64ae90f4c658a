/-
  What numtext.float tells of a decimal: the rounded number. Conditions: the laid variables have their values; strconv's product is sharp at the digits; the point stands no more than 400 places away. A contract of numtext.float at a decimal. Conditions: the laid variables have their values; strconv's product is sharp at the digits; the point stands no more than 400 places away. Contracts of numtext's hex (at a text that is no hexadecimal), signed and nan, of math.Inf; a float times one, and times minus one. Plain laws: how long a decimal is; what is no decimal. No program's function; no condition. What numtext.Number, Literal and Float tell of decimals. Conditions: the laid variables have their values; strconv's product is sharp at the digits; the point stands no more than 400 places away. Contracts of ustr.Unit and Slice, and of numtext.ahead, at a text of letters that is not white at its beginning. What numtext.Literal and Float tell of decimals, and of texts that are none. Conditions: the laid variables have their values; strconv's product is sharp at the digits; the point stands no more than 400 places away.
-/
import Derived.Test.YtdpbpdhamekcdaaGreatDoorBaM17
import Derived.Test.YtdpbpdhamekcdaaGreatDoorBaM19
import Derived.Test.YtdpbpdhamekcdaaGreatDoorBaM13
namespace Go.Proofs.YtdpbpdhamekcdaaGreatDoor
open Go.RowKit
namespace Us
open Nv

/-- A decimal's digits, with its point. -/
def ownS (W P : List UInt8) (pt : Bool) : List UInt8 := W ++ (if pt then 46 :: P else [])
/-- A decimal's exponent, as it is written. -/
def exS : Option (UInt8 × Option Bool × List UInt8) → List UInt8
  | none => []
  | some (c, g, X) => c :: (sgB g ++ X)
def exN : Option (UInt8 × Option Bool × List UInt8) → Int
  | none => 0
  | some (_, g, X) => (if g = some true then -1 else 1) * (pwN X : Int)
/-- Is it a decimal? -/
structure IsDec (W P : List UInt8) (pt : Bool) (ex : Option (UInt8 × Option Bool × List UInt8)) : Prop where
  w : ∀ b ∈ W, isD b = true
  p : ∀ b ∈ P, isD b = true
  hpt : pt = false → P = []
  one : W ++ P ≠ []
  hex : ∀ c g X, ex = some (c, g, X) → (c = 101 ∨ c = 69) ∧ X ≠ [] ∧ ∀ b ∈ X, isD b = true
  len : (ownS W P pt ++ exS ex).length ≤ 4000000
theorem own_mem {W P : List UInt8} {pt : Bool} {ex} (h : IsDec W P pt ex) {b : UInt8} (hb : b ∈ ownS W P pt) : isD b = true ∨ b = 46 := by
  unfold ownS at hb
  rcases List.mem_append.1 hb with hb | hb
  · exact .inl (h.w b hb)
  · split at hb
    · rcases List.mem_cons.1 hb with hb | hb
      · exact .inr hb
      · exact .inl (h.p b hb)
    · cases hb
theorem indexAny_none {A : List UInt8} (h : ∀ b ∈ A, isD b = true ∨ b = 46) : Lib.indexAny A [101, 69] = -1 := by
  induction A with
  | nil => rfl
  | cons c r ih =>
    have hc : ([101, 69] : List UInt8).contains c = false := by
      rcases h c (by simp) with h | h
      · have := isD_iff.1 h
        rw [List.contains_eq_any_beq]
        simp
        constructor
        · rintro rfl
          simp at this
        · rintro rfl
          simp at this
      · subst h
        rfl
    unfold Lib.indexAny
    rw [hc, ih (fun b hb => h b (by simp [hb]))]
    rfl
theorem indexAny_here {A r : List UInt8} {c : UInt8} (h : ∀ b ∈ A, isD b = true ∨ b = 46) (hc : c = 101 ∨ c = 69) : Lib.indexAny (A ++ c :: r) [101, 69] = A.length := by
  induction A with
  | nil =>
    have : ([101, 69] : List UInt8).contains c = true := by rcases hc with rfl | rfl <;> rfl
    show Lib.indexAny (c :: r) _ = _
    unfold Lib.indexAny
    rw [this]
    rfl
  | cons a A ih =>
    have ha : ([101, 69] : List UInt8).contains a = false := by
      rcases h a (by simp) with h | h
      · have := isD_iff.1 h
        rw [List.contains_eq_any_beq]
        simp
        constructor
        · rintro rfl
          simp at this
        · rintro rfl
          simp at this
      · subst h
        rfl
    show Lib.indexAny (a :: (A ++ c :: r)) _ = _
    unfold Lib.indexAny
    rw [ha, ih (fun b hb => h b (by simp [hb]))]
    have h2 : ((A.length : Int) == -1) = false := beq_eq_false_iff_ne.2 (by omega)
    rw [h2, if_neg (by decide), if_neg (by decide), List.length_cons]
    omega
theorem cut_own {W P : List UInt8} {pt : Bool} {ex} (h : IsDec W P pt ex) : Lib.cut (ownS W P pt) [46] = (W, P, pt) := by
  have hW : ∀ x ∈ W, x ≠ 46 := by
    rintro x hx rfl
    have := isD_iff.1 (h.w _ hx)
    simp at this
  unfold Lib.cut ownS
  cases pt
  · rw [h.hpt rfl, if_neg Bool.false_ne_true, List.append_nil, Lib.index_one, ix_none 46 W hW, if_neg (by decide)]
  · rw [if_pos rfl, Lib.index_one, ix_here 46 P W hW, if_pos (by omega), Int.toNat_natCast, List.take_left, List.length_singleton, List.drop_append, List.drop_eq_nil_of_le (by omega), Nat.add_sub_cancel_left]
    rfl
theorem itoa_itoaS (e : Int) : (⟨(Lib.itoa e).toArray⟩ : ByteArray) = S (itoaS e) := by
  unfold Lib.itoa itoaS
  split <;> rw [dec_eq] <;> rfl
theorem trim48 (l : List UInt8) : (⟨(Lib.trimLeftB l 48).toArray⟩ : ByteArray) = S (l.dropWhile (· == 48)) := rfl
theorem dropWhile_head (l : List UInt8) : (l.dropWhile (· == 48)).head? ≠ some 48 := by
  induction l with
  | nil => simp
  | cons c r ih =>
    by_cases g : c = 48
    · subst g
      rw [List.dropWhile_cons_of_pos (by rfl)]
      exact ih
    · rw [List.dropWhile_cons_of_neg (by simpa using g)]
      simpa using g
theorem dropWhile_mem {l : List UInt8} {b : UInt8} (h : b ∈ l.dropWhile (· == 48)) : b ∈ l := (List.dropWhile_sublist _).subset h
theorem dropWhile_len (l : List UInt8) : (l.dropWhile (· == 48)).length ≤ l.length := (List.dropWhile_sublist _).length_le
theorem ascii_own {l : List UInt8} (h : ∀ b ∈ l, b.toNat < 128) : ∀ (j : Nat) b, l[j]? = some b → b.toNat < 128 := fun _ b hj => h b (List.mem_of_getElem? hj)
theorem dec_ascii {W P : List UInt8} {pt : Bool} {ex} (h : IsDec W P pt ex) : ∀ b ∈ ownS W P pt ++ exS ex, b.toNat < 128 := by
  intro b hb
  rcases List.mem_append.1 hb with hb | hb
  · rcases own_mem h hb with h | h
    · have := isD_iff.1 h
      omega
    · subst h
      decide
  · rcases hx : ex with _ | ⟨c, g, X⟩
    · rw [hx] at hb
      cases hb
    · obtain ⟨hc, -, hX⟩ := h.hex c g X hx
      rw [hx] at hb
      rcases List.mem_cons.1 hb with hb | hb
      · subst hb
        rcases hc with rfl | rfl <;> decide
      · rcases List.mem_append.1 hb with hb | hb
        · rcases g with _ | _ | _
          · cases hb
          · rw [List.mem_singleton.1 hb]; decide
          · rw [List.mem_singleton.1 hb]; decide
        · have := isD_iff.1 (hX b hb)
          omega
end Us
end Go.Proofs.YtdpbpdhamekcdaaGreatDoor
namespace Go.Proofs.YtdpbpdhamekcdaaGreatDoor
open Go.RowKit
namespace Us
open Nv

theorem fmt_S (d : List UInt8) (e : Int) : (⟨#[48, 46]⟩ : ByteArray) ++ S d ++ ⟨#[101]⟩ ++ S (itoaS e) = S (fmtS d e) := by
  show S [48, 46] ++ S d ++ S [101] ++ S (itoaS e) = _
  rw [S_append, S_append, S_append]
  rfl
/-- The place of the point, from the first digit that is no nought. -/
def atOf (W P : List UInt8) (ex : Option (UInt8 × Option Bool × List UInt8)) : Int := (((W ++ P).dropWhile (· == 48)).length : Int) - (P.length : Int) + exN ex
theorem nt_power_ex {W P : List UInt8} {pt : Bool} {ex} (h : IsDec W P pt ex) (e : List UInt8) (he : (ex = none ∧ e = []) ∨ ∃ c g X, ex = some (c, g, X) ∧ e = sgB g ++ X) (w : World) :
    Calls Tryz.prog 109 #[.string (S e)] w fun x w' => x = .returned (.int .i64 (exN ex)) ∧ Below w.heap.size w w' := by
  rcases he with ⟨rfl, rfl⟩ | ⟨c, g, X, rfl, rfl⟩
  · exact nt_power (X := []) (by simp) none w
  · exact nt_power (h.hex c g X rfl).2.2 g w
theorem exN_le (ex) : -1073741824 ≤ exN ex ∧ exN ex ≤ 1073741824 := by
  rcases ex with _ | ⟨c, g, X⟩
  · decide
  · have := pwN_le X
    have e : exN (some (c, g, X)) = (if g = some true then -1 else 1) * (pwN X : Int) := rfl
    rw [e]
    by_cases hg : g = some true
    · rw [if_pos hg]
      omega
    · rw [if_neg hg]
      omega
theorem rnd_zero_val {N Q : Nat} (h : N = 0) : Rnd 0 N Q := by
  subst h
  refine ⟨by decide, ?_⟩
  rw [if_pos (by decide), show low2 0 = 0 by decide, Nat.zero_mul]
  exact ⟨Nat.zero_le _, fun _ => Nat.zero_le _⟩
set_option maxRecDepth 100000 in
set_option maxHeartbeats 4000000 in
theorem nt_float {W P : List UInt8} {pt : Bool} {ex} (h : IsDec W P pt ex) {w : World} (hR : Rdt w) (hT : Tabs w)
    (ha : (W ++ P).dropWhile (· == 48) ≠ [] → -400 ≤ atOf W P ex ∧ atOf W P ex ≤ 400 ∧ Sharp ((W ++ P).dropWhile (· == 48)) (atOf W P ex)) :
    Calls Tryz.prog 51 #[.string (S (ownS W P pt ++ exS ex))] w (NumQ (valL (W ++ P)) (exN ex - (P.length : Int)) w) := by
  have hlen := h.len
  rw [List.length_append] at hlen
  have hI : Far (∀ W0 k, k = Lib.indexAny (ownS W P pt ++ exS ex) [101, 69] → Calls Tryz.prog 107 #[.string (S (ownS W P pt ++ exS ex)), .string ⟨#[101, 69]⟩] W0 fun e w' => e = .returned (.int .i64 k) ∧ Below W0.heap.size W0 w') := ⟨fun W0 k hk => by
    have := strings_IndexAny_laid (S (ownS W P pt ++ exS ex)) ⟨#[101, 69]⟩ W0 (by rw [S_size, List.length_append]; omega) (by decide) (by rw [S_lst]; exact ascii_own (dec_ascii h)) (ascii (by decide))
    rw [S_lst] at this
    rw [hk]
    exact this⟩
  have hown : (ownS W P pt).length ≤ 4000000 := by omega
  have hWP : W.length + P.length ≤ 4000000 := by
    unfold ownS at hown
    cases pt
    · rw [h.hpt rfl]
      simp at hown
      simp
      omega
    · simp at hown
      omega
  have hC : Far (∀ (m : Int) W0, W0.cell? ⟨2, 0, none⟩ = some (.int .i64 m) → Calls Tryz.prog 108 #[.string (S (ownS W P pt)), .string ⟨#[46]⟩] W0 fun e w' => e = .returned (.tuple #[.string (S W), .string (S P), .bool pt]) ∧ ∃ n, w' = W0.drewN n) := ⟨fun m W0 hm => by
    have := strings_Cut (S (ownS W P pt)) ⟨#[46]⟩ m W0 (by rw [S_size]; omega) hm
    rw [S_lst, show (⟨#[46]⟩ : ByteArray).data.toList = [46] from rfl, cut_own h] at this
    exact this⟩
  have hL : Far (∀ W0, Calls Tryz.prog 103 #[.string (S (W ++ P)), .string ⟨#[48]⟩] W0 fun e w' => e = .returned (.string (S ((W ++ P).dropWhile (· == 48)))) ∧ w' = W0) := ⟨fun W0 => by
    have := strings_TrimLeft_one (S (W ++ P)) 48 (by decide) W0
    rw [S_lst] at this
    exact this⟩
  have hPw : Far (∀ e W0, ((ex = none ∧ e = []) ∨ ∃ c g X, ex = some (c, g, X) ∧ e = sgB g ++ X) → Calls Tryz.prog 109 #[.string (S e)] W0 fun x w' => x = .returned (.int .i64 (exN ex)) ∧ Below W0.heap.size W0 w') := ⟨fun e W0 he => nt_power_ex h e he W0⟩
  have hIt : Far (∀ W0 e, -1000 ≤ e → e ≤ 1000 → Below w.heap.size w W0 → Calls Tryz.prog 111 #[.int .i64 e] W0 fun x w' => x = .returned (.string (S (itoaS e))) ∧ Below W0.heap.size W0 w') := ⟨fun W0 e e1 e2 hb => by
    refine (strconv_Itoa e (by omega) (by omega) W0 (hT.keep hb).u10).mono ?_
    rintro x w' ⟨rfl, n, os, rfl⟩
    exact ⟨by rw [itoa_itoaS], Lib.below_grow _ W0 (Nat.le_refl _) n os⟩⟩
  have hdm := dropWhile_len (W ++ P)
  rw [List.length_append] at hdm
  have hdD : ∀ b ∈ (W ++ P).dropWhile (· == 48), isD b = true := fun b hb => by
    rcases List.mem_append.1 (dropWhile_mem hb) with hb | hb
    · exact h.w b hb
    · exact h.p b hb
  have hv := valL_trim (W ++ P)
  have hat : atOf W P ex = (((W ++ P).dropWhile (· == 48)).length : Int) - (P.length : Int) + exN ex := rfl
  have hPf : (W ++ P).dropWhile (· == 48) ≠ [] → Far (∀ W0, Below w.heap.size w W0 → Calls Tryz.prog 110 #[.string (S (fmtS ((W ++ P).dropWhile (· == 48)) (atOf W P ex))), .int .i64 64] W0 (SpQ (valL (W ++ P)) (exN ex - (P.length : Int)) W0)) := fun hne => ⟨fun W0 hb => by
    obtain ⟨a1, a2, a3⟩ := ha hne
    have := sc_parse_fmt (w := W0) (hR.keep hb) (hT.p10.keep hb) hdD (dropWhile_head _) (List.length_pos_iff.2 hne) (by omega) (by omega) (by omega) a3
    rw [hv, show atOf W P ex - (((W ++ P).dropWhile (· == 48)).length : Int) = exN ex - (P.length : Int) by rw [hat]; omega] at this
    exact this⟩
  obtain ⟨m, hm⟩ := hT.len
  replace hm := Far.mk hm
  have hex := exN_le ex
  unfold NumQ
  obtain ⟨d, hd⟩ : ∃ d, (W ++ P).dropWhile (· == 48) = d := ⟨_, rfl⟩
  rw [hd] at hL hdm hdD hv hat hPf ha
  have zW := S_size W
  have zP := S_size P
  have zd := S_size d
  have hap := S_append W P
  obtain ⟨V, hV⟩ : ∃ V, valL (W ++ P) = V := ⟨_, rfl⟩
  rw [hV] at hv hPf ⊢
  obtain ⟨at0, hat0⟩ : ∃ a, atOf W P ex = a := ⟨_, rfl⟩
  rw [hat0] at hat hPf ha
  by_cases hne : d = []
  · subst hne
    have hz : Far (∀ p, Rnd 0 (V * hiP p * tiny) (loQ p)) := ⟨fun p => rnd_zero_val (by rw [← hv]; simp [valL])⟩
    clear hPf ha hIt hdD hv hat hat0
    rw [S_size] at zd
    have hemp : (⟨#[]⟩ : ByteArray).toList.isEmpty = true := by rw [Lib.toList_data]; rfl
    have zd0 : (S ([] : List UInt8)) = ⟨#[]⟩ := rfl
    rw [zd0] at hL
    rcases ex with _ | ⟨c, g, X⟩
    · have hPw1 := Far.mk (fun W0 => hPw.out [] W0 (.inl ⟨rfl, rfl⟩))
      clear hPw
      have hIx : Lib.indexAny (ownS W P pt ++ exS none) [101, 69] = -1 := by
        rw [show exS none = [] from rfl, List.append_nil]
        exact indexAny_none (fun b hb => own_mem h hb)
      rw [hIx] at hI
      rw [show ownS W P pt ++ exS none = ownS W P pt from List.append_nil _] at hI ⊢
      rw [show (S ([] : List UInt8)) = ⟨#[]⟩ from rfl] at hPw1
      have zA := S_size (ownS W P pt)
      obtain ⟨x, hx⟩ : ∃ x, exN none = x := ⟨_, rfl⟩
      rw [hx] at hPw1 hex ⊢
      clear h hIx hlen hd hV hx
      generalize S (ownS W P pt) = sA at *
      generalize S W = sW at *
      generalize S P = sP at *
      generalize S (W ++ P) = sWP at *
      go_enter Tryz.func51, Tryz.ntmps51
      go_wp2_with fail
      with_reducible refine (hI.out _ _ rfl).mono ?_
      rintro e w1 ⟨rfl, hb1⟩
      go_wp2_with fail
      with_reducible refine (hC.out m _ (below_keep hb1 hm.out)).mono ?_
      rintro e w2 ⟨rfl, n, rfl⟩
      replace hb1 := Go.below_drewN hb1 n
      generalize w1.drewN n = w2 at *
      go_wp2_with fail
      with_reducible refine (hL.out _).mono ?_
      rintro e w' ⟨rfl, hw⟩
      replace hw := hw.symm
      subst hw
      go_wp2_with fail
      with_reducible refine (hPw1.out _).mono ?_
      rintro e w3 ⟨rfl, hb3⟩
      replace hb3 := hb1.trans (hb3.mono hb1.size)
      clear hb1
      go_wp2_with fail
      go_ret
      exact ⟨0, rfl, hz.out _, hb3⟩
    · have hPw1 := Far.mk (fun W0 => hPw.out (sgB g ++ X) W0 (.inr ⟨c, g, X, rfl, rfl⟩))
      clear hPw
      have hIx : Lib.indexAny (ownS W P pt ++ exS (some (c, g, X))) [101, 69] = (ownS W P pt).length := indexAny_here (fun b hb => own_mem h hb) (h.hex c g X rfl).1
      rw [hIx] at hI
      have x1 : (S (ownS W P pt ++ exS (some (c, g, X)))).extract 0 (ownS W P pt).length = S (ownS W P pt) := by
        rw [S_extract, List.drop_zero, List.take_left]
      have x2 : (S (ownS W P pt ++ exS (some (c, g, X)))).extract ((ownS W P pt).length + 1) (ownS W P pt ++ exS (some (c, g, X))).length = S (sgB g ++ X) := by
        rw [S_from, List.drop_append, List.drop_eq_nil_of_le (by omega), Nat.add_sub_cancel_left]
        rfl
      have zl := S_size (ownS W P pt ++ exS (some (c, g, X)))
      have zA := S_size (ownS W P pt)
      have zE := S_size (sgB g ++ X)
      have hkl : (ownS W P pt).length + 1 ≤ (ownS W P pt ++ exS (some (c, g, X))).length := by
        rw [List.length_append]
        simp [exS]
      have hlm : (ownS W P pt ++ exS (some (c, g, X))).length ≤ 4000000 := by
        rw [List.length_append]
        omega
      have hel : (sgB g ++ X).length ≤ 4000000 := by
        have : (exS (some (c, g, X))).length = (sgB g ++ X).length + 1 := rfl
        omega
      obtain ⟨x, hx⟩ : ∃ x, exN (some (c, g, X)) = x := ⟨_, rfl⟩
      rw [hx] at hPw1 hex ⊢
      clear h hIx hlen hd hV hx
      generalize S (ownS W P pt ++ exS (some (c, g, X))) = sl at *
      generalize (ownS W P pt ++ exS (some (c, g, X))).length = nl at *
      generalize S (ownS W P pt) = sA at *
      generalize (ownS W P pt).length = nA at *
      generalize S (sgB g ++ X) = sE at *
      generalize (sgB g ++ X).length = nE at *
      generalize S W = sW at *
      generalize S P = sP at *
      generalize S (W ++ P) = sWP at *
      go_enter Tryz.func51, Tryz.ntmps51
      go_wp2_with fail
      with_reducible refine (hI.out _ _ rfl).mono ?_
      rintro e w1 ⟨rfl, hb1⟩
      go_wp2_with fail
      go_quiet (fail)
      replace hb1 := Go.below_drewN hb1 nq
      generalize w1.drewN nq = w1q at *
      go_wp2_with fail
      with_reducible refine (hC.out m _ (below_keep hb1 hm.out)).mono ?_
      rintro e w2 ⟨rfl, n, rfl⟩
      replace hb1 := Go.below_drewN hb1 n
      generalize w1.drewN n = w2 at *
      go_wp2_with fail
      with_reducible refine (hL.out _).mono ?_
      rintro e w' ⟨rfl, hw⟩
      replace hw := hw.symm
      subst hw
      go_wp2_with fail
      with_reducible refine (hPw1.out _).mono ?_
      rintro e w3 ⟨rfl, hb3⟩
      replace hb3 := hb1.trans (hb3.mono hb1.size)
      clear hb1
      go_wp2_with fail
      go_ret
      exact ⟨0, rfl, hz.out _, hb3⟩
  · have hPf1 := hPf hne
    clear hPf
    obtain ⟨a1, a2, -⟩ := ha hne
    have hdl : 1 ≤ d.length := List.length_pos_iff.2 hne
    have hfm := Far.mk (fmt_S d at0)
    have zI := S_size (itoaS at0)
    have hil : (itoaS at0).length ≤ 8 := by
      have h4 := digs_four (n := at0.natAbs) (by omega)
      have h5 := digs_four (n := at0.toNat) (by omega)
      unfold itoaS
      split <;> simp <;> omega
    have hd0 : (S d).toList.isEmpty = false := by
      rw [Lib.toList_data, S_lst]
      cases d
      · exact absurd rfl hne
      · rfl
    clear ha hne hdD hv hat0
    rcases ex with _ | ⟨c, g, X⟩
    · have hPw1 := Far.mk (fun W0 => hPw.out [] W0 (.inl ⟨rfl, rfl⟩))
      clear hPw
      have hIx : Lib.indexAny (ownS W P pt ++ exS none) [101, 69] = -1 := by
        rw [show exS none = [] from rfl, List.append_nil]
        exact indexAny_none (fun b hb => own_mem h hb)
      rw [hIx] at hI
      rw [show ownS W P pt ++ exS none = ownS W P pt from List.append_nil _] at hI ⊢
      rw [show (S ([] : List UInt8)) = ⟨#[]⟩ from rfl] at hPw1
      have zA := S_size (ownS W P pt)
      obtain ⟨x, hx⟩ : ∃ x, exN none = x := ⟨_, rfl⟩
      rw [hx] at hPw1 hex ⊢
      rw [hx] at hat hPf1
      have hat1 := Far.mk hat
      have hata : -400 ≤ (d.length : Int) - (P.length : Int) + x := by omega
      have hatb : (d.length : Int) - (P.length : Int) + x ≤ 400 := by omega
      clear h hIx hlen hd hV hx hat
      generalize S (ownS W P pt) = sA at *
      generalize S W = sW at *
      generalize S P = sP at *
      generalize S (W ++ P) = sWP at *
      generalize hsd : S d = sd at *
      clear hsd
      go_enter Tryz.func51, Tryz.ntmps51
      go_wp2_with fail
      with_reducible refine (hI.out _ _ rfl).mono ?_
      rintro e w1 ⟨rfl, hb1⟩
      go_wp2_with fail
      with_reducible refine (hC.out m _ (below_keep hb1 hm.out)).mono ?_
      rintro e w2 ⟨rfl, n, rfl⟩
      replace hb1 := Go.below_drewN hb1 n
      generalize w1.drewN n = w2 at *
      go_wp2_with fail
      with_reducible refine (hL.out _).mono ?_
      rintro e w' ⟨rfl, hw⟩
      replace hw := hw.symm
      subst hw
      go_wp2_with fail
      with_reducible refine (hPw1.out _).mono ?_
      rintro e w3 ⟨rfl, hb3⟩
      replace hb3 := hb1.trans (hb3.mono hb1.size)
      clear hb1
      go_wp2_with fail
      rw [← hat1.out]
      with_reducible refine (hIt.out _ at0 (by omega) (by omega) hb3).mono ?_
      rintro e w4 ⟨rfl, hb4⟩
      replace hb4 := hb3.trans (hb4.mono hb3.size)
      go_wp2_with fail
      rw [hfm.out]
      with_reducible refine (hPf1.out _ hb4).mono ?_
      rintro e w5 ⟨R, v, rfl, hr, hb5⟩
      replace hb5 := hb4.trans (hb5.mono hb4.size)
      replace hr := Far.mk hr
      go_wp2_with fail
      go_ret
      exact ⟨R, rfl, hr.out, hb5⟩
    · have hPw1 := Far.mk (fun W0 => hPw.out (sgB g ++ X) W0 (.inr ⟨c, g, X, rfl, rfl⟩))
      clear hPw
      have hIx : Lib.indexAny (ownS W P pt ++ exS (some (c, g, X))) [101, 69] = (ownS W P pt).length := indexAny_here (fun b hb => own_mem h hb) (h.hex c g X rfl).1
      rw [hIx] at hI
      have x1 : (S (ownS W P pt ++ exS (some (c, g, X)))).extract 0 (ownS W P pt).length = S (ownS W P pt) := by
        rw [S_extract, List.drop_zero, List.take_left]
      have x2 : (S (ownS W P pt ++ exS (some (c, g, X)))).extract ((ownS W P pt).length + 1) (ownS W P pt ++ exS (some (c, g, X))).length = S (sgB g ++ X) := by
        rw [S_from, List.drop_append, List.drop_eq_nil_of_le (by omega), Nat.add_sub_cancel_left]
        rfl
      have zl := S_size (ownS W P pt ++ exS (some (c, g, X)))
      have zA := S_size (ownS W P pt)
      have zE := S_size (sgB g ++ X)
      have hkl : (ownS W P pt).length + 1 ≤ (ownS W P pt ++ exS (some (c, g, X))).length := by
        rw [List.length_append]
        simp [exS]
      have hlm : (ownS W P pt ++ exS (some (c, g, X))).length ≤ 4000000 := by
        rw [List.length_append]
        omega
      have hel : (sgB g ++ X).length ≤ 4000000 := by
        have : (exS (some (c, g, X))).length = (sgB g ++ X).length + 1 := rfl
        omega
      obtain ⟨x, hx⟩ : ∃ x, exN (some (c, g, X)) = x := ⟨_, rfl⟩
      rw [hx] at hPw1 hex ⊢
      rw [hx] at hat hPf1
      have hat1 := Far.mk hat
      have hata : -400 ≤ (d.length : Int) - (P.length : Int) + x := by omega
      have hatb : (d.length : Int) - (P.length : Int) + x ≤ 400 := by omega
      clear h hIx hlen hd hV hx hat
      generalize S (ownS W P pt ++ exS (some (c, g, X))) = sl at *
      generalize (ownS W P pt ++ exS (some (c, g, X))).length = nl at *
      generalize S (ownS W P pt) = sA at *
      generalize (ownS W P pt).length = nA at *
      generalize S (sgB g ++ X) = sE at *
      generalize (sgB g ++ X).length = nE at *
      generalize S W = sW at *
      generalize S P = sP at *
      generalize S (W ++ P) = sWP at *
      generalize hsd : S d = sd at *
      clear hsd
      go_enter Tryz.func51, Tryz.ntmps51
      go_wp2_with fail
      with_reducible refine (hI.out _ _ rfl).mono ?_
      rintro e w1 ⟨rfl, hb1⟩
      go_wp2_with fail
      go_quiet (fail)
      replace hb1 := Go.below_drewN hb1 nq
      generalize w1.drewN nq = w1q at *
      go_wp2_with fail
      with_reducible refine (hC.out m _ (below_keep hb1 hm.out)).mono ?_
      rintro e w2 ⟨rfl, n, rfl⟩
      replace hb1 := Go.below_drewN hb1 n
      generalize w1.drewN n = w2 at *
      go_wp2_with fail
      with_reducible refine (hL.out _).mono ?_
      rintro e w' ⟨rfl, hw⟩
      replace hw := hw.symm
      subst hw
      go_wp2_with fail
      with_reducible refine (hPw1.out _).mono ?_
      rintro e w3 ⟨rfl, hb3⟩
      replace hb3 := hb1.trans (hb3.mono hb1.size)
      clear hb1
      go_wp2_with fail
      rw [← hat1.out]
      with_reducible refine (hIt.out _ at0 (by omega) (by omega) hb3).mono ?_
      rintro e w4 ⟨rfl, hb4⟩
      replace hb4 := hb3.trans (hb4.mono hb3.size)
      go_wp2_with fail
      rw [hfm.out]
      with_reducible refine (hPf1.out _ hb4).mono ?_
      rintro e w5 ⟨R, v, rfl, hr, hb5⟩
      replace hb5 := hb4.trans (hb5.mono hb4.size)
      replace hr := Far.mk hr
      go_wp2_with fail
      go_ret
      exact ⟨R, rfl, hr.out, hb5⟩
end Us
end Go.Proofs.YtdpbpdhamekcdaaGreatDoor
namespace Go.Proofs.YtdpbpdhamekcdaaGreatDoor
open Go.RowKit
namespace Us
open Nv

theorem nt_hex_short {l : List UInt8} (hl : l.length ≤ 2) (w : World) : Calls Tryz.prog 46 #[.string (S l)] w fun e w' => e = .returned (.bool false) ∧ w' = w := by
  have hsz := S_size l
  go_enter Tryz.func46, Tryz.ntmps46
  go_wp2_with fail
  go_ret
  exact ⟨rfl, rfl⟩
theorem nt_hex_other {l : List UInt8} {b : UInt8} (hl : l.length ≤ 4000000) (h2 : 2 < l.length) (h0 : l[0]? = some b) (hb : b ≠ 48) (w : World) : Calls Tryz.prog 46 #[.string (S l)] w fun e w' => e = .returned (.bool false) ∧ w' = w := by
  have hsz := S_size l
  have hc := S_byte (S_lt (show 0 < l.length by omega)) h0
  have e0 : ((b.toNat : Int) == 48) = false := u8_ne rfl hb
  clear hb h0
  generalize b.toNat = q at *
  go_enter Tryz.func46, Tryz.ntmps46
  go_wp2_with fail
  go_ret
  exact ⟨rfl, rfl⟩
theorem nt_hex_nox {l : List UInt8} {b : UInt8} (hl : l.length ≤ 4000000) (h2 : 2 < l.length) (h0 : l[0]? = some 48) (h1 : l[1]? = some b) (hb1 : b ≠ 120) (hb2 : b ≠ 88) (w : World) : Calls Tryz.prog 46 #[.string (S l)] w fun e w' => e = .returned (.bool false) ∧ w' = w := by
  have hsz := S_size l
  have hc := S_byte (S_lt (show 0 < l.length by omega)) h0
  have hc1 := S_byte (S_lt (show 1 < l.length by omega)) h1
  rw [show (48 : UInt8).toNat = 48 from rfl] at hc
  have e0 : ((b.toNat : Int) == 120) = false := u8_ne rfl hb1
  have e1 : ((b.toNat : Int) == 88) = false := u8_ne rfl hb2
  clear hb1 hb2 h0 h1
  generalize b.toNat = q at *
  go_enter Tryz.func46, Tryz.ntmps46
  go_wp2_with fail
  go_ret
  exact ⟨rfl, rfl⟩
/-- Is it no hexadecimal, by its beginning? -/
def NoHex (l : List UInt8) : Prop := l.length ≤ 2 ∨ l[0]? ≠ some 48 ∨ (l[1]? ≠ some 120 ∧ l[1]? ≠ some 88)
theorem nt_hex_no {l : List UInt8} (hl : l.length ≤ 4000000) (h : NoHex l) (w : World) : Calls Tryz.prog 46 #[.string (S l)] w fun e w' => e = .returned (.bool false) ∧ w' = w := by
  rcases Nat.lt_or_ge 2 l.length with g | g
  · have e0 := List.getElem?_eq_getElem (show 0 < l.length by omega)
    by_cases h48 : l[0] = 48
    · rcases h with h | h | h
      · omega
      · exact absurd (by rw [e0, h48]) h
      · have e1 := List.getElem?_eq_getElem (show 1 < l.length by omega)
        refine nt_hex_nox hl g (by rw [e0, h48]) e1 (fun hh => h.1 (by rw [e1, hh])) (fun hh => h.2 (by rw [e1, hh])) w
    · exact nt_hex_other hl g e0 h48 w
  · exact nt_hex_short g w
theorem nt_signed_minus {l : List UInt8} (hl : l.length ≤ 4000000) (w : World) : Calls Tryz.prog 48 #[.string (S (45 :: l))] w fun e w' => e = .returned (.tuple #[.string (S l), .float .f64 13830554455654793216]) ∧ w' = w := by
  have hsz := S_size (45 :: l)
  rw [List.length_cons] at hsz
  have hc : ((S (45 :: l))[0]'(by omega)).toNat = 45 := rfl
  have hx : (S (45 :: l)).extract 1 (l.length + 1) = S l := by rw [← List.length_cons (a := (45 : UInt8)), S_from]; rfl
  have he : (S (45 :: l)).toList.isEmpty = false := by rw [Lib.toList_data, S_lst]; rfl
  go_enter Tryz.func48, Tryz.ntmps48
  go_wp2_with fail
  go_ret2
  exact ⟨rfl, rfl⟩
theorem nt_signed_none {l : List UInt8} {b : UInt8} (hl : l.length ≤ 4000000) (h0 : l[0]? = some b) (h1 : b ≠ 45) (h2 : b ≠ 43) (w : World) : Calls Tryz.prog 48 #[.string (S l)] w fun e w' => e = .returned (.tuple #[.string (S l), .float .f64 4607182418800017408]) ∧ w' = w := by
  have hlen : 0 < l.length := (List.getElem?_eq_some_iff.1 h0).1
  have hsz := S_size l
  have hc := S_byte (S_lt hlen) h0
  have e0 : ((b.toNat : Int) == 45) = false := u8_ne rfl h1
  have e1 : ((b.toNat : Int) == 43) = false := u8_ne rfl h2
  have he : (S l).toList.isEmpty = false := by
    rw [Lib.toList_data, S_lst]
    cases l
    · simp at hlen
    · rfl
  clear h0 h1 h2
  generalize b.toNat = q at *
  go_enter Tryz.func48, Tryz.ntmps48
  go_wp2_with fail
  go_ret2
  exact ⟨rfl, rfl⟩
attribute [local go_sem] run_frombits_qnan
theorem nt_nan (w : World) : Calls Tryz.prog 52 #[] w fun e w' => e = .returned (.float .f64 qnan) ∧ w' = w := by
  go_enter Tryz.func52, Tryz.ntmps52
  go_wp2_with fail
  go_ret
  exact ⟨rfl, rfl⟩
attribute [local go_sem] run_frombits
set_option maxRecDepth 100000 in
theorem math_InfM (w : World) : Calls Tryz.prog 49 #[.int .i64 (-1)] w fun e w' => e = .returned (.float .f64 18442240474082181120) ∧ w' = w := by
  go_enter Tryz.func49, Tryz.ntmps49
  go_wp2_with fail
  go_ret
  exact ⟨rfl, rfl⟩
theorem one_mul_rung {R : Nat} (h : R ≤ infR) : Ieee.double.mul 4607182418800017408 R = some R := by
  rcases Nat.lt_or_eq_of_le h with h | h
  · rw [mul_rung (by decide) h]
    congr 1
    rcases Nat.eq_zero_or_pos R with h0 | h0
    · subst h0
      rw [mant_zero, Nat.mul_zero, nearest_zero]
    · have pm := mant_pos h0
      have m1 : mantOf 4607182418800017408 = 4503599627370496 := by decide
      have k1 : kOf 4607182418800017408 = 1022 := by decide
      rw [m1, k1]
      refine nearest_self (Nat.mul_pos (by decide) pm) (Nat.le_of_lt h) h0 ?_
      rw [val_eq, show (4503599627370496 : Nat) = 2 ^ 52 by decide, Nat.mul_comm (2 ^ 52), Nat.mul_assoc, Nat.mul_assoc, ← Nat.pow_add, ← Nat.pow_add]
      congr 2
      omega
  · subst h
    decide +kernel
theorem cut_neg (n d : Nat) : Ieee.Toward.even.cut true n d = Ieee.Toward.even.cut false n d := by
  unfold Ieee.Toward.cut
  rfl
theorem nearest_neg (mag : Nat) (place : Int) : Ieee.double.nearest true mag place = 9223372036854775808 + Ieee.double.nearest false mag place := by
  have hw : ∀ x, Ieee.double.word true x = 9223372036854775808 + Ieee.double.word false x := fun x => by
    unfold Ieee.Format.word
    simp [show Ieee.double.signWeight = 9223372036854775808 by decide]
  unfold Ieee.Format.nearest
  by_cases h : mag = 0
  · rw [if_pos h, if_pos h]
    exact hw 0
  · rw [if_neg h, if_neg h]
    simp only [cut_neg]
    exact hw _
end Us
end Go.Proofs.YtdpbpdhamekcdaaGreatDoor
namespace Go.Proofs.YtdpbpdhamekcdaaGreatDoor
open Go.RowKit
namespace Us
open Nv

theorem lead_app {W r : List UInt8} (hW : ∀ b ∈ W, isD b = true) (hr : ∀ b, r.head? = some b → isD b = false) : lead (W ++ r) = W.length := by
  induction W with
  | nil =>
    cases r with
    | nil => rfl
    | cons c r =>
      show lead (c :: r) = 0
      unfold lead
      rw [hr c rfl]
      rfl
  | cons c W ih =>
    show lead (c :: (W ++ r)) = _
    unfold lead
    rw [hW c (by simp), if_pos rfl, ih (fun b hb => hW b (by simp [hb]))]
    rfl
theorem ex_head {W P : List UInt8} {pt : Bool} {ex} (h : IsDec W P pt ex) : ∀ b, (exS ex).head? = some b → isD b = false := by
  intro b hb
  rcases hx : ex with _ | ⟨c, g, X⟩
  · rw [hx] at hb
    cases hb
  · rw [hx] at hb
    obtain rfl := Option.some.inj hb
    rcases (h.hex c g X hx).1 with rfl | rfl <;> rfl
/-- Behind the digits an exponent is read whole. -/
theorem decE_own {W P : List UInt8} {pt : Bool} {ex} (h : IsDec W P pt ex) (A : List UInt8) : decE (A ++ exS ex) A.length = (A ++ exS ex).length := by
  rcases hx : ex with _ | ⟨c, g, X⟩
  · unfold decE
    rw [show exS none = [] from rfl, List.append_nil, if_neg (by simp)]
  · obtain ⟨hc, hne, hX⟩ := h.hex c g X hx
    have hX1 : lead X = X.length := by
      have := lead_app (W := X) (r := []) hX (by simp)
      rwa [List.append_nil] at this
    have hXl : 1 ≤ X.length := List.length_pos_iff.2 hne
    have e0 : (A ++ exS (some (c, g, X)))[A.length]? = some c := by
      rw [List.getElem?_append_right (Nat.le_refl _), Nat.sub_self]
      rfl
    have e1 : (A ++ exS (some (c, g, X)))[A.length + 1]? = (sgB g ++ X)[0]? := by
      rw [List.getElem?_append_right (by omega), Nat.add_sub_cancel_left]
      rfl
    have hK : decK (A ++ exS (some (c, g, X))) A.length = A.length + 1 + (sgB g).length := by
      unfold decK
      rw [e1]
      rcases g with _ | _ | _
      · rw [if_neg]
        · rfl
        · cases X with
          | nil => simp at hXl
          | cons d r =>
            have := isD_iff.1 (hX d (by simp))
            show ¬ (some d = some 43 ∨ some d = some 45)
            rintro (hh | hh)
            · obtain rfl := Option.some.inj hh
              simp at this
            · obtain rfl := Option.some.inj hh
              simp at this
      · rw [if_pos (.inl rfl)]
        rfl
      · rw [if_pos (.inr rfl)]
        rfl
    have hdrop : (A ++ exS (some (c, g, X))).drop (A.length + 1 + (sgB g).length) = X := by
      rw [List.drop_append, List.drop_eq_nil_of_le (by omega), show A.length + 1 + (sgB g).length - A.length = (sgB g).length + 1 by omega]
      show ([] : List UInt8) ++ (sgB g ++ X).drop (sgB g).length = X
      rw [List.drop_left]
      rfl
    unfold decE
    rw [e0, if_pos (by rcases hc with rfl | rfl <;> simp), hK, hdrop, hX1, if_neg (by omega), List.length_append]
    show _ = A.length + (sgB g ++ X).length.succ
    rw [List.length_append]
    omega
theorem decN_own {W P : List UInt8} {pt : Bool} {ex} (h : IsDec W P pt ex) : decN (ownS W P pt ++ exS ex) = (ownS W P pt ++ exS ex).length := by
  have hone : W.length + P.length ≠ 0 := by
    have := h.one
    intro hh
    apply this
    rw [List.eq_nil_of_length_eq_zero (show W.length = 0 by omega), List.eq_nil_of_length_eq_zero (show P.length = 0 by omega)]
    rfl
  cases pt
  · have hP := h.hpt rfl
    have hA : ownS W P false = W := by unfold ownS; simp
    rw [hA]
    have hl : lead (W ++ exS ex) = W.length := lead_app h.w (ex_head h)
    unfold decN
    rw [hl, if_neg, if_neg (by rw [hP] at hone; simpa using hone)]
    · exact decE_own h W
    · rw [List.getElem?_append_right (Nat.le_refl _), Nat.sub_self]
      rcases hx : ex with _ | ⟨c, g, X⟩
      · simp [exS]
      · show ¬ some c = some 46
        intro hh
        obtain rfl := Option.some.inj hh
        rcases (h.hex _ g X hx).1 with hc | hc <;> cases hc
  · have hA : ownS W P true = W ++ 46 :: P := rfl
    rw [hA]
    have hl : lead (W ++ 46 :: P ++ exS ex) = W.length := by
      rw [List.append_assoc]
      exact lead_app h.w (by intro b hb; obtain rfl := Option.some.inj hb; rfl)
    have h46 : (W ++ 46 :: P ++ exS ex)[W.length]? = some 46 := by
      rw [List.append_assoc, List.getElem?_append_right (Nat.le_refl _), Nat.sub_self]
      rfl
    have hd : (W ++ 46 :: P ++ exS ex).drop (W.length + 1) = P ++ exS ex := by
      rw [List.append_assoc, List.drop_append, List.drop_eq_nil_of_le (by omega), Nat.add_sub_cancel_left]
      rfl
    unfold decN
    rw [hl, if_pos h46, hd, lead_app h.p (ex_head h), if_neg hone]
    have := decE_own h (W ++ 46 :: P)
    rw [show (W ++ 46 :: P).length = W.length + (1 + P.length) by simp; omega] at this
    exact this
/-- What begins with neither a digit nor a point is no decimal. -/
theorem decN_none {l : List UInt8} (h : ∀ b, l.head? = some b → isD b = false ∧ b ≠ 46) : decN l = 0 := by
  have hl : lead l = 0 := by
    have := lead_app (W := []) (r := l) (by simp) (fun b hb => (h b hb).1)
    simpa using this
  unfold decN
  rw [hl, if_neg, if_pos rfl]
  intro hh
  rw [← List.head?_eq_getElem?] at hh
  exact (h 46 hh).2 rfl
theorem neg_mul_rung {R : Nat} (h : R < infR) : Ieee.double.mul 13830554455654793216 R = some (9223372036854775808 + R) := by
  have h1 := one_mul_rung (Nat.le_of_lt h)
  unfold Ieee.Format.mul at h1 ⊢
  rw [read_rung (show 4607182418800017408 < infR by decide), read_rung h] at h1
  rw [show (13830554455654793216 : Nat) = 9223372036854775808 + 4607182418800017408 by decide, read_neg (by decide), read_rung h]
  have h2 := Option.some.inj h1
  show some (Ieee.double.nearest true _ _) = _
  rw [nearest_neg]
  exact congrArg (fun z => some (9223372036854775808 + z)) h2
end Us
end Go.Proofs.YtdpbpdhamekcdaaGreatDoor
namespace Go.Proofs.YtdpbpdhamekcdaaGreatDoor
open Go.RowKit
namespace Us
open Nv

theorem dec_first {W P : List UInt8} {pt : Bool} {ex} (h : IsDec W P pt ex) (hW : W ≠ []) : ∃ b r, ownS W P pt ++ exS ex = b :: r ∧ isD b = true := by
  cases W with
  | nil => exact absurd rfl hW
  | cons b r => exact ⟨b, _, rfl, h.w b (by simp)⟩
theorem dec_range {W P : List UInt8} {pt : Bool} {ex} (h : IsDec W P pt ex) : ∀ b ∈ ownS W P pt ++ exS ex, 33 ≤ b.toNat ∧ b.toNat ≤ 127 := by
  intro b hb
  have h1 := dec_ascii h b hb
  refine ⟨?_, by omega⟩
  rcases List.mem_append.1 hb with hb | hb
  · rcases own_mem h hb with h | h
    · have := isD_iff.1 h
      omega
    · subst h
      decide
  · rcases hx : ex with _ | ⟨c, g, X⟩
    · rw [hx] at hb
      cases hb
    · obtain ⟨hc, -, hX⟩ := h.hex c g X hx
      rw [hx] at hb
      rcases List.mem_cons.1 hb with hb | hb
      · subst hb
        rcases hc with rfl | rfl <;> decide
      · rcases List.mem_append.1 hb with hb | hb
        · rcases g with _ | _ | _
          · cases hb
          · rw [List.mem_singleton.1 hb]; decide
          · rw [List.mem_singleton.1 hb]; decide
        · have := isD_iff.1 (hX b hb)
          omega
theorem first_ne {b c : UInt8} {r q : List UInt8} (h : b ≠ c) : (b :: r == c :: q) = false := by
  show (b == c && r == q) = false
  rw [beq_eq_false_iff_ne.2 h]
  rfl
/-- What a float below nought is told as. -/
def NegQ (V : Nat) (p : Int) (w : World) (x : Ending) (w' : World) : Prop := ∃ R, x = .returned (.float .f64 (9223372036854775808 + R)) ∧ Rnd R (V * hiP p * tiny) (loQ p) ∧ Below w.heap.size w w'
set_option maxRecDepth 100000 in
theorem nt_Number_dec {W P : List UInt8} {pt : Bool} {ex} (h : IsDec W P pt ex) (hW : W ≠ []) (hl : (ownS W P pt ++ exS ex).length ≤ 999) (hx : NoHex (ownS W P pt ++ exS ex)) {w : World} (hR : Rdt w) (hT : Tabs w)
    (ha : (W ++ P).dropWhile (· == 48) ≠ [] → -400 ≤ atOf W P ex ∧ atOf W P ex ≤ 400 ∧ Sharp ((W ++ P).dropWhile (· == 48)) (atOf W P ex)) :
    Calls Tryz.prog 13 #[.string (S (wide (ownS W P pt ++ exS ex)))] w (NumQ (valL (W ++ P)) (exN ex - (P.length : Int)) w) := by
  have hF : Far (∀ W0, Below w.heap.size w W0 → Calls Tryz.prog 51 #[.string (S (ownS W P pt ++ exS ex))] W0 (NumQ (valL (W ++ P)) (exN ex - (P.length : Int)) W0)) := ⟨fun W0 hb => nt_float h (hR.keep hb) (hT.keep hb) ha⟩
  have hD := decN_own h
  obtain ⟨b, r, ht, hb⟩ := dec_first h hW
  have hr := dec_range h
  generalize exN ex - (P.length : Int) = p at *
  generalize valL (W ++ P) = V at *
  generalize ownS W P pt ++ exS ex = t at *
  have hb2 := isD_iff.1 hb
  have h0 : t[0]? = some b := by rw [ht]; rfl
  have ht1 : 1 ≤ t.length := by rw [ht]; simp
  have hTr := Far.mk (ustr_Trim (l := t) ⟨by omega, hr⟩)
  have hNa := Far.mk (nt_narrow (l := t) ht1 (by omega) (fun b hb => (hr b hb).2))
  have hH := Far.mk (nt_hex_no (l := t) (by omega) hx)
  have hS := Far.mk (nt_signed_none (l := t) (by omega) h0 (by rintro rfl; simp at hb2) (by rintro rfl; simp at hb2))
  have hDc := nt_decimal (l := t) (by omega)
  rw [hD] at hDc
  replace hDc := Far.mk hDc
  have hsz := S_size t
  have he : (S t).toList.isEmpty = false := by rw [Lib.toList_data, S_lst, ht]; rfl
  have hInf : ((S t).toList == [73, 110, 102, 105, 110, 105, 116, 121]) = false := by
    rw [Lib.toList_data, S_lst, ht]
    exact first_ne (by rintro rfl; simp at hb2)
  clear h hW ha hx hR hT hD hb hb2 h0 ht hr
  unfold NumQ
  go_enter Tryz.func13, Tryz.ntmps13
  go_wp2_with fail
  with_reducible refine (hTr.out _).mono ?_
  rintro e w1 ⟨rfl, hb1⟩
  go_wp2_with fail
  with_reducible refine (hNa.out _).mono ?_
  rintro e w2 ⟨rfl, hb2⟩
  replace hb2 := hb1.trans (hb2.mono hb1.size)
  clear hb1
  go_wp2_with fail
  with_reducible refine (hH.out _).mono ?_
  rintro e w' ⟨rfl, hw⟩
  replace hw := hw.symm
  subst hw
  go_wp2_with fail
  with_reducible refine (hS.out _).mono ?_
  rintro e w' ⟨rfl, hw⟩
  replace hw := hw.symm
  subst hw
  go_wp2_with fail
  with_reducible refine (hDc.out _).mono ?_
  rintro e w' ⟨rfl, hw⟩
  replace hw := hw.symm
  subst hw
  go_wp2_with fail
  with_reducible refine (hF.out _ hb2).mono ?_
  rintro e w3 ⟨R, rfl, hr, hb3⟩
  replace hb3 := hb2.trans (hb3.mono hb2.size)
  have hmr := run_fmul (one_mul_rung hr.1) 24
  replace hr := Far.mk hr
  clear hb2
  go_wp2_with fail
  go_ret
  exact ⟨R, rfl, hr.out, hb3⟩
set_option maxRecDepth 100000 in
theorem nt_Number_neg {W P : List UInt8} {pt : Bool} {ex} (h : IsDec W P pt ex) (hW : W ≠ []) (hl : (ownS W P pt ++ exS ex).length ≤ 999) {w : World} (hR : Rdt w) (hT : Tabs w)
    (ha : (W ++ P).dropWhile (· == 48) ≠ [] → -400 ≤ atOf W P ex ∧ atOf W P ex ≤ 400 ∧ Sharp ((W ++ P).dropWhile (· == 48)) (atOf W P ex))
    (hfin : ∀ R, Rnd R (valL (W ++ P) * hiP (exN ex - (P.length : Int)) * tiny) (loQ (exN ex - (P.length : Int))) → R < infR) :
    Calls Tryz.prog 13 #[.string (S (wide (45 :: (ownS W P pt ++ exS ex))))] w (NegQ (valL (W ++ P)) (exN ex - (P.length : Int)) w) := by
  have hF : Far (∀ W0, Below w.heap.size w W0 → Calls Tryz.prog 51 #[.string (S (ownS W P pt ++ exS ex))] W0 (NumQ (valL (W ++ P)) (exN ex - (P.length : Int)) W0)) := ⟨fun W0 hb => nt_float h (hR.keep hb) (hT.keep hb) ha⟩
  have hD := decN_own h
  obtain ⟨b, r, ht, hb⟩ := dec_first h hW
  have hr := dec_range h
  generalize exN ex - (P.length : Int) = p at *
  generalize valL (W ++ P) = V at *
  generalize ownS W P pt ++ exS ex = t at *
  have hb2 := isD_iff.1 hb
  have ht1 : 1 ≤ t.length := by rw [ht]; simp
  have hr2 : ∀ b ∈ 45 :: t, 33 ≤ b.toNat ∧ b.toNat ≤ 127 := by
    intro b hb
    rcases List.mem_cons.1 hb with hb | hb
    · subst hb
      decide
    · exact hr b hb
  have hTr := Far.mk (ustr_Trim (l := 45 :: t) ⟨by simp; omega, hr2⟩)
  have hNa := Far.mk (nt_narrow (l := 45 :: t) (by simp) (by simp; omega) (fun b hb => (hr2 b hb).2))
  have hH := Far.mk (nt_hex_no (l := 45 :: t) (by simp; omega) (.inr (.inl (by simp))))
  have hS := Far.mk (nt_signed_minus (l := t) (by omega))
  have hDc := nt_decimal (l := t) (by omega)
  rw [hD] at hDc
  replace hDc := Far.mk hDc
  have hsz := S_size t
  have he : (S t).toList.isEmpty = false := by rw [Lib.toList_data, S_lst, ht]; rfl
  have he2 : (S (45 :: t)).toList.isEmpty = false := by rw [Lib.toList_data, S_lst]; rfl
  have hInf : ((S t).toList == [73, 110, 102, 105, 110, 105, 116, 121]) = false := by
    rw [Lib.toList_data, S_lst, ht]
    exact first_ne (by rintro rfl; simp at hb2)
  replace hfin := Far.mk hfin
  clear h hW ha hR hT hD hb hb2 ht hr hr2
  generalize S (wide (45 :: t)) = s0 at *
  generalize S (45 :: t) = s1 at *
  unfold NegQ
  go_enter Tryz.func13, Tryz.ntmps13
  go_wp2_with fail
  with_reducible refine (hTr.out _).mono ?_
  rintro e w1 ⟨rfl, hb1⟩
  go_wp2_with fail
  with_reducible refine (hNa.out _).mono ?_
  rintro e w2 ⟨rfl, hb2⟩
  replace hb2 := hb1.trans (hb2.mono hb1.size)
  clear hb1
  go_wp2_with fail
  with_reducible refine (hH.out _).mono ?_
  rintro e w' ⟨rfl, hw⟩
  replace hw := hw.symm
  subst hw
  go_wp2_with fail
  with_reducible refine (hS.out _).mono ?_
  rintro e w' ⟨rfl, hw⟩
  replace hw := hw.symm
  subst hw
  go_wp2_with fail
  with_reducible refine (hDc.out _).mono ?_
  rintro e w' ⟨rfl, hw⟩
  replace hw := hw.symm
  subst hw
  go_wp2_with fail
  with_reducible refine (hF.out _ hb2).mono ?_
  rintro e w3 ⟨R, rfl, hr, hb3⟩
  replace hb3 := hb2.trans (hb3.mono hb2.size)
  have hmr := run_fmul (neg_mul_rung (hfin.out R hr)) 24
  replace hr := Far.mk hr
  clear hb2
  go_wp2_with fail
  go_ret
  exact ⟨R, rfl, hr.out, hb3⟩
end Us
end Go.Proofs.YtdpbpdhamekcdaaGreatDoor
namespace Go.Proofs.YtdpbpdhamekcdaaGreatDoor
open Go.RowKit
namespace Us
open Nv

theorem ustr_Unit0 {l : List UInt8} (hl : l.length ≤ 100000) (h : 0 < l.length) (w : World) : Calls Tryz.prog 121 #[.string (S (wide l)), .int .i64 0] w fun e w' => e = .returned (.tuple #[.int .u16 (l[0].toNat : Int), .bool true]) ∧ ∃ q, w' = w.drewN q := by
  have hlen : Far (∀ W, Calls Tryz.prog 97 #[.string (S (wide l))] W fun e w' => e = .returned (.int .i64 (l.length : Int)) ∧ w' = W) := ⟨fun W => by
    have hsz : (S (wide l)).size = 2 * l.length := by rw [S_size, wide_length]
    have := ustr_Len2 (S (wide l)) W (by unfold maxLen; omega)
    rw [hsz, show 2 * l.length / 2 = l.length by omega] at this
    exact this.mono fun e w' ⟨h1, h2⟩ => ⟨h1, h2.symm⟩⟩
  have hu := Far.mk (fun W => unit_wide hl h W)
  rw [show ((0 : Nat) : Int) = 0 from rfl] at hu
  obtain ⟨n, hn⟩ : ∃ n, l.length = n := ⟨_, rfl⟩
  rw [hn] at hlen
  have hz : 1 ≤ n := by omega
  generalize l[0].toNat = q at *
  generalize S (wide l) = s at *
  clear hn h
  go_enter Tryz.func121, Tryz.ntmps121
  go_wp2_with fail
  with_reducible refine (hlen.out _).mono ?_
  rintro e w' ⟨rfl, hw⟩
  replace hw := hw.symm
  subst hw
  go_wp2_with fail
  with_reducible refine (hu.out _).mono ?_
  rintro e w' ⟨rfl, n, rfl⟩
  go_wp2_with fail
  go_ret2
  exact ⟨rfl, _, rfl⟩
set_option maxRecDepth 100000 in
theorem ustr_SliceAll {l : List UInt8} (hl : l.length ≤ 100000) (h : 0 < l.length) (w : World) : Calls Tryz.prog 122 #[.string (S (wide l)), .int .i64 0, .int .i64 (l.length : Int)] w fun e w' => e = .returned (.string (S (wide l))) ∧ ∃ q, w' = w.drewN q := by
  have hsz : (S (wide l)).size = 2 * l.length := by rw [S_size, wide_length]
  have hlen : ∀ W, Calls Tryz.prog 97 #[.string (S (wide l))] W fun e w' => e = .returned (.int .i64 (l.length : Int)) ∧ w' = W := fun W => by
    have := ustr_Len2 (S (wide l)) W (by unfold maxLen; omega)
    rw [hsz, show 2 * l.length / 2 = l.length by omega] at this
    exact this.mono fun e w' ⟨h1, h2⟩ => ⟨h1, h2.symm⟩
  have hx : (S (wide l)).extract 0 (2 * l.length) = S (wide l) := by
    rw [S_extract, List.drop_zero, List.take_of_length_le (by rw [wide_length]; omega)]
  have hlen := Far.mk hlen
  generalize S (wide l) = s at *
  generalize l.length = n at *
  obtain ⟨m, hm⟩ : ∃ m, 2 * n = m := ⟨_, rfl⟩
  have hm2 : 2 * (n : Int) = (m : Int) := by omega
  have hmb : m ≤ 200000 := by omega
  rw [hm] at hsz hx
  clear hm
  go_enter Tryz.func122, Tryz.ntmps122
  go_wp2_with fail
  with_reducible refine (hlen.out _).mono ?_
  rintro e w' ⟨rfl, hw⟩
  replace hw := hw.symm
  subst hw
  go_wp2_with fail
  go_ret
  exact ⟨rfl, 0, rfl⟩
theorem nt_ahead {l : List UInt8} (hl : l.length ≤ 100000) {b : UInt8} (h0 : l[0]? = some b) (hb : 33 ≤ b.toNat ∧ b.toNat ≤ 127) (w : World) : Calls Tryz.prog 62 #[.string (S (wide l))] w fun e w' => e = .returned (.string (S (wide l))) ∧ Below w.heap.size w w' := by
  have h := (List.getElem?_eq_some_iff.1 h0).1
  have hbe : l[0] = b := (List.getElem?_eq_some_iff.1 h0).2
  have hU := Far.mk (fun W => ustr_Unit0 hl h W)
  have hS := Far.mk (fun W => ustr_SliceAll hl h W)
  have hlen : Far (∀ W, Calls Tryz.prog 97 #[.string (S (wide l))] W fun e w' => e = .returned (.int .i64 (l.length : Int)) ∧ w' = W) := ⟨fun W => by
    have hsz : (S (wide l)).size = 2 * l.length := by rw [S_size, wide_length]
    have := ustr_Len2 (S (wide l)) W (by unfold maxLen; omega)
    rw [hsz, show 2 * l.length / 2 = l.length by omega] at this
    exact this.mono fun e w' ⟨h1, h2⟩ => ⟨h1, h2.symm⟩⟩
  obtain ⟨c, hc⟩ : ∃ c : Int, ((l[0].toNat : Nat) : Int) = c := ⟨_, rfl⟩
  have hc1 : 33 ≤ c := by rw [← hc, hbe]; omega
  have hc2 : c ≤ 127 := by rw [← hc, hbe]; omega
  rw [hc] at hU
  have hSp := Far.mk (fun W => ustr_Space hc1 hc2 W)
  have hEn := Far.mk (fun W => ustr_Ends hc1 hc2 W)
  clear hc hbe hb h0
  generalize S (wide l) = s at *
  generalize l.length = n at *
  go_enter Tryz.func62, Tryz.ntmps62
  go_wp2_with fail
  refine wp_loop_once ?_
  go_wp2_with fail
  with_reducible refine (hU.out _).mono ?_
  rintro e w1 ⟨rfl, q1, rfl⟩
  have hb1 : Below w.heap.size w (w.drewN q1) := below_drawn (Below.refl _ _)
  generalize w.drewN q1 = w1 at *
  go_wp2_with fail
  with_reducible refine (hSp.out _).mono ?_
  rintro e w' ⟨rfl, hw⟩
  replace hw := hw.symm
  subst hw
  go_wp2_with fail
  with_reducible refine (hEn.out _).mono ?_
  rintro e w' ⟨rfl, hw⟩
  replace hw := hw.symm
  subst hw
  go_wp2_with fail
  with_reducible refine (hlen.out _).mono ?_
  rintro e w' ⟨rfl, hw⟩
  replace hw := hw.symm
  subst hw
  go_wp2_with fail
  with_reducible refine (hS.out _).mono ?_
  rintro e w2 ⟨rfl, q2, rfl⟩
  replace hb1 := Go.below_drewN hb1 q2
  generalize w1.drewN q2 = w2 at *
  go_wp2_with fail
  go_ret
  exact ⟨rfl, hb1⟩
end Us
end Go.Proofs.YtdpbpdhamekcdaaGreatDoor
namespace Go.Proofs.YtdpbpdhamekcdaaGreatDoor
open Go.RowKit
namespace Us
open Nv

/-- What Literal tells of a decimal. -/
def LitQ (V : Nat) (p : Int) (w : World) (x : Ending) (w' : World) : Prop := ∃ R, x = .returned (.tuple #[.float .f64 R, .bool true]) ∧ Rnd R (V * hiP p * tiny) (loQ p) ∧ Below w.heap.size w w'
/-- A literal has no nought ahead of digits. -/
def Plain (l : List UInt8) : Prop := l[0]? ≠ some 48 ∨ lead l ≤ 1
set_option maxRecDepth 100000 in
theorem nt_Literal_dec {W P : List UInt8} {pt : Bool} {ex} (h : IsDec W P pt ex) (hW : W ≠ []) (hl : (ownS W P pt ++ exS ex).length ≤ 999) (hx : NoHex (ownS W P pt ++ exS ex)) (hpl : Plain (ownS W P pt ++ exS ex)) {w : World} (hR : Rdt w) (hT : Tabs w)
    (ha : (W ++ P).dropWhile (· == 48) ≠ [] → -400 ≤ atOf W P ex ∧ atOf W P ex ≤ 400 ∧ Sharp ((W ++ P).dropWhile (· == 48)) (atOf W P ex)) :
    Calls Tryz.prog 22 #[.string (S (wide (ownS W P pt ++ exS ex)))] w (LitQ (valL (W ++ P)) (exN ex - (P.length : Int)) w) := by
  have hF : Far (∀ W0, Below w.heap.size w W0 → Calls Tryz.prog 51 #[.string (S (ownS W P pt ++ exS ex))] W0 (NumQ (valL (W ++ P)) (exN ex - (P.length : Int)) W0)) := ⟨fun W0 hb => nt_float h (hR.keep hb) (hT.keep hb) ha⟩
  have hD := decN_own h
  obtain ⟨b, r, ht, hb⟩ := dec_first h hW
  have hr := dec_range h
  generalize exN ex - (P.length : Int) = p at *
  generalize valL (W ++ P) = V at *
  generalize ownS W P pt ++ exS ex = t at *
  have hb2 := isD_iff.1 hb
  have h0 : t[0]? = some b := by rw [ht]; rfl
  have ht1 : 1 ≤ t.length := by rw [ht]; simp
  have hNa := Far.mk (nt_narrow (l := t) ht1 (by omega) (fun b hb => (hr b hb).2))
  have hH := Far.mk (nt_hex_no (l := t) (by omega) hx)
  have hDg := nt_digits (l := t) (by omega)
  have hDc := nt_decimal (l := t) (by omega)
  rw [hD] at hDc
  replace hDc := Far.mk hDc
  have hsz := S_size t
  have hc := S_byte (S_lt (show 0 < t.length from ht1)) h0
  have he : (S t).toList.isEmpty = false := by rw [Lib.toList_data, S_lst, ht]; rfl
  unfold LitQ
  by_cases g : b = 48
  · obtain ⟨d, hd⟩ : ∃ d, lead t = d := ⟨_, rfl⟩
    have hd1 : d ≤ 1 := by
      rcases hpl with h | h
      · exact absurd (by rw [h0, g]) h
      · omega
    rw [hd] at hDg
    replace hDg := Far.mk hDg
    rw [g, show (48 : UInt8).toNat = 48 from rfl] at hc
    clear h hW ha hx hR hT hD hb hb2 h0 ht hr hpl g hd
    go_enter Tryz.func22, Tryz.ntmps22
    go_wp2_with fail
    with_reducible refine (hNa.out _).mono ?_
    rintro e w2 ⟨rfl, hb2⟩
    go_wp2_with fail
    with_reducible refine (hH.out _).mono ?_
    rintro e w' ⟨rfl, hw⟩
    replace hw := hw.symm
    subst hw
    go_wp2_with fail
    with_reducible refine (hDc.out _).mono ?_
    rintro e w' ⟨rfl, hw⟩
    replace hw := hw.symm
    subst hw
    go_wp2_with fail
    with_reducible refine (hDg.out _).mono ?_
    rintro e w' ⟨rfl, hw⟩
    replace hw := hw.symm
    subst hw
    go_wp2_with fail
    with_reducible refine (hF.out _ hb2).mono ?_
    rintro e w3 ⟨R, rfl, hr, hb3⟩
    replace hb3 := hb2.trans (hb3.mono hb2.size)
    replace hr := Far.mk hr
    clear hb2
    go_wp2_with fail
    go_ret2
    exact ⟨R, rfl, hr.out, hb3⟩
  · have e0 : ((b.toNat : Int) == 48) = false := u8_ne rfl g
    generalize b.toNat = q at *
    clear h hW ha hx hR hT hD hb hb2 h0 ht hr hpl g hDg
    go_enter Tryz.func22, Tryz.ntmps22
    go_wp2_with fail
    with_reducible refine (hNa.out _).mono ?_
    rintro e w2 ⟨rfl, hb2⟩
    go_wp2_with fail
    with_reducible refine (hH.out _).mono ?_
    rintro e w' ⟨rfl, hw⟩
    replace hw := hw.symm
    subst hw
    go_wp2_with fail
    with_reducible refine (hDc.out _).mono ?_
    rintro e w' ⟨rfl, hw⟩
    replace hw := hw.symm
    subst hw
    go_wp2_with fail
    with_reducible refine (hF.out _ hb2).mono ?_
    rintro e w3 ⟨R, rfl, hr, hb3⟩
    replace hb3 := hb2.trans (hb3.mono hb2.size)
    replace hr := Far.mk hr
    clear hb2
    go_wp2_with fail
    go_ret2
    exact ⟨R, rfl, hr.out, hb3⟩
set_option maxRecDepth 100000 in
/-- Of a text that begins with neither a digit nor a point Literal tells none. -/
theorem nt_Literal_no {t : List UInt8} (ht1 : 1 ≤ t.length) (hl : t.length ≤ 1000) (hr : ∀ b ∈ t, b.toNat ≤ 127) (hf : ∀ b, t.head? = some b → isD b = false ∧ b ≠ 46) (w : World) :
    Calls Tryz.prog 22 #[.string (S (wide t))] w fun x w' => x = .returned (.tuple #[.float .f64 0, .bool false]) ∧ Below w.heap.size w w' := by
  have hx : NoHex t := by
    right
    left
    intro hh
    rw [← List.head?_eq_getElem?] at hh
    have := (hf _ hh).1
    revert this
    decide
  have hNa := Far.mk (nt_narrow (l := t) ht1 hl hr)
  have hH := Far.mk (nt_hex_no (l := t) (by omega) hx)
  have hDc := nt_decimal (l := t) (by omega)
  rw [decN_none hf] at hDc
  replace hDc := Far.mk hDc
  have hsz := S_size t
  have he : (S t).toList.isEmpty = false := by
    rw [Lib.toList_data, S_lst]
    cases t
    · simp at ht1
    · rfl
  have hz : ((t.length : Int) == 0) = false := beq_eq_false_iff_ne.2 (by omega)
  have hz2 : ((0 : Int) == (t.length : Int)) = false := beq_eq_false_iff_ne.2 (by omega)
  clear hf hr hx
  go_enter Tryz.func22, Tryz.ntmps22
  go_wp2_with fail
  with_reducible refine (hNa.out _).mono ?_
  rintro e w2 ⟨rfl, hb2⟩
  go_wp2_with fail
  with_reducible refine (hH.out _).mono ?_
  rintro e w' ⟨rfl, hw⟩
  replace hw := hw.symm
  subst hw
  go_wp2_with fail
  with_reducible refine (hDc.out _).mono ?_
  rintro e w' ⟨rfl, hw⟩
  replace hw := hw.symm
  subst hw
  go_wp2_with fail
  go_ret2
  exact ⟨rfl, hb2⟩
end Us
end Go.Proofs.YtdpbpdhamekcdaaGreatDoor
