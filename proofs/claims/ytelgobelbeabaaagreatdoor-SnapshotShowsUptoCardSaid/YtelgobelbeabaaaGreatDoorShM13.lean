/-
  Contracts of ustr.Encode and quillref01.Encode at wide texts of letters below 128: the letters. Contracts of quillref03.text, Text and Shortest: a float's text. Condition: the float is a float of 64 bits. Contracts of strconv.FormatFloat(x, 'e', -1, 64) and what it calls: the shortest digits with an exponent. Conditions: the float is a number above nought; the tables of powers of ten lie where they lie. Plain laws: a number with an exponent taken apart again. No program in sight; no condition. Contracts of strconv.FormatFloat(x, 'e', -1, 64) and of numtext.shortest. Conditions: the float is a number above nought; the tables of powers of ten lie where they lie.
-/
import Derived.Test.YtelgobelbeabaaaGreatDoorShM12
import Derived.Test.YtelgobelbeabaaaGreatDoorShM9
import Derived.Test.YtelgobelbeabaaaGreatDoorShM11
import Derived.Lib.IndexMore
import Derived.Lib.Replace
import Derived.Lib.Atoi
import Derived.Lib.AtoiErrMem
import Derived.Deep.AppendLies
namespace Go.Proofs.YtelgobelbeabaaaGreatDoor
open Go.RowKit
namespace Us
open Nv

theorem wide_get0 (l : List UInt8) (k : Nat) : (wide l).getD (2 * k) 0 = 0 := by
  induction l generalizing k with
  | nil => simp [wide]
  | cons b r ih =>
    cases k with
    | zero => rfl
    | succ k =>
      show (0 :: b :: wide r).getD (2 * k + 2) 0 = 0
      simpa [List.getD_cons_succ] using ih k
theorem wide_get1 (l : List UInt8) (k : Nat) : (wide l).getD (2 * k + 1) 0 = l.getD k 0 := by
  induction l generalizing k with
  | nil => simp [wide]
  | cons b r ih =>
    cases k with
    | zero => rfl
    | succ k =>
      show (0 :: b :: wide r).getD (2 * k + 3) 0 = (b :: r).getD (k + 1) 0
      simpa [List.getD_cons_succ] using ih k
theorem un_wide (l : List UInt8) (k : Nat) : un ⟨(wide l).toArray⟩ k = (l.getD k 0).toNat := by
  unfold un
  show ((wide l).getD (2 * k) 0).toNat * 256 + ((wide l).getD (2 * k + 1) 0).toNat = _
  rw [wide_get0, wide_get1]
  simp
theorem wide_size (l : List UInt8) : (⟨(wide l).toArray⟩ : ByteArray).size = 2 * l.length := by
  show (wide l).toArray.size = _
  rw [List.size_toArray, wide_length]
set_option maxRecDepth 100000 in
theorem as_high {c : Nat} (h : c < 128) (w : World) : Calls Tryz.prog 26 #[.int .u16 (c : Int)] w fun e w' => e = .returned (.bool false) ∧ w' = w := by
  have h1 : decide ((55296 : Int) ≤ (c : Int)) = false := by rw [decide_eq_false_iff_not]; omega
  clear h
  go_enter Tryz.func26, Tryz.ntmps26
  go_wp2
  go_ret
  exact ⟨rfl, rfl⟩
set_option maxRecDepth 100000 in
theorem as_low {c : Nat} (h : c < 128) (w : World) : Calls Tryz.prog 27 #[.int .u16 (c : Int)] w fun e w' => e = .returned (.bool false) ∧ w' = w := by
  have h1 : decide ((56320 : Int) ≤ (c : Int)) = false := by rw [decide_eq_false_iff_not]; omega
  clear h
  go_enter Tryz.func27, Tryz.ntmps27
  go_wp2
  go_ret
  exact ⟨rfl, rfl⟩
set_option maxRecDepth 100000 in
theorem ra_high {c : Nat} (h : c < 128) (w : World) : Calls Tryz.prog 66 #[.int .u16 (c : Int)] w fun e w' => e = .returned (.bool false) ∧ w' = w := by
  have h1 : decide ((55296 : Int) ≤ (c : Int)) = false := by rw [decide_eq_false_iff_not]; omega
  clear h
  go_enter Tryz.func66, Tryz.ntmps66
  go_wp2
  go_ret
  exact ⟨rfl, rfl⟩
set_option maxRecDepth 100000 in
theorem ra_low {c : Nat} (h : c < 128) (w : World) : Calls Tryz.prog 67 #[.int .u16 (c : Int)] w fun e w' => e = .returned (.bool false) ∧ w' = w := by
  have h1 : decide ((56320 : Int) ≤ (c : Int)) = false := by rw [decide_eq_false_iff_not]; omega
  clear h
  go_enter Tryz.func67, Tryz.ntmps67
  go_wp2
  go_ret
  exact ⟨rfl, rfl⟩
theorem as_even {s : ByteArray} {n : Nat} (hs : s.size = 2 * n) (hn : n ≤ 8000000) (w : World) : Calls Tryz.prog 23 #[.string s] w fun e w' => e = .returned (.string s) ∧ w' = w := by
  have h1 : bits .andNot .i64 (s.size : Int) 1 = (s.size : Int) := by rw [i64_andNot1 _ (by omega), hs]; omega
  have h2 : s.extract 0 s.size = s := ByteArray.extract_zero_size
  obtain ⟨m, hm⟩ : ∃ m, s.size = m := ⟨_, rfl⟩
  have h3 : m ≤ 16000000 := by omega
  rw [hm] at h1 h2
  clear hs hn
  go_enter Tryz.func23, Tryz.ntmps23
  go_wp2
  go_ret
  exact ⟨rfl, rfl⟩
/-- A letter behind a row. -/
def AscQ (base : Nat) (l : List UInt8) (c : UInt8) (w : World) (x : Ending) (w' : World) : Prop := ∃ v, x = .returned v ∧ B8 w' base v (l ++ [c]) ∧ Below base w w'
theorem as_rune {base : Nat} {v : Value} {l : List UInt8} {c : UInt8} {w : World} (hown : B8 w base v l) (hb : base ≤ w.heap.size) (hc : c.toNat < 128) (hl : l.length ≤ 3900000) :
    Calls Tryz.prog 28 #[v, .int .i32 (c.toNat : Int)] w (AscQ base l c w) := by
  obtain ⟨d, hd⟩ : ∃ d, c.toNat = d := ⟨_, rfl⟩
  have HC : Far (#[Value.int .u8 (d : Int)] = (bv [c]).toArray) := ⟨by rw [← hd]; rfl⟩
  rw [hd] at hc ⊢
  unfold AscQ
  have w1 : IntKind.u32.wrap (d : Int) = (d : Int) := by rw [IntKind.wrap_u32] <;> omega
  have w2 : IntKind.u8.wrap (d : Int) = (d : Int) := by rw [IntKind.wrap_u8] <;> omega
  have h1 : (d : Int) ≤ 127 := by omega
  clear hd hc
  go_enter Tryz.func28, Tryz.ntmps28
  go_wp2_with (at_builtin; go_must (refine append_new rfl _ _ rfl base (v := v) rfl hown rfl (bs := [c]) rfl HC.out (by simp only [List.length_cons, List.length_nil]; omega) hb ?_))
  intro v' w2 hB2 hg2
  have hF2 := Far.mk (below_grown (Below.refl base w) hb hown (Nat.le_refl _) hg2)
  clear hown hg2
  go_wp2_with fail
  go_ret
  exact ⟨_, rfl, hB2, hF2.out⟩
theorem ra_rune {base : Nat} {v : Value} {l : List UInt8} {c : UInt8} {w : World} (hown : B8 w base v l) (hb : base ≤ w.heap.size) (hc : c.toNat < 128) (hl : l.length ≤ 3900000) :
    Calls Tryz.prog 68 #[v, .int .u32 (c.toNat : Int)] w (AscQ base l c w) := by
  obtain ⟨d, hd⟩ : ∃ d, c.toNat = d := ⟨_, rfl⟩
  have HC : Far (#[Value.int .u8 (d : Int)] = (bv [c]).toArray) := ⟨by rw [← hd]; rfl⟩
  rw [hd] at hc ⊢
  unfold AscQ
  have w2 : IntKind.u8.wrap (d : Int) = (d : Int) := by rw [IntKind.wrap_u8] <;> omega
  have h1 : (d : Int) < 128 := by omega
  clear hd hc
  go_enter Tryz.func68, Tryz.ntmps68
  go_wp2_with (at_builtin; go_must (refine append_new rfl _ _ rfl base (v := v) rfl hown rfl (bs := [c]) rfl HC.out (by simp only [List.length_cons, List.length_nil]; omega) hb ?_))
  intro v' w2 hB2 hg2
  have hF2 := Far.mk (below_grown (Below.refl base w) hb hown (Nat.le_refl _) hg2)
  clear hown hg2
  go_wp2_with fail
  go_ret
  exact ⟨_, rfl, hB2, hF2.out⟩
/-- What Encode tells. -/
def EncQ (l : List UInt8) (w : World) (x : Ending) (w' : World) : Prop := x = .returned (.string ⟨l.toArray⟩) ∧ Below w.heap.size w w'
theorem take_get {l : List UInt8} {k : Nat} (h : k < l.length) : l.take (k + 1) = l.take k ++ [l.getD k 0] := by
  rw [List.take_succ_eq_append_getElem h, List.getD_eq_getElem?_getD, List.getElem?_eq_getElem h]
  rfl
set_option maxRecDepth 100000 in
set_option maxHeartbeats 4000000 in
theorem us_Encode {l : List UInt8} (hl : l.length ≤ 3800000) (ha : ∀ k, k < l.length → (l.getD k 0).toNat < 128) (w : World) : Calls Tryz.prog 11 #[.string ⟨(wide l).toArray⟩] w (EncQ l w) := by
  have hs := wide_size l
  have hE := Far.mk (as_even hs (by omega))
  have hL := Far.mk (sh_Len hs (by omega))
  have hU : ∀ k, k < l.length → Far (∀ w, Calls Tryz.prog 25 #[.string ⟨(wide l).toArray⟩, .int .i64 (k : Int)] w fun e w' => e = .returned (.int .u16 ((l.getD k 0).toNat : Int)) ∧ ∃ q, w' = w.drewN q) := fun k h => ⟨fun w => by rw [← un_wide]; exact sh_unit hs (by omega) h w⟩
  have hT := fun k h => Far.mk (take_get (l := l) (k := k) h)
  have hn : Far (∀ k, (l.take k).length ≤ 3800000) := ⟨fun k => Nat.le_trans (by rw [List.length_take]; exact Nat.min_le_right _ _) hl⟩
  unfold EncQ
  clear hs
  obtain ⟨s, hs⟩ : ∃ s, (⟨(wide l).toArray⟩ : ByteArray) = s := ⟨_, rfl⟩
  rw [hs] at hE hL hU ⊢
  clear hs
  obtain ⟨n, hN⟩ : ∃ n, l.length = n := ⟨_, rfl⟩
  rw [hN] at hL hU hl ha hT
  have hfull : Far (l.take n = l) := ⟨by rw [← hN]; exact List.take_length⟩
  clear hN
  go_enter Tryz.func11, Tryz.ntmps11
  go_wp2_with (first
    | (go_at_call 23; go_must (with_reducible refine (hE.out _).mono ?_); rintro e w1 ⟨rfl, hw⟩; replace hw := hw.symm; subst hw)
    | (go_at_call 24; go_must (with_reducible refine (hL.out _).mono ?_); rintro e w1 ⟨rfl, hw⟩; replace hw := hw.symm; subst hw))
  go_loopw [3, 4, 6, 7] (fun v i _ _ wr => ∃ k : Nat, k ≤ n ∧ i = .int .i64 k ∧ B8 wr w.heap.size v (l.take k) ∧ Far (Below w.heap.size w wr))
    (fun _ i _ _ _ => n - (intOf i).toNat)
  case atStart => exact ⟨0, Nat.zero_le _, rfl, B8.nil _ _, ⟨Below.refl _ _⟩⟩
  case round =>
    obtain ⟨k, hk, rfl, hB, hF⟩ := hrel
    have hsz := hF.out.size
    by_cases hlt : k < n
    · have hUk := hU k hlt
      have hak := ha k hlt
      have hTk := hT k hlt
      have hnk := Far.mk (hn.out k)
      clear hU ha hT hn hfull
      obtain ⟨c, hc⟩ : ∃ c, l.getD k 0 = c := ⟨_, rfl⟩
      rw [hc] at hUk hak hTk
      clear hc
      have H1 := Far.mk (as_high hak)
      have H2 := Far.mk (as_low hak)
      have hA : Far (∀ v w', B8 w' w.heap.size v (l.take k) → w.heap.size ≤ w'.heap.size → Calls Tryz.prog 28 #[v, .int .i32 (c.toNat : Int)] w' (AscQ w.heap.size (l.take k) c w')) := ⟨fun v w' h h2 => as_rune h h2 hak (Nat.le_trans hnk.out (by omega))⟩
      obtain ⟨d, hd⟩ : ∃ d, c.toNat = d := ⟨_, rfl⟩
      rw [hd] at hUk hak H1 H2 hA
      clear hd
      have w1 : IntKind.i32.wrap (d : Int) = (d : Int) := by rw [IntKind.wrap_i32] <;> omega
      go_wp2_with (first
        | (go_at_call 25; go_must (with_reducible refine (hUk.out _).mono ?_); rintro e w9 ⟨rfl, q, rfl⟩; replace hB : B8 (wr.drewN q) w.heap.size _ (l.take k) := hB.drewN q; replace hF : Far (Below w.heap.size w (wr.drewN q)) := ⟨Go.below_drewN hF.out q⟩; replace hsz := hF.out.size)
        | (go_at_call 26; go_must (with_reducible refine (H1.out _).mono ?_); rintro e w1 ⟨rfl, hw⟩; replace hw := hw.symm; subst hw)
        | (go_at_call 27; go_must (with_reducible refine (H2.out _).mono ?_); rintro e w1 ⟨rfl, hw⟩; replace hw := hw.symm; subst hw)
        | (go_at_call 28; go_must (with_reducible refine ((hA.out _ _ hB hsz) : Calls Tryz.prog _ _ _ (AscQ w.heap.size (l.take k) c _)).mono ?_); rintro e w2 ⟨v', rfl, hB2, hb2⟩))
      rw [← hTk.out] at hB2
      have hF2 := Far.mk (hF.out.trans hb2)
      clear hB hb2 hF hA
      go_wp2_with fail
      go_roundw
      case rel => exact ⟨k + 1, by omega, by go_num, hB2, hF2⟩
      case measure => simp [intOf]; omega
    · have hke : k = n := by omega
      subst hke
      rw [hfull.out] at hB
      have hcv := run_string_own (P := Tryz.prog) wr 51 9 5 _ hB Tryz.underlying51 Tryz.underlying5 Tryz.underlying9
      go_wp2_with fail
      go_ret
      exact ⟨rfl, hF.out⟩
set_option maxRecDepth 100000 in
set_option maxHeartbeats 4000000 in
theorem ref_Encode {l : List UInt8} (hl : l.length ≤ 3800000) (ha : ∀ k, k < l.length → (l.getD k 0).toNat < 128) (w : World) : Calls Tryz.prog 32 #[.string ⟨(wide l).toArray⟩] w (EncQ l w) := by
  have hs := wide_size l
  have hL := Far.mk (sh_rLen hs (by omega))
  have hU : ∀ k, k < l.length → Far (∀ w, Calls Tryz.prog 65 #[.string ⟨(wide l).toArray⟩, .int .i64 (k : Int)] w fun e w' => e = .returned (.int .u16 ((l.getD k 0).toNat : Int)) ∧ ∃ q, w' = w.drewN q) := fun k h => ⟨fun w => by rw [← un_wide]; exact sh_at hs (by omega) h w⟩
  have hT := fun k h => Far.mk (take_get (l := l) (k := k) h)
  have hn : Far (∀ k, (l.take k).length ≤ 3800000) := ⟨fun k => Nat.le_trans (by rw [List.length_take]; exact Nat.min_le_right _ _) hl⟩
  unfold EncQ
  clear hs
  obtain ⟨s, hs⟩ : ∃ s, (⟨(wide l).toArray⟩ : ByteArray) = s := ⟨_, rfl⟩
  rw [hs] at hL hU ⊢
  clear hs
  obtain ⟨n, hN⟩ : ∃ n, l.length = n := ⟨_, rfl⟩
  rw [hN] at hL hU hl ha hT
  have hfull : Far (l.take n = l) := ⟨by rw [← hN]; exact List.take_length⟩
  clear hN
  go_enter Tryz.func32, Tryz.ntmps32
  go_wp2_with fail
  go_loopw [3, 4, 5] (fun v i _ wr => ∃ k : Nat, k ≤ n ∧ i = .int .i64 k ∧ B8 wr w.heap.size v (l.take k) ∧ Far (Below w.heap.size w wr))
    (fun _ i _ _ => n - (intOf i).toNat)
  case atStart => exact ⟨0, Nat.zero_le _, rfl, B8.nil _ _, ⟨Below.refl _ _⟩⟩
  case round =>
    obtain ⟨k, hk, rfl, hB, hF⟩ := hrel
    have hsz := hF.out.size
    by_cases hlt : k < n
    · have hUk := hU k hlt
      have hak := ha k hlt
      have hTk := hT k hlt
      have hnk := Far.mk (hn.out k)
      clear hU ha hT hn hfull
      obtain ⟨c, hc⟩ : ∃ c, l.getD k 0 = c := ⟨_, rfl⟩
      rw [hc] at hUk hak hTk
      clear hc
      have H1 := Far.mk (ra_high hak)
      have H2 := Far.mk (ra_low hak)
      have hA : Far (∀ v w', B8 w' w.heap.size v (l.take k) → w.heap.size ≤ w'.heap.size → Calls Tryz.prog 68 #[v, .int .u32 (c.toNat : Int)] w' (AscQ w.heap.size (l.take k) c w')) := ⟨fun v w' h h2 => ra_rune h h2 hak (Nat.le_trans hnk.out (by omega))⟩
      obtain ⟨d, hd⟩ : ∃ d, c.toNat = d := ⟨_, rfl⟩
      rw [hd] at hUk hak H1 H2 hA
      clear hd
      have w1 : IntKind.u32.wrap (d : Int) = (d : Int) := by rw [IntKind.wrap_u32] <;> omega
      go_wp2_with (first
        | (go_at_call 35; go_must (with_reducible refine (hL.out _).mono ?_); rintro e w1 ⟨rfl, hw⟩; replace hw := hw.symm; subst hw)
        | (go_at_call 65; go_must (with_reducible refine (hUk.out _).mono ?_); rintro e w9 ⟨rfl, q, rfl⟩; replace hB : B8 (wr.drewN q) w.heap.size _ (l.take k) := hB.drewN q; replace hF : Far (Below w.heap.size w (wr.drewN q)) := ⟨Go.below_drewN hF.out q⟩; replace hsz := hF.out.size)
        | (go_at_call 66; go_must (with_reducible refine (H1.out _).mono ?_); rintro e w1 ⟨rfl, hw⟩; replace hw := hw.symm; subst hw)
        | (go_at_call 67; go_must (with_reducible refine (H2.out _).mono ?_); rintro e w1 ⟨rfl, hw⟩; replace hw := hw.symm; subst hw)
        | (go_at_call 68; go_must (with_reducible refine ((hA.out _ _ hB hsz) : Calls Tryz.prog _ _ _ (AscQ w.heap.size (l.take k) c _)).mono ?_); rintro e w2 ⟨v', rfl, hB2, hb2⟩))
      rw [← hTk.out] at hB2
      have hF2 := Far.mk (hF.out.trans hb2)
      clear hB hb2 hF hA
      go_wp2_with fail
      go_roundw
      case rel => exact ⟨k + 1, by omega, by go_num, hB2, hF2⟩
      case measure => simp [intOf]; omega
    · have hke : k = n := by omega
      subst hke
      rw [hfull.out] at hB
      have hcv := run_string_own (P := Tryz.prog) wr 51 9 5 _ hB Tryz.underlying51 Tryz.underlying5 Tryz.underlying9
      go_wp2_with (go_at_call 35; go_must (with_reducible refine (hL.out _).mono ?_); rintro e w1 ⟨rfl, hw⟩; replace hw := hw.symm; subst hw)
      go_ret
      exact ⟨rfl, hF.out⟩
end Us
end Go.Proofs.YtelgobelbeabaaaGreatDoor
namespace Go.Proofs.YtelgobelbeabaaaGreatDoor
open Go.RowKit
namespace Us
open Nv

theorem math_IsInf1 {f : Nat} {b : Bool} (h : (FloatKind.f64.format.order f 9218868437227405311 == some .gt) = b) (w : World) : Calls Tryz.prog 59 #[.float .f64 f, .int .i64 1] w fun e w' => e = .returned (.bool b) ∧ w' = w := by
  go_enter Tryz.func59, Tryz.ntmps59
  go_wp2
  go_ret
  exact ⟨rfl, rfl⟩
attribute [local go_sem] S_append S_dot S_size
theorem S_zd (a : List UInt8) : (⟨#[48, 46]⟩ : ByteArray) ++ S a = S ([48, 46] ++ a) := S_append [48, 46] a
attribute [local go_sem] S_zd
theorem expS_len (l : List UInt8) (e : Int) (hl : l.length ≤ 40) (he : -1000 ≤ e ∧ e ≤ 1000) : (expS l e).length ≤ 100 := by
  have d1 := digs_len (k := e.toNat) (by omega)
  have d2 := digs_len (k := (-e).toNat) (by omega)
  unfold expS
  rw [List.length_append]
  have a : (if 1 < l.length then l.take 1 ++ [46] ++ l.drop 1 else l.take 1).length ≤ 42 := by
    split
    · simp; omega
    · simp; omega
  have b : (if e < 0 then [101, 45] ++ digs 10 (-e).toNat else [101, 43] ++ digs 10 e.toNat).length ≤ 34 := by
    split
    · simp; omega
    · simp; omega
  omega
/-- What text tells of a positive number. -/
def PosQ (r : Nat) (w : World) (x : Ending) (w' : World) : Prop := ∃ c j, x = .returned (.string (S (txt c j))) ∧ Short r c j ∧ (txt c j).length ≤ 2000 ∧ Below w.heap.size w w'
set_option maxRecDepth 100000 in
set_option maxHeartbeats 1600000 in
theorem ref_text_pos {r : Nat} (h1 : 1 ≤ r) (h2 : r < infR) (w : World) : Calls Tryz.prog 34 #[.float .f64 r] w (PosQ r w) := by
  have hD := Far.mk (ref_Digits h1 h2 w)
  have o1 : FloatKind.f64.format.order r 0 = some .gt := (order_rung h2 (by decide)).trans (by rw [Nat.compare_eq_gt.2 (by omega)])
  have o2 : (FloatKind.f64.format.order r 9218868437227405311 == some .gt) = false := by
    rw [show FloatKind.f64.format.order r 9218868437227405311 = _ from order_rung h2 (show 9218868437227405311 < infR by decide)]
    rcases Nat.lt_or_ge r 9218868437227405311 with g | g
    · rw [Nat.compare_eq_lt.2 g]; rfl
    · rw [show r = 9218868437227405311 by unfold infR at h2; omega, Nat.compare_eq_eq.2 rfl]; rfl
  have o3 : FloatKind.f64.format.order r r = some .eq := (order_rung h2 h2).trans (by rw [Nat.compare_eq_eq.2 rfl])
  have hnan : nanB r = false := by unfold nanB; rw [o3]; rfl
  go_enter Tryz.func34, Tryz.ntmps34
  go_wp2_with (first
    | (go_at_call 59; refine (math_IsInf1 o2 _).mono ?_; rintro e w' ⟨rfl, hw⟩; replace hw := hw.symm; subst hw)
    | (go_at_call 56; refine (math_IsNaN r _).mono ?_; rintro e w' ⟨rfl, rfl⟩; rw [hnan]))
  with_reducible refine hD.out.mono ?_
  rintro x w3 ⟨c, j, rfl, hsh, hj1, hj2, hl, hb3⟩
  have hc := hsh.pos
  obtain ⟨c0, l0, hl0, -⟩ := digs_head (q := c) hc
  have hl1 : 1 ≤ (digs 10 c).length := by rw [hl0]; simp
  have hT : ∀ t, txt c j = t → t.length ≤ 2000 → ∀ w', Below w3.heap.size w3 w' → PosQ r w (.returned (.string (S t))) w' := fun t h h2 w' hb => ⟨c, j, by rw [h], hsh, by rw [h]; exact h2, hb3.trans (hb.mono hb3.size)⟩
  have hx : txt c j = (let n := j + ((digs 10 c).length : Int); if ((digs 10 c).length : Int) ≤ n ∧ n ≤ 21 then digs 10 c ++ List.replicate (n - ((digs 10 c).length : Int)).toNat 48
    else if 0 < n ∧ n ≤ 21 then (digs 10 c).take n.toNat ++ [46] ++ (digs 10 c).drop n.toNat
    else if -6 < n ∧ n ≤ 0 then [48, 46] ++ List.replicate (-n).toNat 48 ++ digs 10 c
    else expS (digs 10 c) (n - 1)) := rfl
  generalize txt c j = T at *
  generalize digs 10 c = l at *
  obtain ⟨n, hn⟩ : ∃ n, j + (l.length : Int) = n := ⟨_, rfl⟩
  rw [hn] at hx ⊢
  simp only at hx
  have hnb : -600 ≤ n ∧ n ≤ 600 := by omega
  have hsz := S_size l
  clear hl0 hsh hD o1 o2 o3 hnan hn hj1 hj2 hc h1 h2
  replace hT := Far.mk hT
  by_cases a1 : (l.length : Int) ≤ n ∧ n ≤ 21
  · rw [if_pos a1] at hx
    obtain ⟨a1, a2⟩ := a1
    replace hx := Far.mk hx
    go_wp2_with (go_at_call 71; go_must (with_reducible refine (ref_noughts (by omega)).mono ?_); rintro x w4 ⟨rfl, hw⟩; replace hw := hw.symm; subst hw)
    go_ret
    exact hT.out _ (hx.out.trans (by simp)) (by simp; omega) _ (Below.refl _ _)
  · rw [if_neg a1] at hx
    by_cases a2 : 0 < n ∧ n ≤ 21
    · rw [if_pos a2] at hx
      obtain ⟨a2, a3⟩ := a2
      have a4 : ¬ (l.length : Int) ≤ n := by omega
      have x1 : (S l).extract 0 n.toNat = S (l.take n.toNat) := by rw [S_extract, List.drop_zero]
      have x2 : (S l).extract n.toNat l.length = S (l.drop n.toNat) := by rw [S_extract, List.take_of_length_le (Nat.le_refl _)]
      replace hx := Far.mk hx
      clear a1
      go_wp2_with fail
      go_quiet (fail)
      go_wp2_with fail
      go_ret
      exact hT.out _ (hx.out.trans (by simp)) (by simp; omega) _ (below_drawn (Below.refl _ _))
    · rw [if_neg a2] at hx
      by_cases a3 : -6 < n ∧ n ≤ 0
      · rw [if_pos a3] at hx
        obtain ⟨a3, a4⟩ := a3
        have a5 : ¬ (l.length : Int) ≤ n := by omega
        replace hx := Far.mk hx
        clear a1 a2
        go_wp2_with (go_at_call 71; go_must (with_reducible refine (ref_noughts (by omega)).mono ?_); rintro x w4 ⟨rfl, hw⟩; replace hw := hw.symm; subst hw)
        go_ret
        exact hT.out _ hx.out (by simp; omega) _ (Below.refl _ _)
      · rw [if_neg a3] at hx
        replace hx := Far.mk hx
        have hE := fun W => Far.mk (ref_exponent (w := W) (l := l) (e := n - 1) (by omega) (by omega) (by omega))
        by_cases b1 : (l.length : Int) ≤ n <;> by_cases b2 : 0 < n
        all_goals
          first | (exfalso; omega) | skip
        all_goals
          have b3 : ¬ n ≤ 21 ∨ ¬ -6 < n := by omega
          rcases b3 with b3 | b3
        all_goals
          first | (exfalso; omega) | skip
        all_goals
          clear a1 a2 a3
          go_wp2_with (go_at_call 72; go_must (with_reducible refine (hE _).out.mono ?_); rintro x w4 ⟨rfl, hb4⟩)
          go_ret
          exact hT.out _ hx.out (by have := expS_len l (n - 1) hl (by omega); omega) _ hb4
theorem inf_orders : FloatKind.f64.format.order infR 0 = some .gt ∧ (FloatKind.f64.format.order infR 9218868437227405311 == some .gt) = true ∧ nanB infR = false ∧ FloatKind.f64.format.order 0 0 = some .eq ∧ nanB 0 = false := by decide +kernel
/-- What text tells of a float that is not below nought. -/
def TextQ (n : Nat) (P : List UInt8 → Prop) (w : World) (x : Ending) (w' : World) : Prop := ∃ s, x = .returned (.string (S s)) ∧ P s ∧ s.length ≤ n ∧ Below w.heap.size w w'
theorem ref_text_nn {r : Nat} (h2 : r ≤ infR) (w : World) : Calls Tryz.prog 34 #[.float .f64 r] w (TextQ 2000 (TxtR r) w) := by
  obtain ⟨i1, i2, i3, i4, i5⟩ := inf_orders
  rcases Nat.eq_zero_or_pos r with rfl | h1
  · go_enter Tryz.func34, Tryz.ntmps34
    go_wp2_with (go_at_call 56; refine (math_IsNaN 0 _).mono ?_; rintro e w' ⟨rfl, rfl⟩; rw [i5])
    go_ret
    exact ⟨[48], rfl, .inl ⟨rfl, rfl⟩, by decide, Below.refl _ _⟩
  · rcases Nat.lt_or_ge r infR with g | g
    · refine (ref_text_pos h1 g w).mono ?_
      rintro x w' ⟨c, j, rfl, hs, hl, hb⟩
      exact ⟨_, rfl, .inr (.inr ⟨h1, g, c, j, hs, rfl⟩), by omega, hb⟩
    · have : r = infR := Nat.le_antisymm h2 g
      subst this
      have hq : ∃ q, infR = q := ⟨_, rfl⟩
      have hT : TxtR infR [73, 110, 102, 105, 110, 105, 116, 121] := .inr (.inl ⟨rfl, rfl⟩)
      obtain ⟨q, hq⟩ := hq
      rw [hq] at i1 i2 i3 hT ⊢
      go_enter Tryz.func34, Tryz.ntmps34
      go_wp2_with (first
        | (go_at_call 59; refine (math_IsInf1 i2 _).mono ?_; rintro e w' ⟨rfl, hw⟩; replace hw := hw.symm; subst hw)
        | (go_at_call 56; refine (math_IsNaN q _).mono ?_; rintro e w' ⟨rfl, rfl⟩; rw [i3]))
      go_ret
      exact ⟨_, rfl, hT, by decide, Below.refl _ _⟩
theorem ref_text {f : Nat} (hf : f < 18446744073709551616) (w : World) : Calls Tryz.prog 34 #[.float .f64 f] w (TextQ 2001 (TxtW f) w) := by
  obtain ⟨b, hb⟩ : ∃ b, nanB f = b := ⟨_, rfl⟩
  cases b with
  | true =>
    go_enter Tryz.func34, Tryz.ntmps34
    go_wp2_with (go_at_call 56; refine (math_IsNaN f _).mono ?_; rintro e w' ⟨rfl, rfl⟩; rw [hb])
    go_ret
    exact ⟨_, rfl, .inl ⟨hb, rfl⟩, by decide, Below.refl _ _⟩
  | false =>
    have hm : f % 9223372036854775808 ≤ infR := by
      rcases Nat.lt_or_ge infR (f % 9223372036854775808) with g | g
      · rw [nan_big g] at hb
        cases hb
      · exact g
    rcases Nat.lt_or_ge f 9223372036854775808 with g | g
    · rw [Nat.mod_eq_of_lt g] at hm
      refine (ref_text_nn hm w).mono ?_
      rintro x w' ⟨s, rfl, hs, hl, hbw⟩
      exact ⟨s, rfl, .inr (.inl ⟨hb, g, hs⟩), by omega, hbw⟩
    · obtain ⟨r, rfl⟩ : ∃ r, f = 9223372036854775808 + r := ⟨f - 9223372036854775808, by omega⟩
      rw [show (9223372036854775808 + r) % 9223372036854775808 = r by omega] at hm
      obtain ⟨ho, -⟩ := order_neg hm
      have hneg := neg_bits (r := r) (by omega)
      rcases Nat.eq_zero_or_pos r with rfl | h1
      · rw [if_pos rfl] at ho
        have hT : TxtW (9223372036854775808 + 0) [48] := .inr (.inr ⟨hb, by omega, [48], .inl ⟨by omega, rfl⟩, by rw [if_pos rfl]⟩)
        clear hneg hm g hf
        obtain ⟨F, hF⟩ : ∃ F, 9223372036854775808 + 0 = F := ⟨_, rfl⟩
        rw [hF] at ho hb hT ⊢
        clear hF
        go_enter Tryz.func34, Tryz.ntmps34
        go_wp2_with (go_at_call 56; refine (math_IsNaN F _).mono ?_; rintro e w' ⟨rfl, rfl⟩; rw [hb])
        go_ret
        exact ⟨_, rfl, hT, by decide, Below.refl _ _⟩
      · rw [if_neg (by omega)] at ho
        have hR := Far.mk (ref_text_nn hm w)
        have hT : ∀ t, TxtR r t → TxtW (9223372036854775808 + r) (45 :: t) := fun t h => .inr (.inr ⟨hb, by omega, t, by rw [show 9223372036854775808 + r - 9223372036854775808 = r by omega]; exact h, by rw [if_neg (by omega)]⟩)
        replace hT := Far.mk hT
        obtain ⟨F, hF⟩ : ∃ F, 9223372036854775808 + r = F := ⟨_, rfl⟩
        have hn2 : ∀ W, (Op.unary .neg (.float .f64 F)).run Tryz.prog W = .ok (.float .f64 r) W := fun W => by
          rw [← hF]
          show Result.ok (Value.float .f64 ((9223372036854775808 + r) ^^^ 9223372036854775808)) W = _
          rw [hneg]
        rw [hF] at ho hb hT ⊢
        clear hF hneg hm hf g
        go_enter Tryz.func34, Tryz.ntmps34
        go_wp2_with (go_at_call 56; refine (math_IsNaN F _).mono ?_; rintro e w' ⟨rfl, rfl⟩; rw [hb])
        with_reducible refine hR.out.mono ?_
        rintro x w3 ⟨s, rfl, hs, hl, hb3⟩
        have hcat : (⟨#[45]⟩ : ByteArray) ++ S s = S (45 :: s) := S_append [45] s
        go_wp2_with fail
        go_ret
        exact ⟨_, rfl, hT.out _ hs, by simp; omega, hb3⟩
theorem ref_Text_float {f : Nat} (hf : f < 18446744073709551616) (w : World) : Calls Tryz.prog 15 #[.float .f64 f] w fun x w' => ∃ s, TxtW f s ∧ s.length ≤ 2001 ∧ x = .returned (.string (S (wide s))) ∧ Below w.heap.size w w' := by
  have hT := Far.mk (ref_text hf w)
  go_enter Tryz.func15, Tryz.ntmps15
  go_wp2_with fail
  with_reducible refine hT.out.mono ?_
  rintro x w3 ⟨s, rfl, hs, hl, hb3⟩
  have hW := Far.mk (ref01_Wide (S s) w3 (by rw [S_size]; omega))
  go_wp2_with fail
  with_reducible refine hW.out.mono ?_
  rintro x w4 ⟨rfl, hb4⟩
  go_wp2_with fail
  go_ret
  exact ⟨s, hs, hl, rfl, hb3.trans (hb4.mono hb3.size)⟩
end Us
end Go.Proofs.YtelgobelbeabaaaGreatDoor
namespace Go.Proofs.YtelgobelbeabaaaGreatDoor
open Go.RowKit
namespace Us
open Nv

/-- What the program's numbers need of the world. -/
structure Tabs (w : World) : Prop where
  p10 : P10 w
  u10 : Lib.TabIs Tryz.prog w "internal/strconv.uint64pow10" .u64 Lib.pow10Tab
  len : ∃ m : Int, w.cell? ⟨2, 0, none⟩ = some (.int .i64 m)
theorem var_keep {w w' : World} (hb : Below w.heap.size w w') {n : String} {cs : Array Value} (h : w.var? Tryz.prog n = some cs) : w'.var? Tryz.prog n = some cs := by
  unfold World.var? at h ⊢
  obtain ⟨g, hg, h2⟩ := Option.bind_eq_some_iff.1 h
  rw [hg]
  simp only [Option.bind_some]
  have hlt : g < w.heap.size := by
    rcases Nat.lt_or_ge g w.heap.size with k | k
    · exact k
    · simp [Array.getElem?_eq_none k] at h2
  rw [hb.block g hlt]
  exact h2
theorem Tabs.keep {w w' : World} (h : Tabs w) (hb : Below w.heap.size w w') : Tabs w' := ⟨h.p10.keep hb, var_keep hb h.u10, by
  obtain ⟨m, hm⟩ := h.len
  exact ⟨m, below_keep hb hm⟩⟩
/-- What Go's shortest digits are. -/
theorem go_parts {r : Nat} (h1 : 1 ≤ r) (h2 : r < infR) : ∃ (c t : Nat) (j : Int), (goShort r).1 = c * 10 ^ t ∧ (goShort r).2 = j - t ∧ Short r c j ∧ c * 10 ^ t < 18446744073709551616 ∧ 1 ≤ c ∧ c % 10 ≠ 0 ∧ -400 ≤ (goShort r).2 ∧ (goShort r).2 ≤ 400 := by
  obtain ⟨c, t, hc, hs⟩ := go_short h1 h2
  obtain ⟨i, s, hR⟩ := go_rng h1 h2
  obtain ⟨v1, v2⟩ := goU_rng (x := minOf r) hR hR.mn (by have := hR.mn2; have := hR.mx; have := hR.mx2; omega)
  obtain ⟨v3, v4⟩ := goU_rng (x := maxOf r) hR (by have := hR.mx; have := hR.m63; omega) hR.mx2
  obtain ⟨v5, v6⟩ := goU_rng (x := mOf r) hR (by have := hR.m63; omega) (by have := hR.mx; have := hR.mx2; omega)
  have hp := hR.hp
  have hi := hR.hi0
  have hb : (goShort r).1 < 18446744073709551616 ∧ -400 ≤ (goShort r).2 ∧ (goShort r).2 ≤ 400 := by
    unfold goShort dminOf dmaxOf d3Of
    split
    · refine ⟨?_, ?_, ?_⟩ <;> simp only <;> omega
    · refine ⟨?_, ?_, ?_⟩
      · simp only
        split <;> omega
      · simp only; omega
      · simp only; omega
  exact ⟨c, t, _, hc, by omega, hs, by rw [← hc]; exact hb.1, hs.pos, hs.odd10, hb.2.1, hb.2.2⟩
theorem run_f64bits (b : Nat) (w : World) : (callFunc 191 #[.float .f64 b]).run Tryz.prog w = .ok (.value (.int .u64 b)) w := by
  rw [run_callFunc_extern Tryz.func191 (by kernel_rfl) (by kernel_rfl) (by kernel_rfl) (e := Extern.MathFloatBits.float64bits) (by kernel_rfl)]; rfl
attribute [local go_sem] run_f64bits
theorem bitLenAux_eq (f : Nat) : ∀ x, 0 < x → x < 2 ^ f → Lib.bitLenAux f x = x.log2 + 1 := by
  induction f with
  | zero => intro x h1 h2; simp at h2; omega
  | succ f ih =>
    intro x h1 h2
    rw [Lib.bitLenAux, if_neg (by omega)]
    rcases Nat.lt_or_ge x 2 with h | h
    · have : x = 1 := by omega
      subst this
      cases f with
      | zero => rfl
      | succ f => rw [Lib.bitLenAux, if_pos (by decide)]; decide
    · rw [ih (x / 2) (by omega) (by rw [Nat.pow_succ] at h2; omega), Nat.log2_def x, if_pos h]
      omega
/-- What ftoa64 tells. -/
def FtoaQ (r base : Nat) (w : World) (x : Ending) (w' : World) : Prop := ∃ v c j, x = .returned v ∧ Short r c j ∧ (digs 10 c).length ≤ 20 ∧ -500 ≤ j ∧ j ≤ 500 ∧ B8 w' base v (eS (digs 10 c) (j + ((digs 10 c).length : Int) - 1)) ∧ Below base w w'
set_option maxRecDepth 100000 in
set_option maxHeartbeats 4000000 in
theorem sc_ftoa64 {r g base : Nat} (h1 : 1 ≤ r) (h2 : r < infR) {w : World} (hT : Tabs w) (hown : B8 w base (.slice (some ⟨g, 0, none⟩) 0 24) []) (hbase : base ≤ w.heap.size) :
    Calls Tryz.prog 160 #[.slice (some ⟨g, 0, none⟩) 0 24, .float .f64 r, .int .u8 101, .int .i64 (-1)] w (FtoaQ r base w) := by
  obtain ⟨c, t, j, hd, hp, hsh, hd64, hc1, hc10, hp1, hp2⟩ := go_parts h1 h2
  obtain ⟨z1, z2, -, -, e1, e2⟩ := sf_z h1 h2
  obtain ⟨ma, mb, mc⟩ := sf_mant h1
  have hml := mant_lt r
  obtain ⟨_, _, hR⟩ := go_rng h1 h2
  have hm64 : mOf r < 18446744073709551616 := by have := hR.mx; have := hR.mx2; omega
  have hmd : mOf r = mantOf r * 2 ^ zOf r := rfl
  have hzd : zOf r = 63 - (mantOf r).log2 := rfl
  have hed : eOf r = (kOf r : Int) - zOf r - 1074 := rfl
  have hbl : Lib.bitLen (mantOf r) = (mantOf r).log2 + 1 := bitLenAux_eq 64 _ (by omega) (by rw [show (2 : Nat) ^ 64 = 18446744073709551616 by decide]; omega)
  have hS : Far (∀ (W : World) (M E : Int), P10 W → M = (mOf r : Nat) → E = eOf r → Calls Tryz.prog 203 #[.int .u64 M, .int .i64 E] W (ShortQ r W)) := ⟨fun W M E hP hM hE => by
    subst hM
    subst hE
    exact sc_short h1 h2 hP⟩
  have hL64 : Far (∀ (W : World) (X : Int), X = (mantOf r : Nat) → Calls Tryz.prog 195 #[.int .u64 X] W fun e w' => e = .returned (.int .i64 (64 - (zOf r : Int))) ∧ w' = W) := ⟨fun W X hX => by
    subst hX
    refine (bits_Len64 ((mantOf r : Nat) : Int) W (by omega) (by omega)).mono ?_
    rintro e w' ⟨rfl, hw⟩
    refine ⟨?_, hw⟩
    rw [Int.toNat_natCast, hbl]
    congr 2
    omega⟩
  have hr : r < 9218868437227405312 := h2
  have hand : bits .and .u64 (r : Int) 4503599627370495 = ((r % 4503599627370496 : Nat) : Int) := by
    have h := bits_mask .u64 64 (by decide) (fun n h1 h2 => wrapU64_eq h1 (by omega)) 52 (by decide) (r : Int) (by omega) (by omega)
    rw [show ((2 : Int) ^ 52 - 1) = 4503599627370495 by decide, show ((2 : Int) ^ 52) = 4503599627370496 by decide] at h
    rw [h]
    omega
  have hand2 : bits .and .i64 ((r : Int) / 4503599627370496) 2047 = ((r / 4503599627370496 : Nat) : Int) := by
    have h := bits_mask .i64 63 (by decide) (fun n h1 h2 => by rw [IntKind.wrap_i64]; omega) 11 (by decide) ((r : Int) / 4503599627370496) (by omega) (by omega)
    rw [show ((2 : Int) ^ 11 - 1) = 2047 by decide, show ((2 : Int) ^ 11) = 2048 by decide] at h
    rw [h]
    omega
  have hor := or_bit (a := ((r % 4503599627370496 : Nat) : Int)) (by omega) (by omega)
  obtain ⟨f, hf⟩ : ∃ f, r % 4503599627370496 = f := ⟨_, rfl⟩
  obtain ⟨b, hb⟩ : ∃ b, r / 4503599627370496 = b := ⟨_, rfl⟩
  have hneg : (r : Int) / 9223372036854775808 = 0 := by omega
  rw [hf] at hand hor
  rw [hb] at hand2
  have hf2 : f < 4503599627370496 := by omega
  have hb2 : b ≤ 2046 := by omega
  by_cases hb0 : b = 0
  · have hmt : mantOf r = f := by unfold mantOf; rw [if_pos (by omega)]; omega
    have hk : ((kOf r : Nat) : Int) = 0 := by unfold kOf; omega
    subst hb0
    rw [hmt] at hmd hL64
    obtain ⟨z, hz⟩ : ∃ z, zOf r = z := ⟨_, rfl⟩
    rw [hz] at hmd hL64 z1 z2 hed
    have hsh2 : IntKind.u64.wrap ((f : Int) * 2 ^ z) = (mOf r : Nat) := by
      have e : (f : Int) * 2 ^ z = ((mOf r : Nat) : Int) := by
        rw [hmd, Int.natCast_mul, Int.natCast_pow]
        rfl
      rw [e, wrapU64_eq (by omega) (by omega)]
    obtain ⟨M, hM⟩ : ∃ M, mOf r = M := ⟨_, rfl⟩
    rw [hM] at hsh2 hS hm64
    clear hmd hzd hbl hml ma mb mc hR hM hz
    go_enter Tryz.func160, Tryz.ntmps160
    go_wp2_with fail
    go_quiet (fail)
    go_wp2_with (first
      | (go_at_call 195; with_reducible refine (hL64.out _ _ (by omega)).mono ?_; rintro e w' ⟨rfl, hw⟩; replace hw := hw.symm; subst hw))
    with_reducible refine (hS.out _ _ _ ((hT.keep (below_drawn (Below.refl _ _))).p10.keep ((Below.refl _ _).alloc (Nat.le_refl _) _)) (by rw [show 64 - (64 - z) = z by omega]; exact hsh2) (by omega)).mono ?_
    rintro x w4 ⟨rfl, hb4⟩
    rw [hd, hp]
    have hbW4 : Below w.heap.size w w4 := ((below_drawn (Below.refl _ _)).alloc (Nat.le_refl _) _).trans (hb4.mono (by simp))
    have hB4 : HasB w4 w.heap.size (Array.replicate 32 (.int .u8 0)) 251 := HasB.below (HasB.new (w.drewN nq) _ _) hb4
    have hs4 : w.heap.size < w4.heap.size := by have := hb4.size; simp at this; omega
    obtain ⟨d, hdd⟩ : ∃ d, c * 10 ^ t = d := ⟨_, rfl⟩
    have hdt : d = c * 10 ^ t := hdd.symm
    rw [hdd] at hd64 ⊢
    have hd1 : 1 ≤ d := by rw [hdt]; exact Nat.mul_pos hc1 (Nat.pow_pos (by decide))
    have hLd : (digs 10 d).length = (digs 10 c).length + t := by rw [hdt, digs_ten c hc1, List.length_append, List.length_replicate]
    have hL20 := Lib.nDigits_le20 d hd64
    rw [dec_len] at hL20
    have hND : Far (∀ W, Below w.heap.size w W → Calls Tryz.prog 184 #[.int .u64 (d : Nat)] W fun e w' => e = .returned (.int .i64 ((digs 10 d).length : Nat)) ∧ w' = W) := ⟨fun W hb => by
      refine (internal_strconv_numDigits d hd1 hd64 W (hT.keep hb).u10).mono ?_
      rintro e w' ⟨rfl, hw⟩
      exact ⟨by rw [dec_len], hw⟩⟩
    have hSD : Far (∀ W, HasB W w.heap.size (Array.replicate 32 (.int .u8 0)) 251 → Calls Tryz.prog 197 #[.slice (some ⟨w.heap.size, 0, none⟩) 32 32, .int .u64 (d : Nat), .int .i64 (j - t), .int .i64 ((digs 10 d).length : Nat)] W fun x w' => x = .returned (.tuple #[.int .i64 (((digs 10 d).length : Int) + (j - t)), .int .i64 ((digs 10 c).length : Nat)]) ∧ Bt w' w.heap.size (digs 10 d) ∧ Below w.heap.size W w') := ⟨fun W hB => sc_setDigits hdt hc10 hd64 hB (by omega)⟩
    have hdd2 := hdd
    have hjt : -400 ≤ j - t ∧ j - t ≤ 400 := by omega
    clear hb4 hd64 hdt hdd hd hp hS hsh2 hL64 hand hand2 hor hneg
    obtain ⟨Ld, hLdv⟩ : ∃ L, (digs 10 d).length = L := ⟨_, rfl⟩
    rw [hLdv] at hND hSD hLd hL20
    obtain ⟨Lc, hLcv⟩ : ∃ L, (digs 10 c).length = L := ⟨_, rfl⟩
    rw [hLcv] at hSD hLd
    have hLt : t ≤ Ld := by omega
    have hLc20 : Lc ≤ 20 := by omega
    have hLc1 : 1 ≤ Lc := by
      obtain ⟨y, l, e, -⟩ := digs_head hc1
      rw [← hLcv, e]
      simp
    have htk : (digs 10 d).take Lc = digs 10 c := by
      have e := digs_ten c hc1 t
      rw [hdd2] at e
      rw [e, ← hLcv, List.take_append_of_le_length (Nat.le_refl _), List.take_of_length_le (Nat.le_refl _)]
    replace hLd := Far.mk hLd
    go_wp2_with fail
    go_region_with (first
      | (go_at_call 184; with_reducible refine (hND.out _ (by first | exact hbW4 | exact below_drew hbW4)).mono ?_; rintro e w' ⟨rfl, hw⟩; replace hw := hw.symm; subst hw)
      | (go_at_call 197; with_reducible refine (hSD.out _ (by first | exact hB4 | exact HasB.drew hB4)).mono ?_; rintro x w5 ⟨rfl, hbt, hb5⟩))
    all_goals
      have hbW5 : Below w.heap.size w w5 := by first | exact hbW4.trans (hb5.mono (Nat.le_refl _)) | exact (below_drew hbW4).trans (hb5.mono (Nat.le_refl _))
      have hs5 := hbW5.size
      have hown5 := hown.keep hbW5
      have hs6 : w.heap.size < w5.heap.size := by have := hb5.size; first | omega | (simp at this; omega)
      have hF := sc_fmtE (b := w.heap.size) (g := g) (base := base) (L := digs 10 d) (nd := Lc) (dp := (Ld : Int) + (j - t)) (PR := (Lc : Int) - 1) hown5 (by omega) (Nat.ne_of_lt (World.ownsRow.lt hown g rfl).2) hs6 hbt hLc1 (by rw [hLdv]; have := hLd.out; omega) (by omega) (by have := hLd.out; omega) rfl
      rw [htk, show (Ld : Int) + (j - t) - 1 = j + (Lc : Int) - 1 by have := hLd.out; omega] at hF
      replace hF := Far.mk hF
      have hmx : max ((Lc : Int) - 1) 0 = (Lc : Int) - 1 := by omega
      clear hND hSD hb5 hB4 hbW4 hT hown5 hown hbt htk
      go_wp2_with fail
      with_reducible refine hF.out.mono ?_
      rintro x w7 ⟨v7, rfl, hown7, hb7⟩
      go_wp2_with fail
      go_ret
      exact ⟨v7, c, j, rfl, hsh, by rw [hLcv]; have := hLd.out; omega, by omega, by omega, by rw [hLcv]; exact hown7, (hbW5.mono hbase).trans hb7⟩
  · have hmt : mantOf r = 4503599627370496 + f := by unfold mantOf; rw [if_neg (by omega)]; omega
    have hk : ((kOf r : Nat) : Int) = (b : Int) - 1 := by unfold kOf; omega
    rw [hmt] at hmd hL64
    obtain ⟨z, hz⟩ : ∃ z, zOf r = z := ⟨_, rfl⟩
    rw [hz] at hmd hL64 z1 z2 hed
    have hsh2 : IntKind.u64.wrap ((4503599627370496 + (f : Int)) * 2 ^ z) = (mOf r : Nat) := by
      have e : (4503599627370496 + (f : Int)) * 2 ^ z = ((mOf r : Nat) : Int) := by
        rw [hmd, Int.natCast_mul, Int.natCast_add, Int.natCast_pow]
        rfl
      rw [e, wrapU64_eq (by omega) (by omega)]
    obtain ⟨M, hM⟩ : ∃ M, mOf r = M := ⟨_, rfl⟩
    rw [hM] at hsh2 hS hm64
    clear hmd hzd hbl hml ma mb mc hR hM hz
    go_enter Tryz.func160, Tryz.ntmps160
    go_wp2_with fail
    go_quiet (fail)
    go_wp2_with (first
      | (go_at_call 195; with_reducible refine (hL64.out _ _ (by omega)).mono ?_; rintro e w' ⟨rfl, hw⟩; replace hw := hw.symm; subst hw))
    with_reducible refine (hS.out _ _ _ ((hT.keep (below_drawn (Below.refl _ _))).p10.keep ((Below.refl _ _).alloc (Nat.le_refl _) _)) (by rw [show 64 - (64 - z) = z by omega]; exact hsh2) (by omega)).mono ?_
    rintro x w4 ⟨rfl, hb4⟩
    rw [hd, hp]
    have hbW4 : Below w.heap.size w w4 := ((below_drawn (Below.refl _ _)).alloc (Nat.le_refl _) _).trans (hb4.mono (by simp))
    have hB4 : HasB w4 w.heap.size (Array.replicate 32 (.int .u8 0)) 251 := HasB.below (HasB.new (w.drewN nq) _ _) hb4
    have hs4 : w.heap.size < w4.heap.size := by have := hb4.size; simp at this; omega
    obtain ⟨d, hdd⟩ : ∃ d, c * 10 ^ t = d := ⟨_, rfl⟩
    have hdt : d = c * 10 ^ t := hdd.symm
    rw [hdd] at hd64 ⊢
    have hd1 : 1 ≤ d := by rw [hdt]; exact Nat.mul_pos hc1 (Nat.pow_pos (by decide))
    have hLd : (digs 10 d).length = (digs 10 c).length + t := by rw [hdt, digs_ten c hc1, List.length_append, List.length_replicate]
    have hL20 := Lib.nDigits_le20 d hd64
    rw [dec_len] at hL20
    have hND : Far (∀ W, Below w.heap.size w W → Calls Tryz.prog 184 #[.int .u64 (d : Nat)] W fun e w' => e = .returned (.int .i64 ((digs 10 d).length : Nat)) ∧ w' = W) := ⟨fun W hb => by
      refine (internal_strconv_numDigits d hd1 hd64 W (hT.keep hb).u10).mono ?_
      rintro e w' ⟨rfl, hw⟩
      exact ⟨by rw [dec_len], hw⟩⟩
    have hSD : Far (∀ W, HasB W w.heap.size (Array.replicate 32 (.int .u8 0)) 251 → Calls Tryz.prog 197 #[.slice (some ⟨w.heap.size, 0, none⟩) 32 32, .int .u64 (d : Nat), .int .i64 (j - t), .int .i64 ((digs 10 d).length : Nat)] W fun x w' => x = .returned (.tuple #[.int .i64 (((digs 10 d).length : Int) + (j - t)), .int .i64 ((digs 10 c).length : Nat)]) ∧ Bt w' w.heap.size (digs 10 d) ∧ Below w.heap.size W w') := ⟨fun W hB => sc_setDigits hdt hc10 hd64 hB (by omega)⟩
    have hdd2 := hdd
    have hjt : -400 ≤ j - t ∧ j - t ≤ 400 := by omega
    clear hb4 hd64 hdt hdd hd hp hS hsh2 hL64 hand hand2 hor hneg
    obtain ⟨Ld, hLdv⟩ : ∃ L, (digs 10 d).length = L := ⟨_, rfl⟩
    rw [hLdv] at hND hSD hLd hL20
    obtain ⟨Lc, hLcv⟩ : ∃ L, (digs 10 c).length = L := ⟨_, rfl⟩
    rw [hLcv] at hSD hLd
    have hLt : t ≤ Ld := by omega
    have hLc20 : Lc ≤ 20 := by omega
    have hLc1 : 1 ≤ Lc := by
      obtain ⟨y, l, e, -⟩ := digs_head hc1
      rw [← hLcv, e]
      simp
    have htk : (digs 10 d).take Lc = digs 10 c := by
      have e := digs_ten c hc1 t
      rw [hdd2] at e
      rw [e, ← hLcv, List.take_append_of_le_length (Nat.le_refl _), List.take_of_length_le (Nat.le_refl _)]
    replace hLd := Far.mk hLd
    go_wp2_with fail
    go_region_with (first
      | (go_at_call 184; with_reducible refine (hND.out _ (by first | exact hbW4 | exact below_drew hbW4)).mono ?_; rintro e w' ⟨rfl, hw⟩; replace hw := hw.symm; subst hw)
      | (go_at_call 197; with_reducible refine (hSD.out _ (by first | exact hB4 | exact HasB.drew hB4)).mono ?_; rintro x w5 ⟨rfl, hbt, hb5⟩))
    all_goals
      have hbW5 : Below w.heap.size w w5 := by first | exact hbW4.trans (hb5.mono (Nat.le_refl _)) | exact (below_drew hbW4).trans (hb5.mono (Nat.le_refl _))
      have hs5 := hbW5.size
      have hown5 := hown.keep hbW5
      have hs6 : w.heap.size < w5.heap.size := by have := hb5.size; first | omega | (simp at this; omega)
      have hF := sc_fmtE (b := w.heap.size) (g := g) (base := base) (L := digs 10 d) (nd := Lc) (dp := (Ld : Int) + (j - t)) (PR := (Lc : Int) - 1) hown5 (by omega) (Nat.ne_of_lt (World.ownsRow.lt hown g rfl).2) hs6 hbt hLc1 (by rw [hLdv]; have := hLd.out; omega) (by omega) (by have := hLd.out; omega) rfl
      rw [htk, show (Ld : Int) + (j - t) - 1 = j + (Lc : Int) - 1 by have := hLd.out; omega] at hF
      replace hF := Far.mk hF
      have hmx : max ((Lc : Int) - 1) 0 = (Lc : Int) - 1 := by omega
      clear hND hSD hb5 hB4 hbW4 hT hown5 hown hbt htk
      go_wp2_with fail
      with_reducible refine hF.out.mono ?_
      rintro x w7 ⟨v7, rfl, hown7, hb7⟩
      go_wp2_with fail
      go_ret
      exact ⟨v7, c, j, rfl, hsh, by rw [hLcv]; have := hLd.out; omega, by omega, by omega, by rw [hLcv]; exact hown7, (hbW5.mono hbase).trans hb7⟩
end Us
end Go.Proofs.YtelgobelbeabaaaGreatDoor
namespace Go.Proofs.YtelgobelbeabaaaGreatDoor
open Go.RowKit
namespace Us
open Nv

theorem ix_here (c : UInt8) (B : List UInt8) : ∀ A : List UInt8, (∀ x ∈ A, x ≠ c) → Lib.indexByte (A ++ c :: B) c = A.length
  | [], _ => by simp [Lib.indexByte]
  | a :: A, h => by
    have h1 : (a == c) = false := beq_eq_false_iff_ne.2 (h a (List.mem_cons_self ..))
    have ih := ix_here c B A (fun x hx => h x (List.mem_cons_of_mem _ hx))
    rw [List.cons_append, Lib.indexByte, h1, ih]
    have h2 : ((A.length : Int) == -1) = false := beq_eq_false_iff_ne.2 (by omega)
    rw [h2, if_neg (by decide), if_neg (by decide), List.length_cons]
    omega
theorem ix_none (c : UInt8) : ∀ A : List UInt8, (∀ x ∈ A, x ≠ c) → Lib.indexByte A c = -1
  | [], _ => rfl
  | a :: A, h => by
    have h1 : (a == c) = false := beq_eq_false_iff_ne.2 (h a (List.mem_cons_self ..))
    rw [Lib.indexByte, h1, ix_none c A (fun x hx => h x (List.mem_cons_of_mem _ hx))]
    rfl
/-- The digits with their point. -/
def headS (l : List UInt8) : List UInt8 := l.take 1 ++ (if 1 < l.length then [46] ++ l.drop 1 else [])
def tailS (e : Int) : List UInt8 := (if e < 0 then 45 else 43) :: dd e.natAbs
theorem eS_parts (l : List UInt8) (e : Int) : eS l e = headS l ++ 101 :: tailS e := by
  unfold eS headS tailS
  simp
theorem head_mem {l : List UInt8} {x : UInt8} (h : x ∈ headS l) : x ∈ l ∨ x = 46 := by
  unfold headS at h
  rcases List.mem_append.1 h with h | h
  · exact .inl (List.mem_of_mem_take h)
  · split at h
    · rcases List.mem_append.1 h with h | h
      · exact .inr (List.mem_singleton.1 h)
      · exact .inl (List.mem_of_mem_drop h)
    · cases h
theorem cut_eS {l : List UInt8} (e : Int) (hl : ∀ x ∈ l, 48 ≤ x.toNat ∧ x.toNat ≤ 57) : Lib.cut (eS l e) [101] = (headS l, tailS e, true) := by
  have hi : Lib.index (eS l e) [101] = (headS l).length := by
    rw [Lib.index_one, eS_parts]
    refine ix_here 101 _ _ fun x hx => ?_
    rintro rfl
    rcases head_mem hx with h | h
    · have := (hl _ h).2
      have e : (101 : UInt8).toNat = 101 := rfl
      omega
    · cases h
  unfold Lib.cut
  rw [hi, if_pos (by omega), Int.toNat_natCast, eS_parts, List.take_left, List.length_singleton, List.drop_append, List.drop_eq_nil_of_le (by omega), Nat.add_sub_cancel_left]
  rfl
theorem digit_val {k : Nat} (h : k < 10) : Lib.digitVal (UInt8.ofNat (48 + k)) = some k := by
  have := byte_of h
  have e : (UInt8.ofNat (48 + k)).toNat = 48 + k := by omega
  unfold Lib.digitVal
  rw [e, if_pos (by omega)]
  congr 1
  omega
theorem dec_dd {k : Nat} (h : k < 1000) : Lib.decNat (dd k) = some k := by
  have d0 : Lib.digitVal 48 = some 0 := rfl
  unfold dd
  split
  · rename_i g
    show Lib.decFrom 0 [48, UInt8.ofNat (48 + k)] = _
    simp only [Lib.decFrom, d0, digit_val g]
    congr 1
    omega
  · split
    · rename_i g
      show Lib.decFrom 0 [UInt8.ofNat (48 + k / 10), UInt8.ofNat (48 + k % 10)] = _
      simp only [Lib.decFrom, digit_val (show k / 10 < 10 by omega), digit_val (show k % 10 < 10 by omega)]
      congr 1
      omega
    · show Lib.decFrom 0 [UInt8.ofNat (48 + k / 100), UInt8.ofNat (48 + k / 10 % 10), UInt8.ofNat (48 + k % 10)] = _
      simp only [Lib.decFrom, digit_val (show k / 100 < 10 by omega), digit_val (show k / 10 % 10 < 10 by omega), digit_val (show k % 10 < 10 by omega)]
      congr 1
      omega
theorem atoi_tail {e : Int} (h : -1000 < e ∧ e < 1000) : Lib.atoi (tailS e) = some e := by
  have hd := dec_dd (k := e.natAbs) (by omega)
  unfold tailS
  by_cases g : e < 0
  · rw [if_pos g]
    unfold Lib.atoi
    simp only [show ((45 : UInt8) == 45) = true by decide, if_true, hd]
    show some (-(e.natAbs : Int)) = some e
    congr 1
    omega
  · rw [if_neg g]
    unfold Lib.atoi
    simp only [show ((43 : UInt8) == 45) = false by decide, show ((43 : UInt8) == 43) = true by decide, Bool.false_eq_true, if_false, if_true, hd]
    show some (e.natAbs : Int) = some e
    congr 1
    omega
theorem replace_head {l : List UInt8} (hl : ∀ x ∈ l, 48 ≤ x.toNat ∧ x.toNat ≤ 57) (h1 : 1 ≤ l.length) : Lib.replace (headS l) [46] [] 1 = l := by
  have hno : ∀ x ∈ l, x ≠ 46 := fun x hx => by
    rintro rfl
    have := (hl _ hx).1
    have e : (46 : UInt8).toNat = 46 := rfl
    omega
  unfold Lib.replace
  rw [if_neg (by decide)]
  cases l with
  | nil => simp at h1
  | cons a t =>
    cases t with
    | nil =>
      have hi : Lib.index (headS [a]) [46] = -1 := by rw [Lib.index_one]; exact ix_none 46 _ (fun x hx => hno x (by simpa [headS] using hx))
      have hc : Lib.count (headS [a]) [46] = 0 := by
        unfold Lib.count Lib.countFrom
        rw [hi]
        rfl
      have hn : Lib.replaceNum (headS [a]) [46] 1 = 0 := by
        unfold Lib.replaceNum
        rw [hc]
        rfl
      rw [hn]
      rfl
    | cons b t =>
      have hi : Lib.index (headS (a :: b :: t)) [46] = 1 := by
        rw [Lib.index_one]
        have := ix_here 46 (b :: t) [a] (fun x hx => hno x (by rw [List.mem_singleton.1 hx]; exact List.mem_cons_self ..))
        simpa [headS] using this
      have hc : ¬ ((Lib.count (headS (a :: b :: t)) [46] : Nat) : Int) < 1 := by
        unfold Lib.count Lib.countFrom
        rw [hi, if_neg (by decide)]
        omega
      have hn : Lib.replaceNum (headS (a :: b :: t)) [46] 1 = 1 := by
        unfold Lib.replaceNum
        rw [if_neg (by rintro (h | h); exact absurd h (by decide); exact hc h)]
        rfl
      rw [hn]
      rw [Lib.replaceK_hit [46] [] 0 _ 1 hi]
      simp [headS, Lib.replaceK]
end Us
end Go.Proofs.YtelgobelbeabaaaGreatDoor
namespace Go.Proofs.YtelgobelbeabaaaGreatDoor
open Go.RowKit
namespace Us
open Nv

/-- What FormatFloat tells. -/
def FmtQ (r : Nat) (w : World) (x : Ending) (w' : World) : Prop := ∃ c j, x = .returned (.string (S (eS (digs 10 c) (j + ((digs 10 c).length : Int) - 1)))) ∧ Short r c j ∧ (digs 10 c).length ≤ 20 ∧ -500 ≤ j ∧ j ≤ 500 ∧ Below w.heap.size w w'
set_option maxRecDepth 100000 in
theorem isc_FormatFloat {r : Nat} (h1 : 1 ≤ r) (h2 : r < infR) {w : World} (hT : Tabs w) : Calls Tryz.prog 123 #[.float .f64 r, .int .u8 101, .int .i64 (-1), .int .i64 64] w (FmtQ r w) := by
  obtain ⟨i0, hi, hz0, hz1, hz2⟩ := info_parts info_byte
  have hF := fun (W : World) (hb : Below w.heap.size w W) (g base : Nat) (ho : B8 W base (.slice (some ⟨g, 0, none⟩) 0 24) []) (hbs : base ≤ W.heap.size) => Far.mk (sc_ftoa64 h1 h2 (hT.keep hb) ho hbs)
  go_enter Tryz.func123, Tryz.ntmps123
  go_wp2_with (at_make; go_must (refine wpList_make_own _ rfl _ _ 51 rfl w.heap.size 5 i0 (.int .u8 0) 1 Tryz.underlying51 hi hz0 hz1 _ _ _ 24 rfl rfl rfl (by rw [hz2]; omega) (by unfold maxLen; omega) (by omega) ?_))
  intro w1 hown hg
  have hb1 : Below w.heap.size w w1 := (Below.refl _ _).grown hg (Nat.le_refl _) (by simp)
  have hF1 := hF w1 hb1 w.heap.size w.heap.size hown hb1.size
  clear hF hown hg
  go_wp2_with fail
  with_reducible refine hF1.out.mono ?_
  rintro x w2 ⟨v, c, j, rfl, hs, hl, hj1, hj2, hown2, hb2⟩
  have hcv := run_string_own (P := Tryz.prog) w2 51 9 5 _ hown2 Tryz.underlying51 Tryz.underlying5 Tryz.underlying9
  clear hF1 hown2
  go_wp2
  go_ret
  exact ⟨c, j, rfl, hs, hl, hj1, hj2, hb1.trans hb2⟩
theorem sc_FormatFloat {r : Nat} (h1 : 1 ≤ r) (h2 : r < infR) {w : World} (hT : Tabs w) : Calls Tryz.prog 93 #[.float .f64 r, .int .u8 101, .int .i64 (-1), .int .i64 64] w (FmtQ r w) := by
  have hF := Far.mk (isc_FormatFloat h1 h2 hT)
  go_enter Tryz.func93, Tryz.ntmps93
  go_wp2_with fail
  with_reducible refine hF.out.mono ?_
  rintro x w2 ⟨c, j, rfl, hr⟩
  go_wp2_with fail
  go_ret
  exact ⟨c, j, rfl, hr⟩
/-- What shortest tells. -/
def ShQ (r : Nat) (w : World) (x : Ending) (w' : World) : Prop := ∃ c j, x = .returned (.tuple #[.string (S (digs 10 c)), .int .i64 (j + ((digs 10 c).length : Int))]) ∧ Short r c j ∧ (digs 10 c).length ≤ 20 ∧ -500 ≤ j ∧ j ≤ 500 ∧ Below w.heap.size w w'
theorem S_list (l : List UInt8) : (S l).data.toList = l := rfl
theorem eS_len (l : List UInt8) (e : Int) (hl : l.length ≤ 20) : (eS l e).length ≤ 30 ∧ (tailS e).length ≤ 5 ∧ (headS l).length ≤ 25 := by
  have hd := dd_len e.natAbs
  have h1 : (dd e.natAbs).length ≤ 3 := by
    by_cases g : e.natAbs < 100
    · have := hd.1 g
      omega
    · have := hd.2 g
      omega
  have h2 : (headS l).length ≤ 22 := by
    unfold headS
    split <;> simp <;> omega
  have h3 : (tailS e).length ≤ 4 := by
    unfold tailS
    simp
    omega
  rw [eS_parts, List.length_append, List.length_cons]
  omega
set_option maxRecDepth 100000 in
theorem nt_shortest {r : Nat} (h1 : 1 ≤ r) (h2 : r < infR) {w : World} (hT : Tabs w) : Calls Tryz.prog 60 #[.float .f64 r] w (ShQ r w) := by
  have hF := Far.mk (sc_FormatFloat h1 h2 hT)
  go_enter Tryz.func60, Tryz.ntmps60
  go_wp2_with fail
  with_reducible refine hF.out.mono ?_
  rintro x w2 ⟨c, j, rfl, hsh, hl, hj1, hj2, hb2⟩
  have hT2 := hT.keep hb2
  obtain ⟨m, hm⟩ := hT2.len
  have hdg := digs_digit c
  have hl1 : 1 ≤ (digs 10 c).length := by
    obtain ⟨c0, l0, e, -⟩ := digs_head (q := c) hsh.pos
    rw [e]
    simp
  have hQ : ∀ w', Below w.heap.size w w' → ShQ r w (.returned (.tuple #[.string (S (digs 10 c)), .int .i64 (j + ((digs 10 c).length : Int))])) w' := fun w' hb => ⟨c, j, rfl, hsh, hl, hj1, hj2, hb⟩
  generalize digs 10 c = l at *
  obtain ⟨e, he⟩ : ∃ e, j + (l.length : Int) - 1 = e := ⟨_, rfl⟩
  have he2 : j + (l.length : Int) = e + 1 := by omega
  rw [he2] at hQ
  rw [he]
  have heb : -1000 < e ∧ e < 1000 := by omega
  obtain ⟨n1, n2, n3⟩ := eS_len l e hl
  have hcut := cut_eS e hdg
  have b101 : (⟨#[101]⟩ : ByteArray).data.toList = [101] := rfl
  have hC := Far.mk (strings_Cut (S (eS l e)) ⟨#[101]⟩ m w2 (by rw [S_size]; omega) hm)
  have hSS : ∀ x : List UInt8, (⟨x.toArray⟩ : ByteArray) = S x := fun _ => rfl
  rw [S_list, b101, hcut] at hC
  simp only [hSS (headS l), hSS (tailS e)] at hC
  have hA := fun W => Far.mk (strconv_Atoi (S (tailS e)) e (by rw [S_size]; omega) (by rw [S_list]; exact atoi_tail heb) W)
  have hR := fun W (hb : Below w2.heap.size w2 W) => Far.mk (strings_Replace (S (headS l)) ⟨#[46]⟩ ⟨#[]⟩ 1 m W (by rw [S_size]; omega) (below_keep hb hm) (by decide) (by rw [show (⟨#[]⟩ : ByteArray).size = 0 from rfl, Nat.mul_zero, S_size]; omega))
  simp only [S_list, replace_head hdg hl1, hSS l] at hR
  replace hQ := Far.mk hQ
  clear hsh hF hcut hdg he he2 b101 hSS
  go_wp2_with fail
  with_reducible refine hC.out.mono ?_
  rintro x w3 ⟨rfl, n, rfl⟩
  clear hC
  go_wp2_with fail
  with_reducible refine (hA _).out.mono ?_
  rintro x w4 ⟨rfl, tt, rfl⟩
  have hb4 : Below w2.heap.size w2 (Lib.bytesWorld (w2.drewN n) 5 tt) := (below_drawn (Below.refl _ _)).trans ((Lib.bytesWorld_below _ _ _).mono (Nat.le_refl _))
  generalize Lib.bytesWorld (w2.drewN n) 5 tt = w4 at *
  go_wp2_with fail
  with_reducible refine (hR _ hb4).out.mono ?_
  rintro x w5 ⟨rfl, hb5⟩
  go_wp2_with fail
  go_ret2
  exact hQ.out _ (hb2.trans ((hb4.trans (hb5.mono hb4.size)).mono hb2.size))
end Us
end Go.Proofs.YtelgobelbeabaaaGreatDoor
