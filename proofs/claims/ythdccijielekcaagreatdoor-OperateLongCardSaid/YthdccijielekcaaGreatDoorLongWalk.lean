/-
  The walk of quilllaw17.OperateLong: it answers true. Conditions: the texts are ones that Go can hold, the number is a byte.
-/
import Derived.Test.YthdccijielekcaaGreatDoorAwake17
namespace Go.Proofs.YthdccijielekcaaGreatDoor
open Go.RowKit

theorem even_size (s : ByteArray) : (s.extract 0 (s.size / 2 * 2)).size = s.size / 2 * 2 := by
  rw [ByteArray.size_extract]
  omega
theorem even_again (s : ByteArray) (n : Nat) (h : s.size = n) (he : n / 2 * 2 = n) : s.extract 0 (s.size / 2 * 2) = s := by
  rw [h, he, ← h]
  exact ByteArray.extract_zero_size

theorem law_Long_long (a c : ByteArray) (q : Int) (w : World) (ha : a.size ≤ 140737488351232) (hc : c.size ≤ 140737488351232) (h0 : 0 ≤ q) (h1 : q ≤ 255) (hl : q < ((a.size / 2 + c.size / 2 : Nat) : Int)) :
    Calls Tryz.prog 3 #[.string a, .string c, .int .u8 q] w fun e w' => e = .returned (.bool true) ∧ Below w.heap.size w w' := by
  have hta := fun w => law14_Text a w (by unfold maxLen; omega)
  have htc := fun w => law14_Text c w (by unfold maxLen; omega)
  have sa := even_size a
  have sc := even_size c
  generalize a.extract 0 (a.size / 2 * 2) = a' at hta sa
  generalize c.extract 0 (c.size / 2 * 2) = c' at htc sc
  have hsa := fun w => ref_String a' w (by unfold maxLen; omega)
  have hsc := fun w => ref_String c' w (by unfold maxLen; omega)
  rw [even_again a' _ sa (by omega)] at hsa
  rw [even_again c' _ sc (by omega)] at hsc
  have la : a'.size ≤ 140737488351232 := by omega
  have lc : c'.size ≤ 140737488351232 := by omega
  have hl' : q < ((a'.size / 2 + c'.size / 2 : Nat) : Int) := by omega
  have HTA := Lib.hid hta
  have HTC := Lib.hid htc
  have HSA := Lib.hid hsa
  have HSC := Lib.hid hsc
  have hE := eq_doneL
  clear hta htc hsa hsc sa sc hl ha hc
  go_enter Tryz.func3, Tryz.ntmps3
  go_wp2_with fail
  refine (HTA.out _).mono ?_
  rintro e w' ⟨rfl, rfl⟩
  go_wp2_with fail
  refine (HTC.out _).mono ?_
  rintro e w' ⟨rfl, rfl⟩
  go_wp2_with fail
  refine (machine_New 10 10 q 0 w (by decide) (by decide) (by decide) h0 (by omega) (by decide) (by decide)).mono ?_
  rintro e w1 ⟨m, h, v, rfl, hM, hH, hown, hlh, hlm, hb⟩
  clear hH hown HTA HTC
  go_wp2_with fail
  refine (HSA.out _).mono ?_
  rintro e w2 ⟨rfl, kb⟩
  replace hM := HasB.below hM kb
  replace hb := below_via kb hb hb.size
  clear kb
  go_wp2_with fail
  refine (HSC.out _).mono ?_
  rintro e w3 ⟨rfl, kb⟩
  replace hM := HasB.below hM kb
  replace hb := below_via kb hb hb.size
  clear kb HSA HSC
  go_wp2_with fail
  refine (operate_Binary (over := true) 4 false 0 a' 0 4 false 0 c' 0 5 0 false 0 ⟨#[]⟩ 0 (fun W hW => operate_add_text (over := true) a' c' 5 0 false 0 ⟨#[]⟩ 0 (fun W hW => operate_Concat_long a' c' (by unfold maxLen; omega) (by unfold maxLen; omega) hl' hW) hW) hM).mono ?_
  rintro e w4 ⟨rfl, hM4, kb⟩
  replace hb : Below w.heap.size w w4 := kb.below hb (by omega) hb.size
  clear kb hM
  go_wp2_with fail
  refine (Machine_Over (HasB.alloc hM4 _)).mono ?_
  rintro e w' ⟨rfl, rfl⟩
  go_wp2_with fail
  refine (awake17 _).mono ?_
  rintro e w5 ⟨rfl, kb⟩
  replace hb : Below w.heap.size w w5 := below_via kb (hb.alloc hb.size _) (by simp; have := hb.size; omega)
  clear kb hM4 hE
  go_wp2_with fail
  go_ret
  exact ⟨rfl, hb⟩

theorem law_Long_short (a c : ByteArray) (q : Int) (w : World) (ha : a.size ≤ 140737488351232) (hc : c.size ≤ 140737488351232) (h0 : 0 ≤ q) (h1 : q ≤ 255) (hl : ((a.size / 2 + c.size / 2 : Nat) : Int) ≤ q) :
    Calls Tryz.prog 3 #[.string a, .string c, .int .u8 q] w fun e w' => e = .returned (.bool true) ∧ Below w.heap.size w w' := by
  have hta := fun w => law14_Text a w (by unfold maxLen; omega)
  have htc := fun w => law14_Text c w (by unfold maxLen; omega)
  have sa := even_size a
  have sc := even_size c
  generalize a.extract 0 (a.size / 2 * 2) = a' at hta sa
  generalize c.extract 0 (c.size / 2 * 2) = c' at htc sc
  have hsa := fun w => ref_String a' w (by unfold maxLen; omega)
  have hsc := fun w => ref_String c' w (by unfold maxLen; omega)
  rw [even_again a' _ sa (by omega)] at hsa
  rw [even_again c' _ sc (by omega)] at hsc
  have la : a'.size ≤ 140737488351232 := by omega
  have lc : c'.size ≤ 140737488351232 := by omega
  have hl' : ((a'.size / 2 + c'.size / 2 : Nat) : Int) ≤ q := by omega
  have HTA := Lib.hid hta
  have HTC := Lib.hid htc
  have HSA := Lib.hid hsa
  have HSC := Lib.hid hsc
  have hss := fun w => ref_String (a' ++ c') w (by rw [ByteArray.size_append]; unfold maxLen; omega)
  have HSS := Lib.hid hss
  clear hss hta htc hsa hsc sa sc hl ha hc
  go_enter Tryz.func3, Tryz.ntmps3
  go_wp2_with fail
  refine (HTA.out _).mono ?_
  rintro e w' ⟨rfl, rfl⟩
  go_wp2_with fail
  refine (HTC.out _).mono ?_
  rintro e w' ⟨rfl, rfl⟩
  go_wp2_with fail
  refine (machine_New 10 10 q 0 w (by decide) (by decide) (by decide) h0 (by omega) (by decide) (by decide)).mono ?_
  rintro e w1 ⟨m, h, v, rfl, hM, hH, hown, hlh, hlm, hb⟩
  clear hH hown HTA HTC
  go_wp2_with fail
  refine (HSA.out _).mono ?_
  rintro e w2 ⟨rfl, kb⟩
  replace hM := HasB.below hM kb
  replace hb := below_via kb hb hb.size
  clear kb
  go_wp2_with fail
  refine (HSC.out _).mono ?_
  rintro e w3 ⟨rfl, kb⟩
  replace hM := HasB.below hM kb
  replace hb := below_via kb hb hb.size
  clear kb HSA HSC
  go_wp2_with fail
  have hT := fun W hW => (@operate_Concat_short m 10 10 q 0 10 h (.slice none 0 0) (.slice none 0 0) (.slice none 0 0) .nilFunc v (.slice none 0 0) 0 0 W a' c' (by unfold maxLen; omega) (by unfold maxLen; omega) hl' (by omega) hW).mono (fun (_ : Ending) (_ : World) hh => (⟨hh.1, HasB.below hW hh.2, But.of hh.2⟩ : _ ∧ MachAt _ m 10 10 q 0 10 false h (.slice none 0 0) (.slice none 0 0) (.slice none 0 0) .nilFunc v (.slice none 0 0) 0 0 ∧ But m W _))
  have HT := Lib.hid hT
  clear hT
  have hE := eq_text ((a' ++ c').extract 0 ((a' ++ c').size / 2 * 2))
  generalize (a' ++ c').extract 0 ((a' ++ c').size / 2 * 2) = t at hE HSS HT
  refine (operate_Binary (over := false) 4 false 0 a' 0 4 false 0 c' 0 0 4 false 0 t 0 (fun W hW => operate_add_text (over := false) a' c' 0 4 false 0 t 0 (fun W hW => HT.out W hW) hW) hM).mono ?_
  rintro e w4 ⟨rfl, hM4, kb⟩
  replace hb : Below w.heap.size w w4 := kb.below hb (by omega) hb.size
  clear kb hM
  go_wp2_with fail
  refine wp_gen (fun W => MachAt W m 10 10 q 0 10 false h (.slice none 0 0) (.slice none 0 0) (.slice none 0 0) .nilFunc v (.slice none 0 0) 0 0 ∧ Below w.heap.size w W ∧ HasB W w4.heap.size (doneCells 0 4 false 0 t 0 ⟨#[]⟩) 33) ?_ ?_
  · exact ⟨HasB.alloc hM4 _, hb.alloc hb.size _, HasB.newAt rfl⟩
  have hz4 := hb.size
  clear hM4 hb HT
  have hcat : ∀ w : World, (Op.stringOp .add a' c').run Tryz.prog w = .ok (.string (a' ++ c')) w := fun w => run_string_add_sum w a' c' (by omega)
  have hcat2 : (9223372036854775807 < a'.size + c'.size) = False := by simp; omega
  rintro W ⟨hM, hb, h1⟩
  have HM := Lib.hid hM
  have HB := Lib.hid hb
  have H1 := Lib.hid h1
  have l1 := h1.lt
  obtain ⟨⟨r0, r1, r2, r3, r4, r5, r6⟩, rf⟩ := h1.sevn
  clear hM hb h1
  go_region_held3 (fun w' => (w'.cell? ⟨w4.heap.size, 0, none⟩ = some (.int .i64 0) ∧ w'.cell? ⟨w4.heap.size, 1, none⟩ = some (.int .i64 4) ∧ w'.cell? ⟨w4.heap.size, 2, none⟩ = some (.bool false) ∧ w'.cell? ⟨w4.heap.size, 3, none⟩ = some (.float .f64 0) ∧ w'.cell? ⟨w4.heap.size, 4, none⟩ = some (.string t) ∧ w'.cell? ⟨w4.heap.size, 5, none⟩ = some (.int .i64 0) ∧ w'.cell? ⟨w4.heap.size, 6, none⟩ = some (.string ⟨#[]⟩)) ∧ MachAt w' m 10 10 q 0 10 false h (.slice none 0 0) (.slice none 0 0) (.slice none 0 0) .nilFunc v (.slice none 0 0) 0 0 ∧ Below w.heap.size w w')
    (first
      | (refine ⟨⟨?_, ?_, ?_, ?_, ?_, ?_, ?_⟩, ?_, ?_⟩ <;> first | exact HM.out.drew | exact HB.out.drew | assumption)
      | (go_split_ands; refine ⟨⟨?_, ?_, ?_, ?_, ?_, ?_, ?_⟩, ?_, ?_⟩ <;> first | exact below_keep kb (by assumption) | exact HasB.below (by assumption) kb | exact below_via kb (by assumption) (Below.size (by assumption)) | assumption))
    (first
      | (go_at_call 10; refine (HSS.out _).mono ?_; rintro e w5 ⟨rfl, kb⟩)
      | (go_at_call 11; refine (Machine_Over (And.left (And.right ‹_ ∧ MachAt _ m 10 10 q 0 10 false h (.slice none 0 0) (.slice none 0 0) (.slice none 0 0) .nilFunc v (.slice none 0 0) 0 0 ∧ _›))).mono ?_; rintro e w5 ⟨rfl, rfl⟩)
      | (go_at_call 12; refine (awake17 _).mono ?_; rintro e w5 ⟨rfl, kb⟩))
  all_goals (have hfin : Below w.heap.size w _ := And.right (And.right ‹_ ∧ MachAt _ m 10 10 q 0 10 false h (.slice none 0 0) (.slice none 0 0) (.slice none 0 0) .nilFunc v (.slice none 0 0) 0 0 ∧ Below w.heap.size w _›); have HF := Lib.hid hfin; clear hfin)
  all_goals go_wp2_with fail
  all_goals go_ret
  all_goals exact ⟨rfl, HF.out⟩
end Go.Proofs.YthdccijielekcaaGreatDoor
