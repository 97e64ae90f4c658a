/-
  The statements' own question (quilllaw11's awake): two values of its own are added, and the sum is told. It answers true. No condition.
-/
import Derived.Test.YtcidelejgpnloaaGreatDoorVal
import Derived.Test.YtcidelejgpnloaaGreatDoorWide
import Derived.Deep.RegionHeld3
namespace Go.Proofs.YtcidelejgpnloaaGreatDoor
open Go.RowKit

def txtNull : ByteArray := ⟨#[0, 110, 0, 117, 0, 108, 0, 108]⟩
def txtA : ByteArray := ⟨#[0, 97]⟩
def txtANull : ByteArray := ⟨#[0, 97, 0, 110, 0, 117, 0, 108, 0, 108]⟩

theorem value_ToString_null (w : World) : Calls Tryz.prog 29 #[val 1 false 0 ⟨#[]⟩ 0] w fun e w' => e = .returned (.tuple #[.string txtNull, .int .i64 0]) ∧ Below w.heap.size w w' := by
  go_enter Tryz.func29, Tryz.ntmps29
  go_wp2_with (go_at_call 42; go_must (refine (ustr_Wide _ _ (by decide)).mono ?_); rintro e w' ⟨rfl, hb1⟩)
  go_returns
  exact ⟨rfl, below_via hb1 (by go_grown) (by simp)⟩
theorem value_ToString_string (s : ByteArray) (w : World) : Calls Tryz.prog 29 #[val 4 false 0 s 0] w fun e w' => e = .returned (.tuple #[.string s, .int .i64 0]) ∧ Below w.heap.size w w' := by
  go_enter Tryz.func29, Tryz.ntmps29
  go_wp2
  go_returns
  exact ⟨rfl, by go_grown⟩

theorem txt_sum : (txtA ++ txtNull).extract 0 ((txtA ++ txtNull).size / 2 * 2) = txtANull := by decide +kernel
theorem value_Add_awake (w : World) : Calls Tryz.prog 9 #[val 4 false 0 txtA 0, val 1 false 0 ⟨#[]⟩ 0] w fun e w' => e = .returned (.tuple #[val 4 false 0 txtANull 0, .int .i64 0]) ∧ Below w.heap.size w w' := by
  go_enter Tryz.func9, Tryz.ntmps9
  go_wp2_with fail
  refine (value_ToString_string txtA _).mono ?_
  rintro e w1 ⟨rfl, hb⟩
  obtain ⟨hc, hf⟩ := bcell hb
  go_wp2_with fail
  refine (value_ToString_null _).mono ?_
  rintro e w2 ⟨rfl, k⟩
  replace hb := below_step hb k
  clear k hc hf
  obtain ⟨hc, hf⟩ := bcell hb
  go_wp2_with fail
  refine (value_String _ _ (by decide)).mono ?_
  rintro e w3 ⟨rfl, k⟩
  replace hb := below_step hb k
  clear k hc hf
  obtain ⟨hc, hf⟩ := bcell hb
  have B3 := (HasB.new ((w.alloc _).alloc _) _ _).below hb
  simp at B3
  obtain ⟨q0, q1, q2, q3, q4, qf⟩ := B3.five
  have HB := Lib.hid hb
  clear hc hf hb B3
  rw [txt_sum]
  go_wp2
  refine bodyPost_ret (v := .tuple #[val 4 false 0 txtANull 0, .int .i64 0]) (by simp [results, Tryz.results9, go_sem, q0, q1, q2, q3, q4]) rfl ?_
  exact ⟨rfl, ((((Below.refl _ _).alloc (Nat.le_refl _) _).alloc (by simp) _).alloc (by simp; omega) _ |>.trans (HB.out.mono (by simp; omega)) |>.setCell (by simp; omega) _ |>.setCell (by simp; omega) _ |>.setCell (by simp; omega) _ |>.setCell (by simp; omega) _ |>.setCell (by simp; omega) _)⟩

theorem wide_a : (⟨(wide (⟨#[97]⟩ : ByteArray).data.toList).toArray⟩ : ByteArray) = txtA := by decide +kernel
theorem wide_anull : (⟨(wide (⟨#[97, 110, 117, 108, 108]⟩ : ByteArray).data.toList).toArray⟩ : ByteArray) = txtANull := by decide +kernel
theorem Wide_a (w : World) : Calls Tryz.prog 28 #[.string ⟨#[97]⟩] w fun e w' => e = .returned (.string txtA) ∧ Below w.heap.size w w' :=
  (ref01_Wide _ w (by decide)).mono fun _ _ h => by rw [← wide_a]; exact h
theorem Wide_anull (w : World) : Calls Tryz.prog 28 #[.string ⟨#[97, 110, 117, 108, 108]⟩] w fun e w' => e = .returned (.string txtANull) ∧ Below w.heap.size w w' :=
  (ref01_Wide _ w (by decide)).mono fun _ _ h => by rw [← wide_anull]; exact h

theorem awake11 (w : World) : Calls Tryz.prog 8 #[] w fun e w' => e = .returned (.bool true) ∧ Below w.heap.size w w' := by
  go_enter Tryz.func8, Tryz.ntmps8
  go_wp2_with fail
  refine (Wide_a _).mono ?_
  rintro e w1 ⟨rfl, hb⟩
  go_wp2_with fail
  refine (value_Add_awake _).mono ?_
  rintro e w2 ⟨rfl, k⟩
  replace hb := below_step hb k
  have HB := Lib.hid hb
  have hz := hb.size
  clear k hb
  go_wp2_with fail
  go_region_held3 (fun w' => w'.cell? ⟨w2.heap.size, 0, none⟩ = some (.int .i64 4) ∧ w'.cell? ⟨w2.heap.size, 3, none⟩ = some (.string txtANull))
    (first | go_keep | (go_split_ands; refine ⟨?_, ?_⟩ <;> exact below_keep k (by assumption))) (first | (go_at_call 28; refine (Wide_anull _).mono ?_; rintro e w' ⟨rfl, k⟩))
  go_wp2
  go_ret
  exact ⟨rfl, below_via k ((HB.out.alloc (by omega) _).drew) (by simp; omega)⟩
end Go.Proofs.YtcidelejgpnloaaGreatDoor
