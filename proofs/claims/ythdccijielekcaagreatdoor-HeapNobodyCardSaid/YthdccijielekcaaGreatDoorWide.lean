/-
  What quillref01.Wide and ustr.Wide return: a text of bytes with a byte of 0 ahead of each, for every text of fewer than 2^46 bytes.
-/
import Derived.Test.YthdccijielekcaaGreatDoorProg
import Derived.Test.YthdccijielekcaaGreatDoorKit
import Derived.Lib.Hide
import Derived.Outline
import Derived.Deep.DeepMust
import Derived.Deep.AppendLies
namespace Go.Proofs.YthdccijielekcaaGreatDoor
open Go.RowKit

/-- Each byte with a byte of 0 ahead. -/
def wide : List UInt8 → List UInt8
  | [] => []
  | b :: r => 0 :: b :: wide r
theorem wide_length (l : List UInt8) : (wide l).length = 2 * l.length := by
  induction l with
  | nil => rfl
  | cons b r ih => simp only [wide, List.length_cons, ih]; omega
theorem wide_append (a b : List UInt8) : wide (a ++ b) = wide a ++ wide b := by
  induction a with
  | nil => rfl
  | cons x r ih => simp [wide, ih]
theorem wide_take (l : List UInt8) (k : Nat) (h : k < l.length) : wide (l.take (k + 1)) = wide (l.take k) ++ [0, l[k]] := by
  rw [List.take_succ_eq_append_getElem h, wide_append]; rfl
theorem wide_take_length (l : List UInt8) (k : Nat) (h : k ≤ l.length) : (wide (l.take k)).length = 2 * k := by
  rw [wide_length, List.length_take, Nat.min_eq_left h]

theorem info_byte : (Tryz.prog.info? 5).map (fun i => (i.zero, i.size, i.bytes)) = some (some (.int .u8 0), 1, 1) := by kernel_rfl

/-- 'ustr.Wide'. -/
def WidePost (B : Nat) (w : World) (l : List UInt8) (e : Ending) (w' : World) : Prop := e = .returned (.string ⟨(wide l).toArray⟩) ∧ Below B w w'

set_option maxRecDepth 100000 in
set_option maxHeartbeats 800000 in
theorem ustr_Wide (s : ByteArray) (w : World) (hs : s.size ≤ 70368744177664) :
    Calls Tryz.prog 90 #[.string s] w (WidePost w.heap.size w s.data.toList) := by
  obtain ⟨i0, hi, hz0, hz1, hz2⟩ := info_parts info_byte
  have h2 : (2 : Int) * (s.size : Int) = ((2 * s.size : Nat) : Int) := by omega
  have H2 := Lib.hid h2
  clear h2
  go_enter Tryz.func90, Tryz.ntmps90
  go_wp2_with (at_make; go_must (refine wpList_make_own _ rfl _ _ 187 rfl w.heap.size 5 i0 (.int .u8 0) 1 Tryz.underlying187 hi hz0 hz1 _ _ _ (2 * s.size) rfl rfl H2.out (by rw [hz2]; omega) (by unfold maxLen; omega) (by omega) ?_))
  intro w1 hown hg
  go_wp2_with fail
  go_loopw [3, 11] (fun v i wr => ∃ k : Nat, k ≤ s.size ∧ i = .int .i64 k ∧ v = .slice (some ⟨w.heap.size, 0, none⟩) (2 * k) (2 * s.size) ∧ wr.ownsRow w.heap.size 5 1 v (2 * k) (bv (wide (s.data.toList.take k))) ∧ Below w.heap.size w wr ∧ w.heap.size < wr.heap.size)
    (fun _ i _ => s.size - (intOf i).toNat)
  case atStart => exact ⟨0, Nat.zero_le _, rfl, rfl, hown, (Below.refl _ _).grown hg (Nat.le_refl _) (by simp), (hown.lt _ rfl).2⟩
  case round =>
    obtain ⟨k, hk, rfl, rfl, hown, hb, hsz⟩ := hrel
    by_cases hlt : k < s.size
    · have hw : wide (s.data.toList.take (k + 1)) = wide (s.data.toList.take k) ++ [0, s[k]] := wide_take _ k (by rw [bytes_length]; exact hlt)
      have HW := Lib.hid hw
      clear hw
      go_wp2_with (at_builtin; go_must (refine wpList_append_fits _ rfl _ _ 187 rfl w.heap.size 5 i0 1 Tryz.underlying187 hi hz1 w.heap.size (2 * k) (2 * s.size) _ rfl (hown.alloc _) ⟨wr.heap.size, 0, none⟩ 2 2 (bv [0, s[k]]) rfl rfl (World.news_of_block (cs := (bv [0, s[k]]).toArray) (t := 5) (fr := (0, 0)) (heap_alloc_new wr _)) (bv_one _) (by omega) ?_))
      intro w2 hown2 hg2
      rw [← bv_append, ← HW.out] at hown2
      have hb2 := below_grown hb (by omega) hown (Nat.le_refl _) hg2
      have hsz2 : w.heap.size < w2.heap.size := by have := hg2.size; simp at this; omega
      clear hown hg2 hb
      go_wp2
      go_roundw
      case rel => exact ⟨k + 1, by omega, by go_num, by simp; omega, hown2, hb2, hsz2⟩
      case measure => simp [intOf]; omega
    · have hke : k = s.size := by omega
      subst hke
      have hall : s.data.toList.take s.size = s.data.toList := List.take_of_length_le (by rw [bytes_length]; exact Nat.le_refl _)
      rw [hall] at hown
      have hcv := run_string_own (P := Tryz.prog) wr 187 9 5 _ hown Tryz.underlying187 Tryz.underlying5 Tryz.underlying9
      go_wp2
      go_ret
      exact ⟨rfl, hb⟩

/-- 'quillref01.put' of a unit, onto a row of the call's own. -/
def PutPost (base : Nat) (w : World) (v : Value) (n : Nat) (l : List UInt8) (u : Nat) (e : Ending) (w' : World) : Prop :=
  ∃ v', e = .returned v' ∧ w'.ownsRow base 5 1 v' (n + 2) (bv (l ++ unitB u)) ∧ (∃ o, (w.alloc o).grownBy w' v.ownBlock)

set_option maxRecDepth 100000 in
theorem ref01_put (base : Nat) (v : Value) (n : Nat) (l : List UInt8) (u : Nat) (w : World) (hu : u < 65536) (hown : w.ownsRow base 5 1 v n (bv l)) (hb : base ≤ w.heap.size) (hn : n + 2 ≤ 140737488355328) :
    Calls Tryz.prog 131 #[v, .int .u16 (u : Int)] w (PutPost base w v n l u) := by
  obtain ⟨i0, hi, hz0, hz1, hz2⟩ := info_parts info_byte
  have h0 : (0 : Int) ≤ (u : Int) := by omega
  have h1 : (u : Int) < 65536 := by omega
  have h2 := u16_and255 u hu
  have hbv := Lib.hid (bv_unitB u hu)
  have hone : ∀ x ∈ bv (unitB u), x.oneCell' = true := bv_one _
  rw [hbv.out] at hone
  go_enter Tryz.func131, Tryz.ntmps131
  go_wp2_with (at_builtin; go_must (refine wpList_append_own _ rfl _ _ 187 rfl base 5 i0 (.int .u8 0) 1 1 Tryz.underlying187 hi hz0 hz1 hz2 rfl (by decide) v n _ rfl (hown.alloc _) ⟨w.heap.size, 0, none⟩ 2 2 [.int .u8 ((u : Int) / 256), .int .u8 ((u : Int) % 256)] rfl rfl (World.news_of_block (cs := #[.int .u8 ((u : Int) / 256), .int .u8 ((u : Int) % 256)]) (t := 5) (fr := (0, 0)) (heap_alloc_new w _)) hone (by unfold maxLen; omega) (by omega) (by simp; omega) ?_))
  intro v' w1 hown1 hg1 _
  go_wp2
  go_ret
  refine ⟨v', rfl, ?_, _, hg1⟩
  rw [bv_append, hbv.out]
  exact hown1

set_option maxRecDepth 100000 in
set_option maxHeartbeats 800000 in
theorem ref01_Wide (s : ByteArray) (w : World) (hs : s.size ≤ 70368744177664) :
    Calls Tryz.prog 73 #[.string s] w (WidePost w.heap.size w s.data.toList) := by
  go_enter Tryz.func73, Tryz.ntmps73
  go_wp2_with fail
  go_loopw [3, 4] (fun v i wr => ∃ k : Nat, k ≤ s.size ∧ i = .int .i64 k ∧ wr.ownsRow w.heap.size 5 1 v (2 * k) (bv (wide (s.data.toList.take k))) ∧ Below w.heap.size w wr)
    (fun _ i _ => s.size - (intOf i).toNat)
  case atStart => exact ⟨0, Nat.zero_le _, rfl, World.ownsRow_nil _ _ _ _, Below.refl _ _⟩
  case round =>
    obtain ⟨k, hk, rfl, hown, hb⟩ := hrel
    have hbs := hb.size
    by_cases hlt : k < s.size
    · have hw : wide (s.data.toList.take (k + 1)) = wide (s.data.toList.take k) ++ unitB s[k].toNat := by
        rw [unitB_byte]; exact wide_take _ k (by rw [bytes_length]; exact hlt)
      have HW := Lib.hid hw
      clear hw
      have hbl := s[k].toNat_lt
      go_wp2_with (go_at_call 131; go_must (refine (ref01_put w.heap.size _ (2 * k) _ s[k].toNat _ (by omega) hown (by omega) (by omega)).mono ?_))
      rintro e w2 ⟨v2, rfl, hown2, o, hg2⟩
      rw [← HW.out] at hown2
      have hb2 := below_grown hb (by omega) hown (Nat.le_refl _) hg2
      clear hown hg2 hb
      go_wp2
      go_roundw
      case rel => exact ⟨k + 1, by omega, by go_num, hown2, hb2⟩
      case measure => simp [intOf]; omega
    · have hke : k = s.size := by omega
      subst hke
      have hall : s.data.toList.take s.size = s.data.toList := List.take_of_length_le (by rw [bytes_length]; exact Nat.le_refl _)
      rw [hall] at hown
      have hcv := run_string_own (P := Tryz.prog) wr 187 9 5 _ hown Tryz.underlying187 Tryz.underlying5 Tryz.underlying9
      go_wp2
      go_ret
      exact ⟨rfl, hb⟩
end Go.Proofs.YthdccijielekcaaGreatDoor
