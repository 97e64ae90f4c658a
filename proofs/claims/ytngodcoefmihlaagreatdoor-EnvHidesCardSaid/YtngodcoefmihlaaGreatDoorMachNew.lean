/-
  Contract of machine.New, without draws: the machine that it makes, cell by cell. Conditions: the limits are within their bounds; no draws are handed in.
-/
import Derived.Test.YtngodcoefmihlaaGreatDoorHeapNew
import Derived.Deep.RegionHeld3
import Derived.Deep.DeepMust
import Derived.Deep.AppendLies
namespace Go.Proofs.YtngodcoefmihlaaGreatDoor
open Go.RowKit

theorem IndexFunc_nil (f : Value) (w : World) : Calls Tryz.prog 99 #[.slice none 0 0, f] w fun e w' => e = .returned (.int .i64 (-1)) ∧ w = w' := by
  go_enter Tryz.func99, Tryz.ntmps99
  go_wp2_with fail
  go_rounds 1
  go_ret
  exact ⟨rfl, rfl⟩
theorem ContainsFunc_nil (f : Value) (w : World) : Calls Tryz.prog 42 #[.slice none 0 0, f] w fun e w' => e = .returned (.bool false) ∧ w = w' := by
  go_enter Tryz.func42, Tryz.ntmps42
  go_wp2_with (go_at_call 99; refine (IndexFunc_nil _ _).mono ?_; rintro e w' ⟨rfl, rfl⟩)
  go_ret
  exact ⟨rfl, rfl⟩
theorem Clone_nil (w : World) : Calls Tryz.prog 45 #[.slice none 0 0] w fun e w' => e = .returned (.slice none 0 0) ∧ w = w' := by
  have he : ∀ w : World, (binOp .eql 77 (.slice none 0 0) (.slice none 0 0)).run Tryz.prog w = .ok (.bool true) w := fun _ => by kernel_rfl
  go_enter Tryz.func45, Tryz.ntmps45
  go_wp2
  go_ret
  exact ⟨rfl, rfl⟩

theorem info_int : (Tryz.prog.info? 3).map (fun i => (i.zero, i.size, i.bytes)) = some (some (.int .i64 0), 1, 8) := by kernel_rfl

/-- A machine's own block. -/
def MachAt (w : World) (m : Nat) (f c ch d left : Int) (over : Bool) (heap : Nat) (envs codes natives body known draws : Value) (drawn calls : Int) : Prop :=
  HasB w m #[.int .i64 f, .int .i64 c, .int .i64 ch, .int .i64 d, .int .i64 left, .bool over, .pointer (some ⟨heap, 0, none⟩), envs, codes, natives, body, known, draws, .int .i64 drawn, .int .i64 calls] 90

/-- What a new machine is: its own block, its heap's, and its list of known objects, all -1. -/
def NewMach (f c ch d : Int) (w : World) (e : Ending) (w' : World) : Prop :=
  ∃ m h v, e = .returned (.tuple #[.pointer (some ⟨m, 0, none⟩), .int .i64 0]) ∧ MachAt w' m f c ch d f false h (.slice none 0 0) (.slice none 0 0) (.slice none 0 0) .nilFunc v (.slice none 0 0) 0 0 ∧ HeapAt w' h (.slice none 0 0) c 0 ∧
    w'.ownsRow (m + 1) 3 1 v 15 (List.replicate 15 (.int .i64 (-1))) ∧ w.heap.size ≤ h ∧ h < m ∧ Below w.heap.size w w'

set_option maxRecDepth 100000 in
set_option maxHeartbeats 2000000 in
theorem machine_New (f c ch d : Int) (w : World) (f0 : 0 ≤ f) (c0 : 0 ≤ c) (c1 : c ≤ 16777216) (ch0 : 0 ≤ ch) (ch1 : ch ≤ 268435456) (d0 : 0 ≤ d) (d1 : d ≤ 256) :
    Calls Tryz.prog 7 #[.agg #[.int .i64 f, .int .i64 c, .int .i64 ch, .int .i64 d], .slice none 0 0] w (NewMach f c ch d w) := by
  obtain ⟨i0, hi, hz0, hz1, hz2⟩ := info_parts info_int
  go_enter Tryz.func7, Tryz.ntmps7
  go_wp2_with fail
  refine (heap_New c _ c0 c1).mono ?_
  rintro e w' ⟨rfl, rfl⟩
  go_wp2_with (first | (go_at_call 42; refine (ContainsFunc_nil _ _).mono ?_; rintro e w' ⟨rfl, rfl⟩))
  go_region_held3 (fun w' => w'.cell? ⟨w.heap.size, 0, none⟩ = some (.int .i64 f) ∧ w'.cell? ⟨w.heap.size, 1, none⟩ = some (.int .i64 c) ∧ w'.cell? ⟨w.heap.size, 2, none⟩ = some (.int .i64 ch) ∧ w'.cell? ⟨w.heap.size, 3, none⟩ = some (.int .i64 d))
    (go_keep) (first | (go_at_call 45; refine (Clone_nil _).mono ?_; rintro e w' ⟨rfl, rfl⟩))
  go_wp2_with fail
  go_loopw [56] (fun i wr => ∃ (k : Nat) (v : Value), k ≤ 15 ∧ i = .int .i64 k ∧ MachAt wr (w.heap.size + 1 + 1) f c ch d f false (w.heap.size + 1) (.slice none 0 0) (.slice none 0 0) (.slice none 0 0) .nilFunc v (.slice none 0 0) 0 0 ∧
      HeapAt wr (w.heap.size + 1) (.slice none 0 0) c 0 ∧ wr.ownsRow (w.heap.size + 1 + 1 + 1) 3 1 v k (List.replicate k (.int .i64 (-1))) ∧ Below w.heap.size w wr)
    (fun i _ => 15 - (intOf i).toNat)
  case atStart =>
    refine ⟨0, _, Nat.zero_le _, rfl, ?_, ?_, World.ownsRow_nil _ _ _ _, by go_grown⟩
    · have h := HasB.new ((w.alloc (.cells #[.int .i64 f, .int .i64 c, .int .i64 ch, .int .i64 d] 32)).alloc (.cells #[.slice none 0 0, .int .i64 c, .int .i64 0, .bool true] 148)) #[.int .i64 f, .int .i64 c, .int .i64 ch, .int .i64 d, .int .i64 f, .bool false, .pointer (some ⟨w.heap.size + 1, 0, none⟩), .slice none 0 0, .slice none 0 0, .slice none 0 0, .nilFunc, .slice none 0 0, .slice none 0 0, .int .i64 0, .int .i64 0] 90
      simp at h
      exact h.drew
    · have h := (HasB.new (w.alloc (.cells #[.int .i64 f, .int .i64 c, .int .i64 ch, .int .i64 d] 32)) #[.slice none 0 0, .int .i64 c, .int .i64 0, .bool true] 148).alloc (.cells #[.int .i64 f, .int .i64 c, .int .i64 ch, .int .i64 d, .int .i64 f, .bool false, .pointer (some ⟨w.heap.size + 1, 0, none⟩), .slice none 0 0, .slice none 0 0, .slice none 0 0, .nilFunc, .slice none 0 0, .slice none 0 0, .int .i64 0, .int .i64 0] 90)
      simp at h
      exact h.drew
  case round =>
    obtain ⟨k, v, hk, rfl, hM, hH, hown, hb⟩ := hrel
    have hbs := hb.size
    have hml := hM.lt
    by_cases hlt : k < 15
    · have q11 : wr.cell? ⟨w.heap.size + 1 + 1, 11, none⟩ = some v := hM.cell 11
      go_wp2_with (at_builtin; go_must (refine wpList_append_own _ rfl _ _ 88 rfl (w.heap.size + 1 + 1 + 1) 3 i0 (.int .i64 0) 1 8 Tryz.underlying88 hi hz0 hz1 hz2 rfl (by decide) v k _ rfl (hown.alloc _) ⟨wr.heap.size, 0, none⟩ 1 1 [.int .i64 (-1)] rfl rfl (World.news_of_block (cs := #[.int .i64 (-1)]) (t := 3) (fr := (0, 0)) (heap_alloc_new wr _)) (by simp [Value.oneCell']) (by unfold maxLen; omega) (by omega) (by simp; omega) ?_))
      intro v1 w1 hown1 hg1 _
      obtain ⟨a1, c1, rfl⟩ := own_shape hown1
      have hM1 := hM.grown hown (by omega) hg1
      have hH1 := hH.grown hown (by omega) hg1
      have hb1 := below_grown hb (by omega) hown (by omega) hg1
      have r11 : w1.cell? ⟨w.heap.size + 1 + 1, 11, none⟩ = some v := hM1.cell 11
      have rf := hM1.free 11
      have HM1 := Lib.hid hM1
      have HH1 := Lib.hid hH1
      have HO1 := Lib.hid hown1
      have HB1 := Lib.hid hb1
      clear hM hH hown hb hg1 hM1 hH1 hown1 hb1
      go_wp2
      go_roundw
      case rel =>
        refine ⟨k + 1, .slice a1 (k + 1) c1, by omega, by go_num, ?_, HH1.out.far (by simp) _, ?_, HB1.out.setCell (by simp; omega) _⟩
        · have h := HM1.out.set 11 (.slice a1 (k + 1) c1)
          simp at h
          exact h
        · rw [List.replicate_succ']
          exact ownsRow_far HO1.out (by simp) _
      case measure => simp [intOf]; omega
    · have hke : k = 15 := by omega
      subst hke
      go_wp2
      go_returns
      exact ⟨_, _, _, rfl, hM, hH, hown, by omega, by omega, hb⟩
end Go.Proofs.YtngodcoefmihlaaGreatDoor
