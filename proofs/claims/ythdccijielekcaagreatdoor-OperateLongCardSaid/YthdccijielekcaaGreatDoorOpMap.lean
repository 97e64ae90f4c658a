/-
  Contract of operate.operators: the map of all operators that it makes tells 'add' at the sign of addition. No condition.
-/
import Derived.Test.YthdccijielekcaaGreatDoorMachAsk
import Derived.Maps.OwnSet
import Derived.Deep.DeepMust
namespace Go.Proofs.YthdccijielekcaaGreatDoor
open Go.RowKit Go.ChangeMaps Go.WideShapes

/-- The function 'add', as a value. -/
abbrev addV : Value := .func (.func 104) #[] #[]
open Classical in
/-- How a map's element reads here: 1 for 'add', 0 for all else. -/
noncomputable def fnElem (v : Value) : Option (DataW Unit × List MemPlace) := some (.lit (.int .i64 (if v = addV then 1 else 0)), [])
def plusS : ByteArray := ⟨#[43]⟩
def plusL : Lit := .string [43]
theorem key_law : Go.Maps.Keyed Tryz.prog 9 := Go.Maps.string_keyed Tryz.underlying9
theorem key_is (s : ByteArray) (hs : s.size ≤ maxLen) : keyOf Tryz.prog 9 (.string s) = some (.string s.data.toList) := Go.WideMaps.keyOf_string_mk Tryz.underlying9 hs

/-- A map of operators in which 'add' stands at its sign. -/
def OpMap (w : World) (g n : Nat) : Prop := ∃ D : DataW Unit, w.ownsMap Tryz.prog 9 fnElem g n D ∧ D.atKey plusL (.lit (.int .i64 0)) = .lit (.int .i64 1) ∧ Go.Maps.has D plusL = true

theorem OpMap.first {w : World} {g : Nat} (h : w.ownsMap Tryz.prog 9 fnElem g 0 (.map [])) :
    ∃ w', (Instr.mapUpdate 105 (.map (some g)) (.string ⟨#[43]⟩) addV).run Tryz.prog w = .ok () w' ∧ OpMap w' g 1 ∧ w.grownBy w' (some g) := by
  obtain ⟨w', h1, h2, h3⟩ := h.update key_law Tryz.underlying105 (by decide) (key_is ⟨#[43]⟩ (by decide)) (val := addV) (d := .lit (.int .i64 1)) (ps := []) (by simp [fnElem])
  exact ⟨w', h1, ⟨_, h2, Go.Maps.atKey_put_same ⟨_, rfl⟩ (by simp [WideAt.IsKeyLit]) _ _, Go.Maps.has_put_same ⟨_, rfl⟩ (by simp [WideAt.IsKeyLit]) _⟩, h3⟩
set_option maxRecDepth 100000 in
theorem OpMap.step {w : World} {g n : Nat} (h : OpMap w g n) (hn : n < maxLen) (s : ByteArray) (hs : s.size ≤ maxLen) (hne : s.data.toList ≠ [43]) (v : Value) :
    ∃ w', (Instr.mapUpdate 105 (.map (some g)) (.string s) v).run Tryz.prog w = .ok () w' ∧ OpMap w' g (n + 1) ∧ w.grownBy w' (some g) := by
  obtain ⟨D, h0, ha, hh⟩ := h
  obtain ⟨dv, hd⟩ : ∃ dv, fnElem v = some (dv, []) := ⟨_, rfl⟩
  obtain ⟨w', h1, h2, h3⟩ := h0.update key_law Tryz.underlying105 hn (key_is s hs) (val := v) hd
  have hk : plusL ≠ Lit.string s.data.toList := fun e => hne (by unfold plusL at e; injection e with e; exact e.symm)
  exact ⟨w', h1, ⟨_, h2, by rw [Go.Maps.atKey_put_other hk]; exact ha, by rw [Go.Maps.has_put_other hk]; exact hh⟩, h3⟩
theorem OpMap.below {w w' : World} {g n : Nat} (h : OpMap w g n) (hb : Below w.heap.size w w') : OpMap w' g n := by
  obtain ⟨D, h0, ha⟩ := h
  exact ⟨D, h0.kept (row := none) ⟨hb.os, hb.tape, hb.output, hb.size, fun k hk _ => hb.block k hk⟩ (by simp), ha⟩

set_option maxRecDepth 100000 in
theorem OpMap.next {w0 w : World} {g n B : Nat} (h : OpMap w g n) (hb : Below B w0 w) (hB : B ≤ g) (hB2 : B ≤ w.heap.size) (hn : n < 1000) (s : ByteArray) (hs : s.size ≤ maxLen) (hne : s.data.toList ≠ [43]) (v : Value) :
    ∃ w', (Instr.mapUpdate 105 (.map (some g)) (.string s) v).run Tryz.prog w = .ok () w' ∧ OpMap w' g (n + 1) ∧ Below B w0 w' ∧ w.grownBy w' (some g) := by
  obtain ⟨w', h1, h2, h3⟩ := h.step (by unfold maxLen; omega) s hs hne v
  exact ⟨w', h1, h2, hb.grown h3 hB2 (fun k hk => by cases hk; exact hB), h3⟩

theorem OpMap.lt {w : World} {g n : Nat} (h : OpMap w g n) : g < w.heap.size := by
  obtain ⟨D, h0, _⟩ := h
  exact h0.lt

/-- What a maker of operators hands back: some function; nothing that was there turned. -/
def AnyFn (w : World) (e : Ending) (w' : World) : Prop := ∃ v, e = .returned v ∧ Below w.heap.size w w'
theorem operate_less (t n : Bool) (w : World) : Calls Tryz.prog 107 #[.bool t, .bool n] w (AnyFn w) := by
  go_enter Tryz.func107, Tryz.ntmps107
  go_wp2
  go_ret
  exact ⟨_, rfl, by go_grown⟩
theorem operate_equal (t n : Bool) (w : World) : Calls Tryz.prog 108 #[.bool t, .bool n] w (AnyFn w) := by
  go_enter Tryz.func108, Tryz.ntmps108
  go_wp2
  go_ret
  exact ⟨_, rfl, by go_grown⟩
theorem operate_numbers (s : ByteArray) (w : World) : Calls Tryz.prog 109 #[.string s] w (AnyFn w) := by
  go_enter Tryz.func109, Tryz.ntmps109
  go_wp2
  go_ret
  exact ⟨_, rfl, by go_grown⟩

/-- The signs of the operators of numbers. -/
def signs : Array Value := #[.string ⟨#[42]⟩, .string ⟨#[47]⟩, .string ⟨#[37]⟩, .string ⟨#[45]⟩, .string ⟨#[60, 60]⟩, .string ⟨#[62, 62]⟩, .string ⟨#[62, 62, 62]⟩, .string ⟨#[38]⟩, .string ⟨#[94]⟩, .string ⟨#[124]⟩]
theorem signs_at {w : World} {b : Nat} (H : HasB w b signs 9) (k : Nat) (hk : k < 10) : ∃ s : ByteArray, s.size ≤ maxLen ∧ s.data.toList ≠ [43] ∧ w.cell? ⟨b, k, none⟩ = some (.string s) := by
  rcases (show k = 0 ∨ k = 1 ∨ k = 2 ∨ k = 3 ∨ k = 4 ∨ k = 5 ∨ k = 6 ∨ k = 7 ∨ k = 8 ∨ k = 9 by omega) with rfl | rfl | rfl | rfl | rfl | rfl | rfl | rfl | rfl | rfl
  all_goals exact ⟨_, by decide, by decide, H.cell _⟩

def AddMap (w : World) (e : Ending) (w' : World) : Prop := ∃ g, e = .returned (.map (some g)) ∧ OpMap w' g 21 ∧ Below w.heap.size w w'
set_option maxRecDepth 100000 in
theorem operate_operators (w : World) : Calls Tryz.prog 50 #[] w (AddMap w) := by
  have hmm := @run_makeMap Tryz.prog
  go_enter Tryz.func50, Tryz.ntmps50
  go_wp2_with fail
  obtain ⟨w1, hr, hO, hg⟩ := OpMap.first (World.ownsMap_made w Tryz.prog 9 fnElem)
  have hb : Below w.heap.size w w1 := ((Below.refl _ w).alloc (Nat.le_refl _) _).grown hg (by simp) (fun k hk => by cases hk; exact Nat.le_refl _)
  clear hg
  rw [hr]
  clear hr
  simp only [Result.andThen]
  rw [Oper.upon_skip]
  go_wp2_with fail
  obtain ⟨w2, hr, hO, hb, -⟩ := hO.next hb (Nat.le_refl _) hb.size (by decide) ⟨#[105, 110, 115, 116, 97, 110, 99, 101, 111, 102]⟩ (by decide) (by decide) (.func (.func 105) #[] #[])
  rw [hr]
  clear hr
  simp only [Result.andThen]
  rw [Oper.upon_skip]
  go_wp2_with fail
  obtain ⟨w3, hr, hO, hb, -⟩ := hO.next hb (Nat.le_refl _) hb.size (by decide) ⟨#[105, 110]⟩ (by decide) (by decide) (.func (.func 106) #[] #[])
  rw [hr]
  clear hr
  simp only [Result.andThen]
  rw [Oper.upon_skip]
  go_wp2_with (first | (go_at_call 107; go_must (refine (operate_less _ _ _).mono ?_); rintro e w' ⟨v, rfl, k⟩) | (go_at_call 108; go_must (refine (operate_equal _ _ _).mono ?_); rintro e w' ⟨v, rfl, k⟩))
  replace hO := hO.below k
  replace hb := below_via k hb hb.size
  clear k
  obtain ⟨w4, hr, hO, hb, -⟩ := hO.next hb (Nat.le_refl _) hb.size (by decide) ⟨#[60]⟩ (by decide) (by decide) v
  rw [hr]
  clear hr
  simp only [Result.andThen]
  rw [Oper.upon_skip]
  go_wp2_with (first | (go_at_call 107; go_must (refine (operate_less _ _ _).mono ?_); rintro e w' ⟨v, rfl, k⟩) | (go_at_call 108; go_must (refine (operate_equal _ _ _).mono ?_); rintro e w' ⟨v, rfl, k⟩))
  replace hO := hO.below k
  replace hb := below_via k hb hb.size
  clear k
  obtain ⟨w5, hr, hO, hb, -⟩ := hO.next hb (Nat.le_refl _) hb.size (by decide) ⟨#[62]⟩ (by decide) (by decide) v
  rw [hr]
  clear hr
  simp only [Result.andThen]
  rw [Oper.upon_skip]
  go_wp2_with (first | (go_at_call 107; go_must (refine (operate_less _ _ _).mono ?_); rintro e w' ⟨v, rfl, k⟩) | (go_at_call 108; go_must (refine (operate_equal _ _ _).mono ?_); rintro e w' ⟨v, rfl, k⟩))
  replace hO := hO.below k
  replace hb := below_via k hb hb.size
  clear k
  obtain ⟨w6, hr, hO, hb, -⟩ := hO.next hb (Nat.le_refl _) hb.size (by decide) ⟨#[60, 61]⟩ (by decide) (by decide) v
  rw [hr]
  clear hr
  simp only [Result.andThen]
  rw [Oper.upon_skip]
  go_wp2_with (first | (go_at_call 107; go_must (refine (operate_less _ _ _).mono ?_); rintro e w' ⟨v, rfl, k⟩) | (go_at_call 108; go_must (refine (operate_equal _ _ _).mono ?_); rintro e w' ⟨v, rfl, k⟩))
  replace hO := hO.below k
  replace hb := below_via k hb hb.size
  clear k
  obtain ⟨w7, hr, hO, hb, -⟩ := hO.next hb (Nat.le_refl _) hb.size (by decide) ⟨#[62, 61]⟩ (by decide) (by decide) v
  rw [hr]
  clear hr
  simp only [Result.andThen]
  rw [Oper.upon_skip]
  go_wp2_with (first | (go_at_call 107; go_must (refine (operate_less _ _ _).mono ?_); rintro e w' ⟨v, rfl, k⟩) | (go_at_call 108; go_must (refine (operate_equal _ _ _).mono ?_); rintro e w' ⟨v, rfl, k⟩))
  replace hO := hO.below k
  replace hb := below_via k hb hb.size
  clear k
  obtain ⟨w8, hr, hO, hb, -⟩ := hO.next hb (Nat.le_refl _) hb.size (by decide) ⟨#[61, 61]⟩ (by decide) (by decide) v
  rw [hr]
  clear hr
  simp only [Result.andThen]
  rw [Oper.upon_skip]
  go_wp2_with (first | (go_at_call 107; go_must (refine (operate_less _ _ _).mono ?_); rintro e w' ⟨v, rfl, k⟩) | (go_at_call 108; go_must (refine (operate_equal _ _ _).mono ?_); rintro e w' ⟨v, rfl, k⟩))
  replace hO := hO.below k
  replace hb := below_via k hb hb.size
  clear k
  obtain ⟨w9, hr, hO, hb, -⟩ := hO.next hb (Nat.le_refl _) hb.size (by decide) ⟨#[33, 61]⟩ (by decide) (by decide) v
  rw [hr]
  clear hr
  simp only [Result.andThen]
  rw [Oper.upon_skip]
  go_wp2_with (first | (go_at_call 107; go_must (refine (operate_less _ _ _).mono ?_); rintro e w' ⟨v, rfl, k⟩) | (go_at_call 108; go_must (refine (operate_equal _ _ _).mono ?_); rintro e w' ⟨v, rfl, k⟩))
  replace hO := hO.below k
  replace hb := below_via k hb hb.size
  clear k
  obtain ⟨w10, hr, hO, hb, -⟩ := hO.next hb (Nat.le_refl _) hb.size (by decide) ⟨#[61, 61, 61]⟩ (by decide) (by decide) v
  rw [hr]
  clear hr
  simp only [Result.andThen]
  rw [Oper.upon_skip]
  go_wp2_with (first | (go_at_call 107; go_must (refine (operate_less _ _ _).mono ?_); rintro e w' ⟨v, rfl, k⟩) | (go_at_call 108; go_must (refine (operate_equal _ _ _).mono ?_); rintro e w' ⟨v, rfl, k⟩))
  replace hO := hO.below k
  replace hb := below_via k hb hb.size
  clear k
  obtain ⟨w11, hr, hO, hb, -⟩ := hO.next hb (Nat.le_refl _) hb.size (by decide) ⟨#[33, 61, 61]⟩ (by decide) (by decide) v
  rw [hr]
  clear hr
  simp only [Result.andThen]
  rw [Oper.upon_skip]
  go_wp2_with fail
  have hgt : w.heap.size < w11.heap.size := hO.lt
  have hS : HasB _ w11.heap.size signs 9 := HasB.new w11 signs 9
  replace hO := hO.below ((Below.refl _ w11).alloc (Nat.le_refl _) (.cells signs 9))
  replace hb := hb.alloc hb.size (.cells signs 9)
  unfold signs at hO hb hS
  have HO := Lib.hid hO
  have HB := Lib.hid hb
  have HS := Lib.hid hS
  clear hO hb hS
  go_loopw [16] (fun i wr => ∃ k : Nat, k ≤ 10 ∧ i = .int .i64 k ∧ OpMap wr w.heap.size (11 + k) ∧ Below w.heap.size w wr ∧ HasB wr w11.heap.size signs 9) (fun i _ => 10 - (intOf i).toNat)
  case atStart => exact ⟨0, by omega, rfl, HO.out, HB.out, HS.out⟩
  case round =>
    obtain ⟨k, hk, rfl, hO, hb, hS⟩ := hrel
    by_cases hlt : k < 10
    · obtain ⟨s, h1, h2, h3⟩ := signs_at hS k hlt
      have hl := hS.lt
      go_wp2_with (first | (go_at_call 109; go_must (refine (operate_numbers _ _).mono ?_); rintro e w' ⟨v, rfl, kb⟩))
      have hS' := hS.below kb
      replace hO := hO.below kb
      replace hb := below_via kb hb hb.size
      clear kb h3
      obtain ⟨wn, hr, hO, hb, hg⟩ := hO.next hb (Nat.le_refl _) hb.size (by omega) s h1 h2 v
      have hne : w11.heap.size ≠ w.heap.size := by omega
      have hS2 : HasB wn w11.heap.size signs 9 := (hg.block _ hS'.lt (by simp; exact hne)).trans hS'
      rw [hr]
      clear hr
      simp only [Result.andThen]
      rw [Oper.upon_skip]
      go_wp2
      go_roundw
      case rel => exact ⟨k + 1, by omega, by go_num, hO, hb, hS2⟩
      case measure => simp [intOf]; omega
    · have hke : k = 10 := by omega
      subst hke
      go_wp2
      go_ret
      exact ⟨_, rfl, hO, hb⟩
end Go.Proofs.YthdccijielekcaaGreatDoor
