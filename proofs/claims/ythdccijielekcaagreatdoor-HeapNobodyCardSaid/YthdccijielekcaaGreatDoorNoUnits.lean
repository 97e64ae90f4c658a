/-
  The units of two small texts, and whether these are an array's indexes. No condition.
-/
import Derived.Test.YthdccijielekcaaGreatDoorNoMap
import Derived.Test.YthdccijielekcaaGreatDoorKit3
import Derived.Test.YthdccijielekcaaGreatDoorVal2
import Derived.Deep.DeepMust
import Derived.Deep.AppendLies
import Derived.Lib.Hide
import Derived.Outline
import Derived.Deep.QuietTactic
import Derived.BigQuiet
namespace Go.Proofs.YthdccijielekcaaGreatDoor
open Go.RowKit

theorem unit_len0 (w : World) : Calls Tryz.prog 170 #[.string lenW, .int .i64 0] w fun e w' => e = .returned (.int .u16 108) ∧ ∃ q, w' = w.drewN q := by
  go_enter Tryz.func170, Tryz.ntmps170
  go_wp2_with fail
  go_quiet (fail)
  go_wp2
  go_ret
  exact ⟨rfl, _, rfl⟩
theorem unit_len1 (w : World) : Calls Tryz.prog 170 #[.string lenW, .int .i64 1] w fun e w' => e = .returned (.int .u16 101) ∧ ∃ q, w' = w.drewN q := by
  go_enter Tryz.func170, Tryz.ntmps170
  go_wp2_with fail
  go_quiet (fail)
  go_wp2
  go_ret
  exact ⟨rfl, _, rfl⟩
theorem unit_len2 (w : World) : Calls Tryz.prog 170 #[.string lenW, .int .i64 2] w fun e w' => e = .returned (.int .u16 110) ∧ ∃ q, w' = w.drewN q := by
  go_enter Tryz.func170, Tryz.ntmps170
  go_wp2_with fail
  go_quiet (fail)
  go_wp2
  go_ret
  exact ⟨rfl, _, rfl⟩
theorem unit_len3 (w : World) : Calls Tryz.prog 170 #[.string lenW, .int .i64 3] w fun e w' => e = .returned (.int .u16 103) ∧ ∃ q, w' = w.drewN q := by
  go_enter Tryz.func170, Tryz.ntmps170
  go_wp2_with fail
  go_quiet (fail)
  go_wp2
  go_ret
  exact ⟨rfl, _, rfl⟩
theorem unit_len4 (w : World) : Calls Tryz.prog 170 #[.string lenW, .int .i64 4] w fun e w' => e = .returned (.int .u16 116) ∧ ∃ q, w' = w.drewN q := by
  go_enter Tryz.func170, Tryz.ntmps170
  go_wp2_with fail
  go_quiet (fail)
  go_wp2
  go_ret
  exact ⟨rfl, _, rfl⟩
theorem unit_len5 (w : World) : Calls Tryz.prog 170 #[.string lenW, .int .i64 5] w fun e w' => e = .returned (.int .u16 104) ∧ ∃ q, w' = w.drewN q := by
  go_enter Tryz.func170, Tryz.ntmps170
  go_wp2_with fail
  go_quiet (fail)
  go_wp2
  go_ret
  exact ⟨rfl, _, rfl⟩
theorem unit_four0 (w : World) : Calls Tryz.prog 170 #[.string fourW, .int .i64 0] w fun e w' => e = .returned (.int .u16 52) ∧ ∃ q, w' = w.drewN q := by
  go_enter Tryz.func170, Tryz.ntmps170
  go_wp2_with fail
  go_quiet (fail)
  go_wp2
  go_ret
  exact ⟨rfl, _, rfl⟩
theorem info_u16 : (Tryz.prog.info? 184).map (fun i => (i.zero, i.size, i.bytes)) = some (some (.int .u16 0), 1, 2) := by kernel_rfl

set_option maxRecDepth 100000 in
set_option maxHeartbeats 800000 in
theorem ustr_Units (s : ByteArray) (us : List Int) (w : World) (hs : s.size / 2 = us.length) (hn : us.length ≤ 1000) (hm : s.size ≤ 10000)
    (hu : ∀ (k : Nat) (h : k < us.length) W, Calls Tryz.prog 170 #[.string s, .int .i64 k] W fun e w' => e = .returned (.int .u16 us[k]) ∧ ∃ q, w' = W.drewN q) :
    Calls Tryz.prog 128 #[.string s] w fun e w' => ∃ v, e = .returned v ∧ w'.ownsRow w.heap.size 184 1 v us.length (us.map (Value.int .u16)) ∧ Below w.heap.size w w' := by
  obtain ⟨i0, hi, hz0, hz1, hz2⟩ := info_parts info_u16
  have HLen := fun w => ustr_Len s w (by unfold maxLen; omega)
  rw [hs] at HLen
  have HU := Lib.hid hu
  clear hu hs hm
  go_enter Tryz.func128, Tryz.ntmps128
  go_wp2_with (go_at_call 66; refine (HLen _).mono ?_; rintro e w' ⟨rfl, rfl⟩)
  go_loopw [3, 7] (fun v i wr => ∃ k : Nat, k ≤ us.length ∧ i = .int .i64 k ∧ wr.ownsRow w.heap.size 184 1 v k ((us.map (Value.int .u16)).take k) ∧ Below w.heap.size w wr)
    (fun _ i _ => us.length - (intOf i).toNat)
  case atStart => exact ⟨0, Nat.zero_le _, rfl, World.ownsRow_nil _ _ _ _, Below.refl _ _⟩
  case round =>
    obtain ⟨k, hk, rfl, hown, hb⟩ := hrel
    have hbs := hb.size
    by_cases hlt : k < us.length
    · have hw : (us.map (Value.int .u16)).take (k + 1) = (us.map (Value.int .u16)).take k ++ [.int .u16 us[k]] := by
        rw [List.take_succ_eq_append_getElem (by simpa using hlt), List.getElem_map]
      have HW := Lib.hid hw
      clear hw
      go_wp2_with (first
        | (go_at_call 170; go_must (refine (HU.out k hlt _).mono ?_); rintro e w' ⟨rfl, q, rfl⟩; replace hown : (wr.drewN q).ownsRow w.heap.size 184 1 _ k _ := hown; replace hb : Below w.heap.size w (wr.drewN q) := below_drawn hb; have hbs := hb.size)
        | (at_builtin; go_must (refine wpList_append_own _ rfl _ _ 182 rfl w.heap.size 184 i0 (.int .u16 0) 1 2 Tryz.underlying182 hi hz0 hz1 hz2 rfl (by decide) _ k _ rfl (hown.alloc _) ⟨_, 0, none⟩ 1 1 [.int .u16 us[k]] rfl rfl (World.news_of_block (cs := #[.int .u16 us[k]]) (t := 184) (fr := (0, 0)) (heap_alloc_new _ _)) (by simp [Value.oneCell']) (by unfold maxLen; omega) (by omega) (by simp; omega) ?_)))
      intro v' w2 hown2 hg2 _
      rw [← HW.out] at hown2
      have hb2 := below_grown hb (by omega) hown (Nat.le_refl _) hg2
      clear hown hg2 hb
      go_wp2
      go_roundw
      case rel => exact ⟨k + 1, by omega, by go_num, hown2, hb2⟩
      case measure => simp [intOf]; omega
    · have hke : k = us.length := by omega
      subst hke
      rw [List.take_of_length_le (by simp)] at hown
      go_wp2
      go_ret
      exact ⟨_, rfl, hown, hb⟩

/-- Units that lie in a row. -/
def UnitsAt (w : World) (us : List Int) (e : Ending) (w' : World) : Prop := ∃ g c, e = .returned (.slice (some ⟨g, 0, none⟩) us.length c) ∧ (∀ k u, us[k]? = some u → w'.cell? ⟨g, k, none⟩ = some (.int .u16 u)) ∧ Below w.heap.size w w'
theorem units_at {w w' : World} {us : List Int} {e : Ending} (hn : 0 < us.length) (h : ∃ v, e = .returned v ∧ w'.ownsRow w.heap.size 184 1 v us.length (us.map (Value.int .u16)) ∧ Below w.heap.size w w') : UnitsAt w us e w' := by
  obtain ⟨v, rfl, hown, hb⟩ := h
  have hown0 := hown
  rcases hown.2 with ⟨rfl, h0⟩ | ⟨g, cap, cur, rfl, hg, hh, hnc, hcp, hcs, htake⟩
  · omega
  · refine ⟨g, cap, rfl, fun k u hk => ?_, hb⟩
    have hlt : k < us.length := (List.getElem?_eq_some_iff.1 hk).1
    have := hown0.cellAt k (by simpa using hlt)
    simpa [hk] using this
theorem Units_len (w : World) : Calls Tryz.prog 128 #[.string lenW] w (UnitsAt w [108, 101, 110, 103, 116, 104]) :=
  (ustr_Units lenW [108, 101, 110, 103, 116, 104] w (by decide) (by decide) (by decide) (fun k h W => by
    match k, h with
    | 0, _ => exact unit_len0 W
    | 1, _ => exact unit_len1 W
    | 2, _ => exact unit_len2 W
    | 3, _ => exact unit_len3 W
    | 4, _ => exact unit_len4 W
    | 5, _ => exact unit_len5 W)).mono fun _ _ h => units_at (by decide) h
theorem Units_four (w : World) : Calls Tryz.prog 128 #[.string fourW] w (UnitsAt w [52]) :=
  (ustr_Units fourW [52] w (by decide) (by decide) (by decide) (fun k h W => by
    match k, h with
    | 0, _ => exact unit_four0 W)).mono fun _ _ h => units_at (by decide) h
end Go.Proofs.YthdccijielekcaaGreatDoor
