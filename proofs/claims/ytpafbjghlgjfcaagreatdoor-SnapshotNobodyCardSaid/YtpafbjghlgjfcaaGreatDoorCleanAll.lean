/-
  Contract of quilllaw14.CleanAll: of any list of values it makes a list as long, and turns nothing that was there. Condition: the list is one that Go can hold.
-/
import Derived.Test.YtpafbjghlgjfcaaGreatDoorClean
import Derived.Test.YtpafbjghlgjfcaaGreatDoorPut
import Derived.Deep.DeepMust
import Derived.Deep.AppendLies
namespace Go.Proofs.YtpafbjghlgjfcaaGreatDoor
open Go.RowKit

theorem info_val : (Tryz.prog.info? 56).map (fun i => (i.zero, i.size, i.bytes)) = some (some (val 0 false 0 ⟨#[]⟩ 0), 5, 48) := by kernel_rfl

/-- The i-th value of a list of values that lies from (b, off) on. -/
def ValAt (w : World) (b off i : Nat) : Prop :=
  ∃ k bb n s o, s.size ≤ maxLen ∧ w.cell? ⟨b, off + i * 5, none⟩ = some (.int .i64 k) ∧ w.cell? ⟨b, off + i * 5 + 1, none⟩ = some (.bool bb) ∧ w.cell? ⟨b, off + i * 5 + 2, none⟩ = some (.float .f64 n) ∧
    w.cell? ⟨b, off + i * 5 + 3, none⟩ = some (.string s) ∧ w.cell? ⟨b, off + i * 5 + 4, none⟩ = some (.int .i64 o)
/-- Some list of so many values came back. -/
def SomeList (m : Nat) (w : World) (e : Ending) (w' : World) : Prop := ∃ v xs, e = .returned v ∧ w'.ownsRow w.heap.size 56 5 v m xs ∧ Below w.heap.size w w'

set_option maxRecDepth 100000 in
set_option maxHeartbeats 1000000 in
theorem law14_CleanAll (b off len cap : Nat) (w : World) (hb : b < w.heap.size) (hlen : len * 48 ≤ 140737488351232) (hv : ∀ i, i < len → ValAt w b off i) :
    Calls Tryz.prog 5 #[.slice (some ⟨b, off, none⟩) len cap] w (SomeList len w) := by
  obtain ⟨i0, hi, hz0, hz1, hz2⟩ := info_parts info_val
  have HV := Lib.hid hv
  clear hv
  go_enter Tryz.func5, Tryz.ntmps5
  go_wp2_with fail
  go_loopw [3, 4] (fun l i wr => ∃ (k : Nat) (xs : List Value), k ≤ len ∧ i = .int .i64 k ∧ wr.ownsRow w.heap.size 56 5 l k xs ∧ Below w.heap.size w wr)
    (fun _ i _ => len - (intOf i).toNat)
  case atStart =>
    exact ⟨0, [], Nat.zero_le _, rfl, World.ownsRow_made w #[] 0 (Nat.le_refl _) (Nat.zero_le _) rfl, (Below.refl _ w).alloc (Nat.le_refl _) _⟩
  case round =>
    obtain ⟨k, xs, hk, rfl, hown, hb2⟩ := hrel
    obtain ⟨a0, c0, rfl⟩ := own_shape hown
    have hbs := hb2.size
    by_cases hlt : k < len
    · obtain ⟨kk, bb, nn, ss, oo, hss, d0, d1, d2, d3, d4⟩ := HV.out k hlt
      have e0 := (hb2.cell (p := ⟨b, off + k * 5, none⟩) hb).trans d0
      have e1 := (hb2.cell (p := ⟨b, off + k * 5 + 1, none⟩) hb).trans d1
      have e2 := (hb2.cell (p := ⟨b, off + k * 5 + 2, none⟩) hb).trans d2
      have e3 := (hb2.cell (p := ⟨b, off + k * 5 + 3, none⟩) hb).trans d3
      have e4 := (hb2.cell (p := ⟨b, off + k * 5 + 4, none⟩) hb).trans d4
      clear d0 d1 d2 d3 d4
      have HO := Lib.hid hown
      have HB := Lib.hid hb2
      clear hown hb2
      go_wp2_with (first
        | (go_at_call 15; refine (law14_Clean kk bb nn ss oo wr hss).mono ?_; rintro e w1 ⟨k1, b1, n1, s1, o1, rfl, hs1, kb⟩)
        | (at_builtin; go_must (refine wpList_append_own _ rfl _ _ 22 rfl w.heap.size 56 i0 (val 0 false 0 ⟨#[]⟩ 0) 5 48 Tryz.underlying22 hi hz0 hz1 hz2 rfl (by decide) _ k xs rfl ((ownsRow_keep HO.out kb).alloc _) ⟨w1.heap.size, 0, none⟩ 1 1 [.int .i64 k1, .bool b1, .float .f64 n1, .string s1, .int .i64 o1] rfl rfl (World.news_of_block (cs := #[.int .i64 k1, .bool b1, .float .f64 n1, .string s1, .int .i64 o1]) (t := 56) (fr := (0, 0)) (heap_alloc_new w1 _)) (by simp [Value.oneCell']) (by unfold maxLen; omega) (by omega) (by have := kb.size; simp; omega) ?_)))
      intro v1 w2 hown1 hg1 _
      have hs3 := kb.size
      have hb3 := below_grown (HB.out.trans (kb.mono hbs)) (by omega) (ownsRow_keep HO.out kb) (Nat.le_refl _) hg1
      have HO1 := Lib.hid hown1
      have HB1 := Lib.hid hb3
      clear hown1 hb3 hg1 kb
      go_wp2
      go_roundw
      case rel => exact ⟨k + 1, _, by omega, by go_num, HO1.out, HB1.out⟩
      case measure => simp [intOf]; omega
    · have hke : k = len := by omega
      subst hke
      have HO := Lib.hid hown
      have HB := Lib.hid hb2
      clear hown hb2
      go_wp2
      go_ret
      exact ⟨_, xs, rfl, HO.out, HB.out⟩
end Go.Proofs.YtpafbjghlgjfcaaGreatDoor
