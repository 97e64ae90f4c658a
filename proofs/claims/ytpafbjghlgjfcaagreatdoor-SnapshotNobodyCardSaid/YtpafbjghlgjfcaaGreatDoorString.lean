/-
  Contract of strings.Builder's String, of the teller's builder. Condition: something is written.
-/
import Derived.Test.YtpafbjghlgjfcaaGreatDoorObject
namespace Go.Proofs.YtpafbjghlgjfcaaGreatDoor
open Go.RowKit

theorem cells_byte : Tryz.prog.cellsOf 5 = 1 := by kernel_rfl

set_option maxRecDepth 200000 in
theorem Builder_String (T m : Nat) (ba buf : Value) (nm : Nat) (c0 : Int) (wl : Value) (at_ : Int) (B : Nat) (l : List UInt8) (w : World) (H : TellAt w T m ba buf nm c0 wl at_) (hown : w.ownsRow B 5 1 buf l.length (bv l)) (h0 : l ≠ []) :
    Calls Tryz.prog 14 #[.pointer (some ⟨T, 1, none⟩)] w fun e w' => e = .returned (.string ⟨l.toArray⟩) ∧ Below B w w' := by
  have hl0 : l.length ≠ 0 := by simpa using h0
  obtain ⟨g, cap, cur, rfl, hbg, hg, hnc, hcm, hcs, htake⟩ : ∃ g cap cur, buf = .slice (some ⟨g, 0, none⟩) l.length cap ∧ B ≤ g ∧ w.heap[g]? = some (.cells cur 5 (0, 0)) ∧ l.length ≤ cap ∧ cap ≤ maxLen ∧ cur.size = cap * 1 ∧ cur.toList.take (l.length * 1) = bv l := by
    rcases hown.2 with ⟨_, hz⟩ | ⟨g, cap, cur, hv, r⟩
    · exact absurd hz hl0
    · exact ⟨g, cap, cur, hv, r⟩
  have c1 : w.drew.cell? ⟨T, 2, none⟩ = some (.slice (some ⟨g, 0, none⟩) l.length cap) := HasB.cell (HasB.drew H) 2
  have hSD : (Builtin.unsafeSliceData_ #[44] 103 #[.slice (some ⟨g, 0, none⟩) l.length cap]).run Tryz.prog w.drew = .ok (.pointer (some ⟨g, 0, none⟩)) w.drew :=
    Lib.run_unsafeSliceData_row _ _ _ _ _ _ (by omega)
  have hUS : (Builtin.unsafeString_ #[103, 3] 9 #[.pointer (some ⟨g, 0, none⟩), .int .i64 l.length]).run Tryz.prog w.drew = .ok (.string ⟨l.toArray⟩) (w.drew.freeze ⟨g, 0, none⟩ l.length) := by
    refine Lib.run_unsafeString_row w.drew 103 3 9 5 Tryz.underlying103 cells_byte g cur.size (by have hg' : w.drew.heap[g]? = some (.cells cur 5 (0, 0)) := hg; simp [World.shape?, hg']) l h0 (by omega) (by unfold maxLen at hcm; omega) ?_
    intro j x hx
    have := hown.cells (g := g) rfl j (.int .u8 x.toNat) (by simp [bv, hx])
    exact this
  go_enter Tryz.func14, Tryz.ntmps14
  go_wp2
  go_region_law (fail)
  all_goals (go_wp2; go_ret; exact ⟨rfl, Lib.below_freeze (Below.drew (Below.refl B w)) (p := ⟨g, 0, none⟩) hbg _⟩)
end Go.Proofs.YtpafbjghlgjfcaaGreatDoor
