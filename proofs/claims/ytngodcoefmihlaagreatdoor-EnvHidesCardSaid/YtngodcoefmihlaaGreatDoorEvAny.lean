/-
  env.Create of a name, whether it is there or not. Conditions: the machine's cells are as said; there is room.
-/
import Derived.Test.YtngodcoefmihlaaGreatDoorEvPlan
import Derived.Test.YtngodcoefmihlaaGreatDoorEvLook
namespace Go.Proofs.YtngodcoefmihlaaGreatDoor
open Go.RowKit
variable {m h B : Nat} {cM used : Int} {v : Value} {kn : Value × Value} {E : List EnvR} {W W' w : World}

theorem set_self {E : List EnvR} {n : Nat} {r : EnvR} (hr : E[n]? = some r) : E.set n r = E := by
  obtain ⟨hn, e⟩ := List.getElem?_eq_some_iff.1 hr
  rw [← e]
  exact List.set_getElem_self hn
theorem env_Create (n : Nat) (r : EnvR) (nm : ByteArray) (hr : E[n]? = some r) (hl : r.l.length ≤ 1048575) (B0 : Nat) (a : World) (hB : Below B0 a w) (hBm : B0 ≤ m) (hBh : B0 ≤ h) (hmh : h ≠ m) (hBB : B0 ≤ B) (hu : 0 ≤ used) (hR : 1 ≤ cM - used) (hc : cM ≤ 16777216) (H : EvM m h B cM v kn E used w) :
    Calls Tryz.prog 37 #[.pointer (some ⟨m, 0, none⟩), .int .i64 n, .string nm, .bool true] w fun e w' => ∃ nv2 u2, e = .returned (.agg done7) ∧ EvM m h B cM v kn (E.set n ⟨r.outer, nv2, badd nm r.l⟩) u2 w' ∧ (used ≤ u2 ∧ u2 ≤ used + 1) ∧ Below B0 a w' ∧ Kept w w' := by
  cases hb : bhas nm r.l with
  | true =>
    refine (env_Create_has n r nm hr (by omega) hb B0 a hB hBm H).mono ?_
    rintro e w' ⟨rfl, h1, h2, h3⟩
    refine ⟨r.nv, used, rfl, ?_, ⟨by omega, by omega⟩, h2, h3⟩
    have e1 : badd nm r.l = r.l := by unfold badd; rw [if_pos hb]
    rw [e1]
    have e2 : E.set n ⟨r.outer, r.nv, r.l⟩ = E := set_self hr
    rw [e2]
    exact h1
  | false =>
    refine (env_Create_new n r nm hr hl hb B0 a hB hBm hBh hmh hBB hu hR hc H).mono ?_
    rintro e w' ⟨nv2, rfl, h1, h2, h3⟩
    refine ⟨nv2, used + 1, rfl, ?_, ⟨by omega, by omega⟩, h2, h3⟩
    have e1 : badd nm r.l = r.l ++ [⟨nm, 0, 0⟩] := by unfold badd; rw [if_neg (by simp [hb])]
    rw [e1]
    exact h1
end Go.Proofs.YtngodcoefmihlaaGreatDoor
