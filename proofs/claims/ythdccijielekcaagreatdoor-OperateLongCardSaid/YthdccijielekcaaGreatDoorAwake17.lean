/-
  The statements' own question (quilllaw17.awake): one and two are added on a machine of its own. It answers true. No condition.
-/
import Derived.Test.YthdccijielekcaaGreatDoorOpEq
namespace Go.Proofs.YthdccijielekcaaGreatDoor
open Go.RowKit

/-- One, two and three, as floats' words. -/
def n1 : Nat := 4607182418800017408
def n2 : Nat := 4611686018427387904
def n3 : Nat := 4613937818241073152
theorem told1 : toldN n1 = n1 := by kernel_rfl
theorem told2 : toldN n2 = n2 := by kernel_rfl
theorem told3 : toldN n3 = n3 := by kernel_rfl
theorem ref_n1 (w : World) : Calls Tryz.prog 52 #[.float .f64 4607182418800017408] w fun e w' => e = .returned (val 3 false n1 ⟨#[]⟩ 0) ∧ Below w.heap.size w w' := by
  have h := ref_Number n1 w
  rw [told1] at h
  exact h
theorem ref_n2 (w : World) : Calls Tryz.prog 52 #[.float .f64 4611686018427387904] w fun e w' => e = .returned (val 3 false n2 ⟨#[]⟩ 0) ∧ Below w.heap.size w w' := by
  have h := ref_Number n2 w
  rw [told2] at h
  exact h
theorem ref_n3 (w : World) : Calls Tryz.prog 52 #[.float .f64 4613937818241073152] w fun e w' => e = .returned (val 3 false n3 ⟨#[]⟩ 0) ∧ Below w.heap.size w w' := by
  have h := ref_Number n3 w
  rw [told3] at h
  exact h
theorem add_n (t : TypeId) (w : World) : (binOp .add t (.float .f64 n1) (.float .f64 n2)).run Tryz.prog w = .ok (.float .f64 n3) w := by kernel_rfl
theorem eq_n3 (w : World) : (binOp .eql 33 (doneV 0 3 false n3 ⟨#[]⟩ 0 ⟨#[]⟩) (doneV 0 3 false n3 ⟨#[]⟩ 0 ⟨#[]⟩)).run Tryz.prog w = .ok (.bool true) w := by kernel_rfl

theorem awake17 (w : World) : Calls Tryz.prog 12 #[] w fun e w' => e = .returned (.bool true) ∧ Below w.heap.size w w' := by
  go_enter Tryz.func12, Tryz.ntmps12
  go_wp2_with fail
  refine (machine_New 10 10 10 0 w (by decide) (by decide) (by decide) (by decide) (by decide) (by decide) (by decide)).mono ?_
  rintro e w1 ⟨m, h, v, rfl, hM, hH, hown, hlh, hlm, hb⟩
  clear hH hown
  go_wp2_with fail
  refine (ref_n1 _).mono ?_
  rintro e w2 ⟨rfl, kb⟩
  replace hM := HasB.below hM kb
  replace hb := below_via kb hb hb.size
  clear kb
  go_wp2_with fail
  refine (ref_n2 _).mono ?_
  rintro e w3 ⟨rfl, kb⟩
  replace hM := HasB.below hM kb
  replace hb := below_via kb hb hb.size
  clear kb
  go_wp2_with fail
  refine (operate_Binary (over := false) 3 false n1 ⟨#[]⟩ 0 3 false n2 ⟨#[]⟩ 0 0 3 false n3 ⟨#[]⟩ 0 (fun W hW => (operate_add_nums n1 n2 n3 told1 told2 add_n told3 hW).mono fun _ _ h => ⟨h.1, HasB.below hW h.2, But.of h.2⟩) hM).mono ?_
  rintro e w4 ⟨rfl, -, kb⟩
  replace hb : Below w.heap.size w w4 := kb.below hb (by omega) hb.size
  clear kb hM
  go_wp2_with fail
  refine (ref_n3 _).mono ?_
  rintro e w5 ⟨rfl, kb⟩
  replace hb := below_via kb hb hb.size
  clear kb
  have he := eq_n3
  go_wp2_with fail
  go_ret
  exact ⟨rfl, hb⟩
end Go.Proofs.YthdccijielekcaaGreatDoor
