/-
  Contracts of value.Check and of the reference's May and Check: each tells whether a value may be, by one plain function of its five parts. No condition.
-/
import Derived.Test.YtcidelejgpnloaaGreatDoorVal
import Derived.Deep.RegionHeld3
import Derived.Deep.DeepCutAuto
namespace Go.Proofs.YtcidelejgpnloaaGreatDoor
open Go.RowKit

/-- May a value be, that has these parts? -/
def mayP (k : Int) (b : Bool) (n : Nat) (s : ByteArray) (o : Int) : Prop :=
  0 ≤ k ∧ k ≤ 5 ∧ (b = true → k = 2) ∧ (n ≠ 0 → k = 3 ∧ toldN n = n) ∧ (s.toList ≠ [] → k = 4 ∧ s.size % 2 = 0) ∧ (o ≠ 0 → k = 5 ∧ 0 < o)
open Classical in
noncomputable def mayB (k : Int) (b : Bool) (n : Nat) (s : ByteArray) (o : Int) : Bool := decide (mayP k b n s o)
open Classical in
noncomputable def checkE (k : Int) (b : Bool) (n : Nat) (s : ByteArray) (o : Int) : Int := if mayP k b n s o then 0 else 1
theorem checkE_yes {k : Int} {b : Bool} {n : Nat} {s : ByteArray} {o : Int} (h : mayP k b n s o) : Ending.returned (.int .i64 0) = .returned (.int .i64 (checkE k b n s o)) := by unfold checkE; rw [if_pos h]
theorem checkE_no {k : Int} {b : Bool} {n : Nat} {s : ByteArray} {o : Int} (h : ¬ mayP k b n s o) : Ending.returned (.int .i64 1) = .returned (.int .i64 (checkE k b n s o)) := by unfold checkE; rw [if_neg h]
theorem toList_nil_size {s : ByteArray} (h : s.toList = []) : s.size = 0 := by
  have := (toList_nil_iff_emptyBytes s).1 h
  subst this
  rfl

attribute [local go_sem] run_Float64bits
theorem value_Check_low (k : Int) (hk : k = 0 ∨ k = 1) (b : Bool) (n : Nat) (s : ByteArray) (o : Int) (w : World) :
    Calls Tryz.prog 20 #[val k b n s o] w fun e w' => e = .returned (.int .i64 (checkE k b n s o)) ∧ Below w.heap.size w w' := by
  rcases hk with rfl | rfl
  all_goals
    go_enter Tryz.func20, Tryz.ntmps20
    go_wp2
    all_goals go_ret
    all_goals refine ⟨?_, by go_grown⟩
    all_goals first | (refine checkE_yes ?_; simp_all [mayP]; done) | (refine checkE_no ?_; simp_all [mayP]; done)
theorem value_Check_2 (b : Bool) (n : Nat) (s : ByteArray) (o : Int) (w : World) :
    Calls Tryz.prog 20 #[val 2 b n s o] w fun e w' => e = .returned (.int .i64 (checkE 2 b n s o)) ∧ Below w.heap.size w w' := by
  go_enter Tryz.func20, Tryz.ntmps20
  go_wp2
  all_goals go_ret
  all_goals refine ⟨?_, by go_grown⟩
  all_goals first | (refine checkE_yes ?_; simp_all [mayP]; done) | (refine checkE_no ?_; simp_all [mayP]; done)
theorem value_Check_4 (b : Bool) (n : Nat) (s : ByteArray) (o : Int) (w : World) (hs : s.size ≤ maxLen) :
    Calls Tryz.prog 20 #[val 4 b n s o] w fun e w' => e = .returned (.int .i64 (checkE 4 b n s o)) ∧ Below w.heap.size w w' := by
  unfold maxLen at hs
  have h0 : s.size % 2 = 0 ∨ s.size % 2 = 1 := by omega
  rcases h0 with h0 | h0
  · have h1 : (s.size : Int) % 2 = 0 := by omega
    go_enter Tryz.func20, Tryz.ntmps20
    go_wp2
    all_goals go_ret
    all_goals refine ⟨?_, by go_grown⟩
    all_goals first | (refine checkE_yes ?_; simp_all [mayP]; done) | (refine checkE_no ?_; simp_all [mayP]; done)
  · have h1 : (s.size : Int) % 2 = 1 := by omega
    have h2 : s.toList ≠ [] := fun h => by rw [toList_nil_size h] at h0; omega
    have H2 := Lib.hid h2
    clear h2
    go_enter Tryz.func20, Tryz.ntmps20
    go_wp2
    all_goals go_ret
    all_goals refine ⟨?_, by go_grown⟩
    all_goals (refine checkE_no fun h => ?_; have := (h.2.2.2.2.1 H2.out).2; omega)
theorem value_Check_5 (b : Bool) (n : Nat) (s : ByteArray) (o : Int) (w : World) :
    Calls Tryz.prog 20 #[val 5 b n s o] w fun e w' => e = .returned (.int .i64 (checkE 5 b n s o)) ∧ Below w.heap.size w w' := by
  by_cases ho : o < 0
  · go_enter Tryz.func20, Tryz.ntmps20
    go_wp2
    all_goals go_ret
    all_goals refine ⟨?_, by go_grown⟩
    all_goals (refine checkE_no fun h => ?_; have := (h.2.2.2.2.2 (by omega)).2; omega)
  · go_enter Tryz.func20, Tryz.ntmps20
    go_wp2
    all_goals go_ret
    all_goals refine ⟨?_, by go_grown⟩
    all_goals first | (refine checkE_yes ?_; simp_all [mayP]; omega) | (refine checkE_no ?_; simp_all [mayP]; done)
theorem value_Check_out (k : Int) (hk : k < 0 ∨ 5 < k) (b : Bool) (n : Nat) (s : ByteArray) (o : Int) (w : World) :
    Calls Tryz.prog 20 #[val k b n s o] w fun e w' => e = .returned (.int .i64 (checkE k b n s o)) ∧ Below w.heap.size w w' := by
  have hno : ¬ mayP k b n s o := fun h => by have := h.1; have := h.2.1; omega
  have HN := Lib.hid hno
  clear hno
  rcases hk with hk | hk
  all_goals
    go_enter Tryz.func20, Tryz.ntmps20
    go_wp2
    all_goals go_ret
    all_goals exact ⟨checkE_no HN.out, by go_grown⟩
theorem value_Check_3 (b : Bool) (n : Nat) (s : ByteArray) (o : Int) (w : World) :
    Calls Tryz.prog 20 #[val 3 b n s o] w fun e w' => e = .returned (.int .i64 (checkE 3 b n s o)) ∧ Below w.heap.size w w' := by
  have hI := math_IsNaN n
  cases hn : nanB n with
  | false =>
    have ht : toldN n = n := by simp [toldN, hn]
    rw [hn] at hI
    clear hn
    have HT := Lib.hid ht
    clear ht
    go_enter Tryz.func20, Tryz.ntmps20
    go_wp2_with fail
    refine (hI _).mono ?_
    rintro e w' ⟨rfl, rfl⟩
    clear hI
    go_wp2
    all_goals go_ret
    all_goals refine ⟨?_, by go_grown⟩
    all_goals have ht := HT.out
    all_goals first | (refine checkE_yes ?_; simp_all [mayP]; done) | (refine checkE_no ?_; simp_all [mayP]; done)
  | true =>
    have ht : toldN n = qnan := by simp [toldN, hn]
    rw [hn] at hI
    clear hn
    have HT := Lib.hid ht
    clear ht
    by_cases hq : n = qnan
    · have hb : ((n : Int) != 9221120237041090560) = false := by rw [hq]; decide
      have HQ := Lib.hid hq
      clear hq
      go_enter Tryz.func20, Tryz.ntmps20
      go_wp2_with fail
      refine (hI _).mono ?_
      rintro e w' ⟨rfl, rfl⟩
      clear hI
      go_wp2
      all_goals go_ret
      all_goals refine ⟨?_, by go_grown⟩
      all_goals have ht := HT.out.trans HQ.out.symm
      all_goals clear hb
      all_goals first | (refine checkE_yes ?_; simp_all [mayP]; done) | (refine checkE_no ?_; simp_all [mayP]; done)
    · have hb : ((n : Int) != 9221120237041090560) = true := by
        rw [bne_iff_ne]; intro h; apply hq; show n = 9221120237041090560; omega
      have hn0 : n ≠ 0 := by
        intro h
        subst h
        exact absurd HT.out (by decide)
      have HN := Lib.hid hn0
      have HQ := Lib.hid hq
      clear hq hn0
      go_enter Tryz.func20, Tryz.ntmps20
      go_wp2_with fail
      refine (hI _).mono ?_
      rintro e w' ⟨rfl, rfl⟩
      clear hI
      go_wp2
      all_goals go_ret
      all_goals refine ⟨?_, by go_grown⟩
      all_goals (refine checkE_no fun h => ?_; exact HQ.out ((h.2.2.2.1 HN.out).2.symm.trans HT.out))

/-- value.Check, of every value. -/
theorem value_Check (k : Int) (b : Bool) (n : Nat) (s : ByteArray) (o : Int) (w : World) (hs : s.size ≤ maxLen) :
    Calls Tryz.prog 20 #[val k b n s o] w fun e w' => e = .returned (.int .i64 (checkE k b n s o)) ∧ Below w.heap.size w w' := by
  by_cases h : k < 0 ∨ 5 < k
  · exact value_Check_out k h b n s o w
  · have h' : k = 0 ∨ k = 1 ∨ k = 2 ∨ k = 3 ∨ k = 4 ∨ k = 5 := by omega
    rcases h' with rfl | rfl | rfl | rfl | rfl | rfl
    · exact value_Check_low 0 (.inl rfl) b n s o w
    · exact value_Check_low 1 (.inr rfl) b n s o w
    · exact value_Check_2 b n s o w
    · exact value_Check_3 b n s o w
    · exact value_Check_4 b n s o w hs
    · exact value_Check_5 b n s o w
end Go.Proofs.YtcidelejgpnloaaGreatDoor
