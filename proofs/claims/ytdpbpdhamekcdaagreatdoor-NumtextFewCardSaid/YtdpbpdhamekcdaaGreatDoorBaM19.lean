/-
  What numtext.power tells of an exponent's sign and digits. Condition: the digits are digits.
-/
import Derived.Test.YtdpbpdhamekcdaaGreatDoorBaM14
import Derived.Test.YtdpbpdhamekcdaaGreatDoorBaM18
import Derived.Shelf.Strings.SlTrimAscii
import Derived.Deep.LoopGhost
namespace Go.Proofs.YtdpbpdhamekcdaaGreatDoor
open Go.RowKit
namespace Us
open Nv

/-- An exponent's digits, as far as they matter. -/
def pwN (l : List UInt8) : Nat := l.foldl (fun n c => min (10 * n + (c.toNat - 48)) 1073741824) 0
theorem pwN_snoc (l : List UInt8) (c : UInt8) : pwN (l ++ [c]) = min (10 * pwN l + (c.toNat - 48)) 1073741824 := by unfold pwN; rw [List.foldl_append]; rfl
theorem pwN_take {l : List UInt8} {k : Nat} (h : k < l.length) : pwN (l.take (k + 1)) = min (10 * pwN (l.take k) + (l[k].toNat - 48)) 1073741824 := by
  rw [List.take_succ_eq_append_getElem h, pwN_snoc]
theorem pwN_le (l : List UInt8) : pwN l ≤ 1073741824 := by
  unfold pwN
  suffices h : ∀ a, a ≤ 1073741824 → l.foldl (fun n (c : UInt8) => min (10 * n + (c.toNat - 48)) 1073741824) a ≤ 1073741824 from h 0 (by decide)
  induction l with
  | nil => exact fun a h => h
  | cons c l ih => exact fun a h => ih _ (Nat.min_le_right _ _)
theorem strings_TrimLeft_pm (s : ByteArray) (w : World) : Calls Tryz.prog 103 #[.string s, .string ⟨#[43, 45]⟩] w fun e w' => e = .returned (.string ⟨(Lib.trimLeftS s.data.toList [43, 45]).toArray⟩) ∧ Below w.heap.size w w' :=
  Any.strings_TrimLeft_laid lays161 (by kernel_rfl) s ⟨#[43, 45]⟩ w (by decide) (ascii (by decide))
theorem S_lst (l : List UInt8) : (S l).data.toList = l := by simp [S]
/-- An exponent's sign, then its digits. -/
def sgB : Option Bool → List UInt8
  | none => []
  | some false => [43]
  | some true => [45]
theorem trim_digits {X : List UInt8} (hX : ∀ b ∈ X, isD b = true) (g : Option Bool) : Lib.trimLeftS (sgB g ++ X) [43, 45] = X := by
  have h0 : X.dropWhile (([43, 45] : List UInt8).contains ·) = X := by
    cases X with
    | nil => rfl
    | cons c r =>
      have h := hX c (by simp)
      rw [List.dropWhile_cons_of_neg]
      simp [isD] at h
      simp
      constructor
      · rintro rfl
        simp at h
      · rintro rfl
        simp at h
  unfold Lib.trimLeftS
  rcases g with _ | _ | _
  · exact h0
  · exact h0
  · exact h0
theorem prefix_minus {X : List UInt8} (hX : ∀ b ∈ X, isD b = true) (g : Option Bool) : Lib.hasPrefix (sgB g ++ X) (⟨#[45]⟩ : ByteArray).data.toList = decide (g = some true) := by
  rcases g with _ | _ | _
  · cases X with
    | nil => rfl
    | cons c r =>
      have h := hX c (by simp)
      have hc : ¬ 45 = c := by
        rintro rfl
        simp [isD] at h
      show ((45 : UInt8) == c && ([] : List UInt8).isPrefixOf r) = false
      rw [beq_eq_false_iff_ne.2 hc]
      rfl
  · rfl
  · cases X <;> rfl
set_option maxRecDepth 100000 in
theorem nt_power {X : List UInt8} (hX : ∀ b ∈ X, isD b = true) (g : Option Bool) (w : World) :
    Calls Tryz.prog 109 #[.string (S (sgB g ++ X))] w fun e w' => e = .returned (.int .i64 ((if g = some true then -1 else 1) * (pwN X : Int))) ∧ Below w.heap.size w w' := by
  have hT := strings_TrimLeft_pm (S (sgB g ++ X)) w
  rw [S_lst, trim_digits hX] at hT
  have hP : ∀ W, Calls Tryz.prog 63 #[.string (S (sgB g ++ X)), .string ⟨#[45]⟩] W fun e w' => e = .returned (.bool (decide (g = some true))) ∧ w' = W := fun W => by
    have h := strings_HasPrefix (S (sgB g ++ X)) ⟨#[45]⟩ W
    rw [S_lst, prefix_minus hX] at h
    exact h
  replace hT := Far.mk hT
  replace hP := Far.mk hP
  generalize S (sgB g ++ X) = s at *
  obtain ⟨x, hx⟩ : ∃ x, S X = x := ⟨_, rfl⟩
  have hsz : x.size = X.length := by rw [← hx, S_size]
  have hby : ∀ k (h : k < x.size), (x[k]).toNat = (X[k]'(by omega)).toNat := fun k h => by subst hx; rfl
  have hT' : Far (Calls Tryz.prog 103 #[.string s, .string ⟨#[43, 45]⟩] w fun e w' => e = .returned (.string x) ∧ Below w.heap.size w w') := ⟨by rw [← hx]; exact hT.out⟩
  replace hby := Far.mk hby
  clear hT hx
  obtain ⟨q, hq⟩ : ∃ q, pwN X = q := ⟨_, rfl⟩
  rw [hq]
  obtain ⟨r, hr⟩ : ∃ r, (if g = some true then -1 else 1) * (q : Int) = r := ⟨_, rfl⟩
  rw [hr]
  replace hq := Far.mk hq
  replace hr := Far.mk hr
  go_enter Tryz.func109, Tryz.ntmps109
  go_wp2_with fail
  with_reducible refine hT'.out.mono ?_
  rintro e w1 ⟨rfl, hb1⟩
  go_wp2_with fail
  go_loopg [3] X.length (fun M v wr => ∃ k : Nat, k + M = X.length ∧ v = .int .i64 (pwN (X.take k) : Nat) ∧ wr = w1.iter x k)
  case atStart => exact ⟨0, Nat.zero_add _, rfl, rfl⟩
  case round =>
    obtain ⟨k, hk, rfl, hw⟩ := hrel
    subst hw
    by_cases hM : 0 < gk
    · have hkx : k < x.size := by omega
      have hd := hX (X[k]'(by omega)) (List.getElem_mem _)
      have hc := hby.out k hkx
      obtain ⟨b, hb⟩ : ∃ b, (X[k]'(by omega)).toNat = b := ⟨_, rfl⟩
      have hb2 : 48 ≤ b ∧ b ≤ 57 := by
        rw [← hb]
        simpa [isD] using hd
      rw [hb] at hc
      have hpw := pwN_take (l := X) (k := k) (by omega)
      rw [hb] at hpw
      have hpl := pwN_le (X.take k)
      have hnx := fun ty => run_next_ascii (P := Tryz.prog) w1 x k ty hkx (by omega)
      rw [hc] at hnx
      obtain ⟨hb3, hb4⟩ := hb2
      replace hpw := Far.mk hpw
      clear hd hb hT' hc
      generalize pwN (X.take k) = q1 at *
      go_wp2_with fail
      go_roundg (gk - 1)
      case measure => omega
      case rel =>
        have e : (min (10 * (q1 : Int) + ((b : Int) - 48)) 1073741824) = ((pwN (X.take (k + 1)) : Nat) : Int) := by
          rw [hpw.out]
          omega
        first | exact ⟨k + 1, by omega, by rw [e], rfl⟩ | ((repeat apply Exists.intro); exact ⟨⟨k + 1, by omega, by rw [e], rfl⟩, rfl⟩)
    · have hkx : ¬ k < x.size := by omega
      have hke : k = X.length := by omega
      have hnx := fun ty => run_next_end (P := Tryz.prog) w1 x k ty hkx
      have htk : X.take k = X := by rw [hke, List.take_length]
      rw [htk, hq.out]
      have hpl := pwN_le X
      rw [hq.out] at hpl
      clear hby hT' hX hk hke htk
      have hfin : Below w.heap.size w (w1.iter x k) := hb1.trans (((Below.refl _ _).alloc (Nat.le_refl _) _).mono hb1.size)
      replace hfin := Far.mk hfin
      rcases (show g = some true ∨ g ≠ some true by by_cases h : g = some true <;> simp [h]) with hg | hg
      · have hr2 := hr.out
        rw [if_pos hg] at hr2
        rw [decide_eq_true hg] at hP
        replace hr2 := Far.mk hr2
        clear hg hr hq
        go_wp2_with fail
        with_reducible refine (hP.out _).mono ?_
        rintro e w' ⟨rfl, hw⟩
        replace hw := hw.symm
        subst hw
        go_wp2_with fail
        go_ret
        exact ⟨congrArg (fun z => Ending.returned (.int .i64 z)) (by rw [← hr2.out]; omega), hfin.out⟩
      · have hr2 := hr.out
        rw [if_neg hg] at hr2
        rw [decide_eq_false hg] at hP
        replace hr2 := Far.mk hr2
        clear hg hr hq
        go_wp2_with fail
        with_reducible refine (hP.out _).mono ?_
        rintro e w' ⟨rfl, hw⟩
        replace hw := hw.symm
        subst hw
        go_wp2_with fail
        go_ret
        exact ⟨congrArg (fun z => Ending.returned (.int .i64 z)) (by rw [← hr2.out]; omega), hfin.out⟩
end Us
end Go.Proofs.YtdpbpdhamekcdaaGreatDoor
