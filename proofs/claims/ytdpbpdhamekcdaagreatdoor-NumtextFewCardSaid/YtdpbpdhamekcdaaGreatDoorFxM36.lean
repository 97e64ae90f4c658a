/-
  quilllaw03.NumtextFew answers true. Conditions: the laid variables of strconv have their values.
-/
import Derived.Test.YtdpbpdhamekcdaaGreatDoorBaM22
import Derived.Test.YtdpbpdhamekcdaaGreatDoorFxM35
namespace Go.Proofs.YtdpbpdhamekcdaaGreatDoor
open Go.RowKit
namespace Us
open Nv

theorem order_ne {R r : Nat} (h1 : R ≤ infR) (h2 : r < infR) (h : R ≠ r) : (FloatKind.f64.format.order R r == some .eq) = false := by
  rcases Nat.lt_or_eq_of_le h1 with g | g
  · rw [show FloatKind.f64.format.order R r = _ from order_rung g h2]
    rcases Nat.lt_or_gt_of_ne h with k | k
    · rw [Nat.compare_eq_lt.2 k]; rfl
    · rw [Nat.compare_eq_gt.2 k]; rfl
  · subst g
    exact order_inf h2
set_option maxRecDepth 100000 in
theorem few_no {f : Nat} {w : World} (hR : Rdt w) (hT : Tabs w)
    (hS : Calls Tryz.prog 16 #[.float .f64 f] w fun x w' => x = .returned (.tuple #[.string (S []), .int .i64 0, .int .i64 1]) ∧ Below w.heap.size w w') :
    Calls Tryz.prog 10 #[.float .f64 f] w fun e w' => e = .returned (.bool true) ∧ Below w.heap.size w w' := by
  have h1 := Far.mk hS
  have hA := Far.mk (fun W (hb : Below w.heap.size w W) => nt_awake (hR.keep hb).rds (hT.keep hb))
  have he : (S []).toList.isEmpty = true := by rw [Lib.toList_data]; rfl
  clear hR hT hS
  generalize S [] = s0 at *
  go_enter Tryz.func10, Tryz.ntmps10
  go_wp2_with fail
  with_reducible refine h1.out.mono ?_
  rintro e w1 ⟨rfl, hb1⟩
  go_wp2_with fail
  with_reducible refine (hA.out _ hb1).mono ?_
  rintro e w2 ⟨rfl, hb'⟩
  have hb2 := hb1.trans (hb'.mono hb1.size)
  clear hb' hb1
  go_wp2_with fail
  go_ret
  exact ⟨rfl, hb2⟩
set_option maxRecDepth 100000 in
set_option maxHeartbeats 2000000 in
theorem few_yes {r c : Nat} {j : Int} {w : World} (h1 : 1 ≤ r) (h2 : r < infR) (hs : Short r c j) (hR : Rdt w) (hT : Tabs w) (hTz : Tz w)
    (hS : Calls Tryz.prog 16 #[.float .f64 r] w fun x w' => x = .returned (.tuple #[.string (S (wide (digs 10 c))), .int .i64 (j + ((digs 10 c).length : Int)), .int .i64 0]) ∧ Below w.heap.size w w') :
    Calls Tryz.prog 10 #[.float .f64 r] w fun e w' => e = .returned (.bool true) ∧ Below w.heap.size w w' := by
  have hr64 : r < 18446744073709551616 := by unfold infR at h2; omega
  have hc := hs.pos
  have h17 := short17 h1 hs
  obtain ⟨j1, j2⟩ := short_exp h1 h2 hs
  have hL1 := digs_pos c
  have hL2 := digs17 h17
  have hDg0 : Dg (digs 10 c) := ⟨digs_D, digs_first hc, hL1, hL2⟩
  have hnan : nanB r = false := by
    have := order_rung h2 h2
    unfold nanB
    rw [show FloatKind.f64.format.order r r = _ from this, Nat.compare_eq_eq.2 rfl]
    rfl
  have hmod : r % 9223372036854775808 = r := Nat.mod_eq_of_lt (by unfold infR at h2; omega)
  have h1' := Far.mk hS
  have hA := Far.mk (fun W (hb : Below w.heap.size w W) => nt_awake (hR.keep hb).rds (hT.keep hb))
  have hLen := Far.mk (fun W => ref01_Len (l := digs 10 c) (by omega) W)
  have hPre : Far (∀ i : Nat, 1 ≤ i → i < (digs 10 c).length → ∀ W, Below w.heap.size w W → Calls Tryz.prog 40 #[.float .f64 r, .int .i64 (i : Int)] W fun x w' => ∃ t E, x = .returned (.tuple #[.string (S (wide (preS i t E))), .int .i64 0]) ∧ PlaceR r i t E ∧ Below W.heap.size W w') := ⟨fun i i1 i2 W hb => by
    refine (nt_Precision (d := (i : Int)) hr64 (hT.keep hb) (hTz.keep hb rfl)).mono ?_
    rintro x w' ⟨s, e, rfl, hp, hb'⟩
    rcases hp with ⟨h, -, -⟩ | ⟨-, h, -, -⟩ | ⟨-, -, ⟨t, E, ht, rfl⟩, rfl⟩
    · omega
    · rw [hnan, hmod] at h
      rcases h with h | h
      · cases h
      · omega
    · rw [hmod, Int.toNat_natCast] at ht
      refine ⟨t, E, ?_, ht, hb'⟩
      rw [show sgnS r = [] from if_neg (by unfold infR at h2; omega), Int.toNat_natCast]
      rfl⟩
  have hNum : Far (∀ (i : Nat) t E, 1 ≤ i → i < (digs 10 c).length → PlaceR r i t E → ∀ W, Below w.heap.size w W → Calls Tryz.prog 13 #[.string (S (wide (preS i t E)))] W fun x w' => ∃ R, x = .returned (.float .f64 R) ∧ (FloatKind.f64.format.order R r == some .eq) = false ∧ Below W.heap.size W w') := ⟨fun i t E i1 i2 hp W hb => by
    obtain ⟨a1, a2⟩ := few_not h1 h2 hs i1 i2 hp
    refine (num_of a1 (hR.keep hb) (hT.keep hb)).mono ?_
    rintro x w' ⟨R, rfl, hr, hb'⟩
    exact ⟨R, rfl, order_ne hr.1 h2 (a2 R hr), hb'⟩⟩
  have oo : FloatKind.f64.format.order r r = some .eq := (order_rung h2 h2).trans (by rw [Nat.compare_eq_eq.2 rfl])
  -- the last text
  obtain ⟨g, hg⟩ : ∃ g : Option Bool, g = if j < 0 then some true else none := ⟨_, rfl⟩
  obtain ⟨a, ha⟩ : ∃ a : Nat, a = j.natAbs := ⟨_, rfl⟩
  have haj : (if g = some true then -1 else 1) * (a : Int) = j := by
    by_cases hj : j < 0
    · rw [hg, if_pos hj, if_pos rfl]
      omega
    · rw [hg, if_neg hj, if_neg (by simp)]
      omega
  have hfe := form_e hDg0 g (a := a) (by omega)
  rw [haj, valL_digs] at hfe
  have hNm : Far (∀ W, Below w.heap.size w W → Calls Tryz.prog 13 #[.string (S (wide (digs 10 c ++ 101 :: (sgB g ++ digs 10 a))))] W fun x w' => x = .returned (.float .f64 r) ∧ Below W.heap.size W w') := ⟨fun W hb => by
    refine (num_of hfe (hR.keep hb) (hT.keep hb)).mono ?_
    rintro x w' ⟨R, rfl, hr, hb'⟩
    exact ⟨by rw [in_one h2 hs.inn R hr], hb'⟩⟩
  have hDg := Far.mk (fun W => law_digits (n := a) (by omega) W)
  have hWd : Far (∀ W, Calls Tryz.prog 14 #[.string (S (101 :: (sgB g ++ digs 10 a)))] W fun x w' => x = .returned (.string (S (wide (101 :: (sgB g ++ digs 10 a))))) ∧ Below W.heap.size W w') := ⟨fun W => by
    have h4 := digs_four (n := a) (by omega)
    have hg4 : (sgB g).length ≤ 1 := by rcases g with _ | _ | _ <;> decide
    have := ref01_Wide (S (101 :: (sgB g ++ digs 10 a))) W (by rw [S_size, List.length_cons, List.length_append]; omega)
    rw [S_lst] at this
    exact this⟩
  have hcat2 := Far.mk (show S (wide (digs 10 c)) ++ S (wide (101 :: (sgB g ++ digs 10 a))) = S (wide (digs 10 c ++ 101 :: (sgB g ++ digs 10 a))) by rw [S_append, wide_append])
  have zL : (S (wide (digs 10 c))).size = 2 * (digs 10 c).length := by rw [S_size, wide_length]
  have zE : (S (wide (101 :: (sgB g ++ digs 10 a)))).size ≤ 20 := by
    have h4 := digs_four (n := a) (by omega)
    have hg4 : (sgB g).length ≤ 1 := by rcases g with _ | _ | _ <;> decide
    rw [S_size, wide_length, List.length_cons, List.length_append]
    omega
  have zD := S_size (digs 10 a)
  have zDl := digs_four (n := a) (by omega)
  obtain ⟨k, hk⟩ : ∃ k, (digs 10 c).length = k := ⟨_, rfl⟩
  rw [hk] at h1' hLen hPre hNum zL hL1 hL2
  have hke : j + (k : Int) - (k : Int) = j := by omega
  clear hS hc h17 hDg0 hnan hmod hfe haj hs hk hR hT hTz hr64
  generalize S (wide (digs 10 c)) = sL at *
  go_enter Tryz.func10, Tryz.ntmps10
  go_wp2_with fail
  with_reducible refine h1'.out.mono ?_
  rintro e w1 ⟨rfl, hb1⟩
  go_wp2_with fail
  with_reducible refine (hLen.out _).mono ?_
  rintro e w' ⟨rfl, hw⟩
  replace hw := hw.symm
  subst hw
  go_wp2_with fail
  go_loopw [7] (fun i wr => ∃ q : Nat, 1 ≤ q ∧ q ≤ k ∧ i = .int .i64 q ∧ Below w.heap.size w wr) (fun i _ => k - (intOf i).toNat)
  case atStart => exact ⟨1, by omega, by omega, rfl, hb1⟩
  case round =>
    clear hb1
    obtain ⟨q, hq1, hq2, rfl, hb⟩ := hrel
    by_cases hlt : q < k
    · have hP := Far.mk (hPre.out q hq1 hlt)
      go_wp2_with fail
      with_reducible refine (hP.out _ hb).mono ?_
      rintro e w2 ⟨t, E, rfl, hp, hb'⟩
      have hb2 := hb.trans (hb'.mono hb.size)
      have hN := Far.mk (hNum.out q t E hq1 hlt hp)
      clear hb' hb hp hP
      generalize S (wide (preS q t E)) = sp at *
      go_wp2_with fail
      with_reducible refine (hN.out _ hb2).mono ?_
      rintro e w3 ⟨R, rfl, ho, hb'⟩
      have hb3 := hb2.trans (hb'.mono hb2.size)
      clear hb' hb2 hN
      go_wp2_with fail
      go_roundw
      case rel => exact ⟨q + 1, by omega, by omega, by go_num, hb3⟩
      case measure => simp [intOf]; omega
    · clear hPre hNum
      rcases Int.lt_or_le j 0 with hj | hj
      · obtain rfl : g = some true := by rw [hg, if_pos hj]
        have hae : -j = (a : Int) := by omega
        have hcat := Far.mk (show (⟨#[101, 45]⟩ : ByteArray) ++ S (digs 10 a) = S (101 :: (sgB (some true) ++ digs 10 a)) from S_append [101, 45] (digs 10 a))
        have ha2 : a < 1000 := by omega
        clear hg ha
        go_wp2_with fail
        with_reducible refine (hDg.out _).mono ?_
        rintro e w4 ⟨rfl, hb'⟩
        have hb4 := hb.trans (hb'.mono hb.size)
        clear hb' hb
        go_wp2_with fail
        rw [hcat.out]
        with_reducible refine (hWd.out _).mono ?_
        rintro e w5 ⟨rfl, hb'⟩
        have hb5 := hb4.trans (hb'.mono hb4.size)
        clear hb' hb4
        go_wp2_with fail
        rw [hcat2.out]
        with_reducible refine (hNm.out _ hb5).mono ?_
        rintro e w6 ⟨rfl, hb'⟩
        have hb6 := hb5.trans (hb'.mono hb5.size)
        clear hb' hb5
        go_wp2_with fail
        with_reducible refine (hA.out _ hb6).mono ?_
        rintro e w7 ⟨rfl, hb'⟩
        have hb7 := hb6.trans (hb'.mono hb6.size)
        clear hb' hb6
        go_wp2_with fail
        go_ret
        exact ⟨rfl, hb7⟩
      · obtain rfl : g = none := by rw [hg, if_neg (by omega)]
        have hae : j = (a : Int) := by omega
        have hcat := Far.mk (show (⟨#[101]⟩ : ByteArray) ++ S (digs 10 a) = S (101 :: (sgB none ++ digs 10 a)) from S_append [101] (digs 10 a))
        have ha2 : a < 1000 := by omega
        clear hg ha
        go_wp2_with fail
        with_reducible refine (hDg.out _).mono ?_
        rintro e w4 ⟨rfl, hb'⟩
        have hb4 := hb.trans (hb'.mono hb.size)
        clear hb' hb
        go_wp2_with fail
        rw [hcat.out]
        with_reducible refine (hWd.out _).mono ?_
        rintro e w5 ⟨rfl, hb'⟩
        have hb5 := hb4.trans (hb'.mono hb4.size)
        clear hb' hb4
        go_wp2_with fail
        rw [hcat2.out]
        with_reducible refine (hNm.out _ hb5).mono ?_
        rintro e w6 ⟨rfl, hb'⟩
        have hb6 := hb5.trans (hb'.mono hb5.size)
        clear hb' hb5
        go_wp2_with fail
        with_reducible refine (hA.out _ hb6).mono ?_
        rintro e w7 ⟨rfl, hb'⟩
        have hb7 := hb6.trans (hb'.mono hb6.size)
        clear hb' hb6
        go_wp2_with fail
        go_ret
        exact ⟨rfl, hb7⟩
theorem law_Few {f : Nat} (hf : f < 18446744073709551616) {w : World} (hR : Rdt w) (hT : Tabs w) (hTz : Tz w) : Calls Tryz.prog 10 #[.float .f64 f] w fun e w' => e = .returned (.bool true) ∧ Below w.heap.size w w' := by
  by_cases h : 1 ≤ f ∧ f < infR
  · obtain ⟨c, j, hs⟩ := short_some h.1 h.2
    refine few_yes h.1 h.2 hs hR hT hTz ((nt_Shortest hf hT).mono ?_)
    rintro x w' ⟨s, n, e, rfl, hsh, hb⟩
    rcases hsh with ⟨-, -, c', j', hs', rfl, rfl, rfl⟩ | ⟨h', -⟩
    · obtain ⟨rfl, rfl⟩ := hs.one hs'
      exact ⟨rfl, hb⟩
    · omega
  · refine few_no hR hT ((nt_Shortest hf hT).mono ?_)
    rintro x w' ⟨s, n, e, rfl, hsh, hb⟩
    rcases hsh with ⟨h1, h2, -⟩ | ⟨-, rfl, rfl, rfl⟩
    · exact absurd ⟨h1, h2⟩ h
    · exact ⟨rfl, hb⟩
end Us
end Go.Proofs.YtdpbpdhamekcdaaGreatDoor
