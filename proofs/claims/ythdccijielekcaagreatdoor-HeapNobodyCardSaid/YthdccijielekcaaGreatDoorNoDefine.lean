/-
  The heap's one array gets a property at the key of four: 'Define', and its length with it. Conditions: the heap's cells are as said.
-/
import Derived.Test.YthdccijielekcaaGreatDoorNoPut
import Derived.Test.YthdccijielekcaaGreatDoorVal2
namespace Go.Proofs.YthdccijielekcaaGreatDoor
open Go.RowKit
variable {h g c x mp p b np cp : Nat} {es : Array MapEntry} {ec : Nat} {ps : Array Value} {used : Int} {W W' w : World}

abbrev n5 : Nat := 4617315517961601024
/-- Done: the length is five. -/
def DefQ (B : Nat) (a : World) (h g c x mp b : Nat) (e : Ending) (w' : World) : Prop := e = .returned (.tuple #[.bool true, .int .i64 0]) ∧ Below B a w' ∧
  ∃ p' cp cur, (cur.toList.drop 1).take 19 = (dataProp 3 false n5 ⟨#[]⟩ 0 true false false).toList ∧ ArrG h g c x mp p' b 2 cp #[ent0, ent1] 2 cur 3 w'
theorem Heap_is1 (H : ArrG h g c x mp p b np cp es ec ps used w) : Calls Tryz.prog 53 #[.pointer (some ⟨h, 0, none⟩)] w fun e w' => e = .returned (.bool true) ∧ w = w' := Heap_is h _ 9 used w H.1
theorem add_5 (w : World) : (binOp .add 29 (.float .f64 (floatOfInt .f64 4)) (.float .f64 4607182418800017408)).run Tryz.prog w = .ok (.float .f64 n5) w := by kernel_rfl
theorem told5 : toldN n5 = n5 := by kernel_rfl
theorem value_Number5 (w : World) : Calls Tryz.prog 64 #[.float .f64 n5] w fun e w' => e = .returned (val 3 false n5 ⟨#[]⟩ 0) ∧ Below w.heap.size w w' := by
  have h := value_Number n5 w
  rw [told5] at h
  exact h
theorem len_form {cur : Array Value} (h0 : cur[0]? = some (.string lenW)) (h1 : (cur.toList.drop 1).take 19 = lenProp.toList) : ∃ r, cur = (⟨.string lenW :: (lenProp.toList ++ r)⟩ : Array Value) := by
  obtain ⟨l⟩ := cur
  cases l with
  | nil => simp at h0
  | cons c0 l =>
    simp only [List.getElem?_toArray, List.getElem?_cons_zero, Option.some.injEq] at h0
    subst h0
    refine ⟨l.drop 19, ?_⟩
    have h2 : l.take 19 = lenProp.toList := h1
    rw [← h2, List.take_append_drop]
def DefS (B : Nat) (a : World) (h g c x mp p b np cp : Nat) (es : Array MapEntry) (ec : Nat) (ps : Array Value) (used : Int) (W : World) : Prop := Below B a W ∧ ArrG h g c x mp p b np cp es ec ps used W ∧ B ≤ h
theorem DefS.go {B : Nat} {a : World} (H : DefS B a h g c x mp p b np cp es ec ps used W) (k : Below W.heap.size W W') : DefS B a h g c x mp p b np cp es ec ps used W' :=
  ⟨below_via k H.1 (by have := H.2.1.lt; have := H.2.2; omega), H.2.1.go k, H.2.2⟩
abbrev curA (n : Nat) (r : List Value) : Array Value := ⟨.string lenW :: ((dataProp 3 false n ⟨#[]⟩ 0 true false false).toList ++ r)⟩
theorem HasB.five5 {X : World} {q : Nat} {r : List Value} (H : HasB X q (curA 0 r) 130) : (X.cell? ⟨q, 2, none⟩ = some (.int .i64 3) ∧ X.cell? ⟨q, 3, none⟩ = some (.bool false) ∧ X.cell? ⟨q, 4, none⟩ = some (.float .f64 0) ∧ X.cell? ⟨q, 5, none⟩ = some (.string ⟨#[]⟩) ∧ X.cell? ⟨q, 6, none⟩ = some (.int .i64 0)) ∧ ∀ o, X.frozen? ⟨q, o, none⟩ = false :=
  ⟨⟨by have := HasB.cell H 2; simpa using this, by have := HasB.cell H 3; simpa using this, by have := HasB.cell H 4; simpa using this, by have := HasB.cell H 5; simpa using this, by have := HasB.cell H 6; simpa using this⟩, H.free⟩
/-- The length's value laid anew. -/
def put5 (X : World) (q : Nat) : World := ((((X.setCell ⟨q, 2, none⟩ (.int .i64 3)).setCell ⟨q, 3, none⟩ (.bool false)).setCell ⟨q, 4, none⟩ (.float .f64 n5)).setCell ⟨q, 5, none⟩ (.string ⟨#[]⟩)).setCell ⟨q, 6, none⟩ (.int .i64 0)
theorem put5_off {X : World} {q k : Nat} (hne : k ≠ q) : (put5 X q).heap[k]? = X.heap[k]? :=
  (Below.heap_setCell _ _ _ k hne).trans <| (Below.heap_setCell _ _ _ k hne).trans <| (Below.heap_setCell _ _ _ k hne).trans <| (Below.heap_setCell _ _ _ k hne).trans <| Below.heap_setCell _ _ _ k hne
theorem put5_at {X : World} {q : Nat} {r : List Value} (H : HasB X q (curA 0 r) 130) : HasB (put5 X q) q (curA n5 r) 130 := by
  have h := HasB.set (HasB.set (HasB.set (HasB.set (HasB.set H 2 (.int .i64 3)) 3 (.bool false)) 4 (.float .f64 n5)) 5 (.string ⟨#[]⟩)) 6 (.int .i64 0)
  simp at h
  exact h
theorem put5_arr {X : World} {q : Nat} {r : List Value} (H : ArrG h g c x mp q b np cp es ec (curA 0 r) used X) : ArrG h g c x mp q b np cp es ec (curA n5 r) used (put5 X q) := by
  obtain ⟨n1, n2⟩ := H.ne_p (nm := lenW) (by simp)
  have hqm : q ≠ mp := ne_map H.2.2.2.2 H.2.2.2.1
  obtain ⟨h1, ⟨h2, h3⟩, h4, h5, h6⟩ := H
  have ngq : g ≠ q := by
    rintro rfl
    have e := h6.cell 0
    rw [h2] at e
    simp at e
  exact ⟨(put5_off (Ne.symm n1)).trans h1, ⟨(World.cell?_of_block (a := ⟨g, 0, none⟩) (put5_off ngq)).trans h2, (World.frozen?_of_block (a := ⟨g, 0, none⟩) (put5_off ngq)).trans h3⟩, (put5_off (Ne.symm n2)).trans h4, (put5_off (Ne.symm hqm)).trans h5, put5_at h6⟩
theorem put5_below {B : Nat} {a X : World} {q : Nat} (hB : Below B a X) (hq : B ≤ q) : Below B a (put5 X q) := Below.setCell (Below.setCell (Below.setCell (Below.setCell (Below.setCell hB hq _) hq _) hq _) hq _) hq _
attribute [local go_sem] add_5

set_option maxHeartbeats 4000000 in
set_option maxRecDepth 100000 in
theorem Heap_Define (B : Nat) (a : World) (hB : Below B a w) (hBh : B ≤ h) (hBx : B ≤ x) (hBm : B ≤ mp) (hBp : B ≤ p) (H : ArrG h g c x mp p b 1 1 #[ent0] 1 lenCells 2 w) :
    Calls Tryz.prog 15 #[.pointer (some ⟨h, 0, none⟩), .int .i64 0, .string fourW, .agg fourProp] w (DefQ B a h g c x mp b) := by
  have hwB : B ≤ w.heap.size := by have := H.lt; omega
  go_enter Tryz.func15, Tryz.ntmps15
  go_upto_region 1 with (fail)
  refine wp_gen (fun W => PutS B a h g c x mp p b 1 1 #[ent0] 1 lenCells 2 w.heap.size W) ?_ ?_
  · exact ⟨Below.alloc hB hwB _, H.go (Below.alloc (Below.refl _ _) (Nat.le_refl _) _), HasB.newAt rfl, hBh⟩
  intro W hS0
  have hS := Lib.hid hS0
  clear hS0 H hB
  obtain ⟨r0, g0, x0, x2, x3, x13⟩ := hS.out.2.1.cells
  go_upto_region 15 with (first
    | (go_at_call 53; refine (Heap_is1 hS.out.2.1).mono ?_; rintro e w' ⟨rfl, rfl⟩)
    | (go_at_call 56; refine (Heap_there1 hS.out.2.1).mono ?_; rintro e w' ⟨rfl, rfl⟩)
    | ((with_reducible refine at_load 39 ?_); refine wpList_loadB hS.out.2.2.1 _ rfl rfl rfl rfl rfl (by kernel_rfl) ?_)
    | (go_at_call 57; refine (prop_Check 0 false 0 ⟨#[]⟩ 0 true true true _ value_Check_zero).mono ?_; rintro e w' ⟨rfl, k⟩; replace hS := Lib.hid (hS.out.go k); clear k r0 g0 x0 x2 x3 x13; obtain ⟨r0, g0, x0, x2, x3, x13⟩ := hS.out.2.1.cells)
    | (go_at_call 59; refine (Heap_length _).mono ?_; rintro e w' ⟨rfl, k⟩; replace hS := Lib.hid (hS.out.go k); clear k r0 g0 x0 x2 x3 x13; obtain ⟨r0, g0, x0, x2, x3, x13⟩ := hS.out.2.1.cells)
    | (go_at_call 61; refine (Index_four _).mono ?_; rintro e w' ⟨rfl, k⟩; replace hS := Lib.hid (hS.out.go k); clear k r0 g0 x0 x2 x3 x13; obtain ⟨r0, g0, x0, x2, x3, x13⟩ := hS.out.2.1.cells)
    | (go_at_call 62; refine (Heap_lengthOf (by omega) (fun W hm => at_len1 1 hm) hS.out.2.1).mono ?_; rintro e w' ⟨rfl, k⟩; replace hS := Lib.hid (hS.out.go k); clear k r0 g0 x0 x2 x3 x13; obtain ⟨r0, g0, x0, x2, x3, x13⟩ := hS.out.2.1.cells))
  go_upto_region 20 with (first
    | ((with_reducible refine at_load_by 31 83 ?_); refine wpList_loadOff hS.out.2.1.2.2.2.2 2 [.int .i64 3, .bool false, .float .f64 0, .string ⟨#[]⟩, .int .i64 0] rfl _ rfl rfl rfl rfl rfl (by kernel_rfl) ?_)
    | (go_at_call 63; refine (heap_size0 _).mono ?_; rintro e w' ⟨rfl, k⟩; replace hS := Lib.hid (hS.out.go k); clear k r0 g0 x0 x2 x3 x13; have p17 := hS.out.2.1.2.2.2.2.cell 17)
    | ((with_reducible refine at_load 39 ?_); refine wpList_loadB hS.out.2.2.1 _ rfl rfl rfl rfl rfl (by kernel_rfl) ?_)
    | (go_at_call 58; refine (Heap_plain B a hS.out.1 hBh hBx hBm hBp hS.out.2.1).mono ?_; rintro e w' ⟨rfl, hY, p2, cp2, cur, hp2, hsz, hd, h0, hA⟩))
  obtain ⟨r, rfl⟩ := len_form h0 hd
  have hD := Lib.hid (show DefS B a h g c x mp p2 b 2 cp2 #[ent0, ent1] 2 (curA 0 r) 3 w' from ⟨hY, hA, hBh⟩)
  clear hS p17 hY hsz hd h0 hA
  go_upto_region 22 with (first
    | (go_at_call 62; refine (Heap_lengthOf (by omega) (fun W hm => at_len2 2 hm) hD.out.2.1).mono ?_; rintro e w' ⟨rfl, k⟩; replace hD := Lib.hid (hD.out.go k); clear k)
    | (go_at_call 64; refine (value_Number5 _).mono ?_; rintro e w' ⟨rfl, k⟩; replace hD := Lib.hid (hD.out.go k); clear k; obtain ⟨⟨c2, c3, c4, c5, c6⟩, cf⟩ := hD.out.2.1.2.2.2.2.five5))
  refine wp_gen (fun X => Below B a X ∧ ArrG h g c x mp p2 b 2 cp2 #[ent0, ent1] 2 (curA n5 r) 3 X) ?_ ?_
  · exact ⟨put5_below hD.out.1 hp2, put5_arr hD.out.2.1⟩
  clear hD
  rintro X ⟨hX, hA⟩
  go_wp2_with fail
  go_returns
  exact ⟨rfl, hX, p2, cp2, _, rfl, hA⟩
end Go.Proofs.YthdccijielekcaaGreatDoor
