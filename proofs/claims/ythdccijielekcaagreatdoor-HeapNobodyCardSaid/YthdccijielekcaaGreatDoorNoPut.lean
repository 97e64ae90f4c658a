/-
  The heap's one array gets a property at the key of four: 'plain'. Conditions: the heap's cells are as said.
-/
import Derived.Test.YthdccijielekcaaGreatDoorNoOwns2
import Derived.Deep.AppendLies
namespace Go.Proofs.YthdccijielekcaaGreatDoor
open Go.RowKit
variable {h g c x mp p b np cp : Nat} {es : Array MapEntry} {ec : Nat} {ps : Array Value} {used : Int} {W W' w : World}

attribute [local go_sem] build_keyed
abbrev fourProp : Array Value := dataProp 0 false 0 ⟨#[]⟩ 0 true true true
abbrev fourCells : Array Value := keyed fourW 0 false 0 ⟨#[]⟩ 0 true true true
abbrev lenProp : Array Value := dataProp 3 false 0 ⟨#[]⟩ 0 true false false
theorem ArrG.ne_g (H : ArrG h g c x mp p b np cp es ec ps used W) : g ≠ h := by
  rintro rfl
  have h1 := H.cells.1
  rw [H.cells.2.1] at h1
  cases h1
theorem ArrG.ne_x (H : ArrG h g c x mp p b np cp es ec ps used W) : x ≠ h := by
  rintro rfl
  have h1 := H.cells.1
  rw [H.cells.2.2.1] at h1
  cases h1
theorem ArrG.ne_gx (H : ArrG h g c x mp p b np cp es ec ps used W) : g ≠ x := by
  rintro rfl
  have h1 := H.cells.2.1
  rw [H.cells.2.2.1] at h1
  cases h1
theorem ArrG.ne_m (H : ArrG h g c x mp p b np cp es ec ps used W) : mp ≠ h ∧ mp ≠ x ∧ mp ≠ g := by
  refine ⟨?_, ?_, ?_⟩
  · rintro rfl; exact ne_map H.1 H.2.2.2.1 rfl
  · rintro rfl; exact ne_map H.2.2.1 H.2.2.2.1 rfl
  · rintro rfl
    have h1 := H.cells.2.1
    have h2 : W.heap[mp]? = some (.map es ec) := H.2.2.2.1
    simp [World.cell?, h2] at h1
theorem ArrG.ne_p {nm : ByteArray} (H : ArrG h g c x mp p b np cp es ec ps used W) (h0 : ps[0]? = some (.string nm)) : p ≠ h ∧ p ≠ x := by
  have h1 := H.2.2.2.2.cell 0
  rw [h0] at h1
  constructor
  · rintro rfl
    rw [H.cells.1] at h1
    cases h1
  · rintro rfl
    rw [H.cells.2.2.1] at h1
    cases h1
/-- Cells taken. -/
theorem ArrG.take {nm : ByteArray} {u2 : Int} (H : ArrG h g c x mp p b np cp es ec ps used W) (h0 : ps[0]? = some (.string nm)) (h1 : HeapAt W' h (.slice (some ⟨g, 0, none⟩) 1 c) 9 u2) (k : But h W W') : ArrG h g c x mp p b np cp es ec ps u2 W' := by
  obtain ⟨m1, m2, m3⟩ := H.ne_m
  obtain ⟨n1, n2⟩ := H.ne_p h0
  have ng := H.ne_g
  have nx := H.ne_x
  obtain ⟨-, ⟨h2, h3⟩, h4, h5, h6⟩ := H
  have hl := World.block_lt_of_cell? W _ h2
  exact ⟨h1, ⟨(World.cell?_of_block (k.block g hl ng)).trans h2, (World.frozen?_of_block (a := ⟨g, 0, none⟩) (k.block g hl ng)).trans h3⟩, k.hasB h4 nx, h5.but k m1, k.hasB h6 n1⟩
theorem ArrG.lt (H : ArrG h g c x mp p b np cp es ec ps used W) : h < W.heap.size := HasB.lt H.1

/-- What is known on the way: the heap's cells, and the descriptor's own. -/
def PutS (B : Nat) (a : World) (h g c x mp p b np cp : Nat) (es : Array MapEntry) (ec : Nat) (ps : Array Value) (used : Int) (l : Nat) (W : World) : Prop :=
  Below B a W ∧ ArrG h g c x mp p b np cp es ec ps used W ∧ HasB W l fourProp 39 ∧ B ≤ h
theorem PutS.go {B : Nat} {a : World} {l : Nat} (H : PutS B a h g c x mp p b np cp es ec ps used l W) (k : Below W.heap.size W W') : PutS B a h g c x mp p b np cp es ec ps used l W' :=
  ⟨below_via k H.1 (by have := H.2.1.lt; have := H.2.2.2; omega), H.2.1.go k, H.2.2.1.below k, H.2.2.2⟩
theorem PutS.drew {B : Nat} {a : World} {l : Nat} (H : PutS B a h g c x mp p b np cp es ec ps used l W) : PutS B a h g c x mp p b np cp es ec ps used l W.drew := ⟨Below.drew H.1, H.2⟩

theorem info_keyed : (Tryz.prog.info? 130).map (fun i => (i.zero, i.size, i.bytes)) = some (some (.agg zero20), 20, 176) := by kernel_rfl
theorem four_one : ∀ v ∈ fourCells.toList, v.oneCell' = true := List.all_eq_true.1 (by kernel_rfl)
theorem own_len {X : World} (hp : HasB X p lenCells 130) : X.ownsRow 0 130 20 (.slice (some ⟨p, 0, none⟩) 1 1) 1 lenCells.toList :=
  ⟨rfl, .inr ⟨p, 1, lenCells, rfl, Nat.zero_le _, hp, Nat.le_refl _, by unfold maxLen; omega, rfl, rfl⟩⟩
theorem ArrG.putMap {es2 : Array MapEntry} {ec2 : Nat} (H : ArrG h g c x mp p b np cp es ec ps used W) : ArrG h g c x mp p b np cp es2 ec2 ps used (putMap W mp (.map es2 ec2)) := by
  obtain ⟨m1, m2, m3⟩ := H.ne_m
  have hpm : p ≠ mp := ne_map H.2.2.2.2 H.2.2.2.1
  obtain ⟨h1, ⟨h2, h3⟩, h4, h5, h6⟩ := H
  exact ⟨HasB.putMap h1 (Ne.symm m1) _, ⟨(World.cell?_of_block (a := ⟨g, 0, none⟩) (putMap_block W mp _ g (Ne.symm m3))).trans h2, (World.frozen?_of_block (a := ⟨g, 0, none⟩) (putMap_block W mp _ g (Ne.symm m3))).trans h3⟩, h4.putMap (Ne.symm m2) _, putMap_at h5, h6.putMap hpm _⟩
theorem PutS.putMap {B : Nat} {a : World} {l : Nat} {es2 : Array MapEntry} {ec2 : Nat} (H : PutS B a h g c x mp p b np cp es ec ps used l W) (hm : B ≤ mp) : PutS B a h g c x mp p b np cp es2 ec2 ps used l (putMap W mp (.map es2 ec2)) :=
  ⟨below_putMap H.1 hm _, H.2.1.putMap, H.2.2.1.putMap (ne_map H.2.2.1 H.2.1.2.2.2.1) _, H.2.2.2⟩
theorem HasB.putSlice {X : World} {x p np cp b mp p2 np2 cp2 : Nat} (h : HasB X x (cellA p np cp b mp) 114) : HasB (X.setCell ⟨x, 3, none⟩ (.slice (some ⟨p2, 0, none⟩) np2 cp2)) x (cellA p2 np2 cp2 b mp) 114 := by
  have h := HasB.set h 3 (.slice (some ⟨p2, 0, none⟩) np2 cp2)
  simp at h
  exact h
theorem take_take_drop {α : Type} (l : List α) (m : List α) (h : l.take 40 = m) : (l.drop 1).take 19 = (m.drop 1).take 19 := by
  subst h
  rw [List.drop_take, List.take_take]
  rfl
theorem PutS.grown {B : Nat} {a X w5 : World} {l g2 cap base : Nat} (H : PutS B a h g c x mp p b 1 1 es ec lenCells used l X) (hx : B ≤ x) (hp : B ≤ p)
    (hown : w5.ownsRow base 130 20 (.slice (some ⟨g2, 0, none⟩) 2 cap) 2 (lenCells.toList ++ fourCells.toList)) (hg : X.grownBy w5 (some p)) (hat : some p = some g2 ∨ g2 = X.heap.size) :
    Below B a (w5.setCell ⟨x, 3, none⟩ (.slice (some ⟨g2, 0, none⟩) 2 cap)) ∧ ∃ cur, B ≤ g2 ∧ 40 ≤ cur.size ∧ (cur.toList.drop 1).take 19 = lenProp.toList ∧ cur[0]? = some (.string lenW) ∧
      ArrG h g c x mp g2 b 2 cap es ec cur used (w5.setCell ⟨x, 3, none⟩ (.slice (some ⟨g2, 0, none⟩) 2 cap)) := by
  obtain ⟨n1, n2⟩ := H.2.1.ne_p (nm := lengthW) rfl
  obtain ⟨m1, m2, m3⟩ := H.2.1.ne_m
  have nx := H.2.1.ne_x
  have ngx := H.2.1.ne_gx
  have hlt := H.2.1.lt
  have hBh := H.2.2.2
  have hpm : p ≠ mp := ne_map H.2.1.2.2.2.2 H.2.1.2.2.2.1
  obtain ⟨hB, ⟨h1, ⟨h2, h3⟩, h4, h5, h6⟩, -, -⟩ := H
  have ngp : g ≠ p := by
    rintro rfl
    have e := h6.cell 0
    rw [h2] at e
    cases e
  have hlg := World.block_lt_of_cell? X _ h2
  have hlx := h4.lt
  have hlp := h6.lt
  have hlm := MapIs.lt h5
  have bl : ∀ k, k < X.heap.size → k ≠ p → w5.heap[k]? = X.heap[k]? := fun k hk hne => hg.block k hk (by intro e; exact hne (Option.some.inj e))
  have hge : B ≤ g2 ∧ g2 ≠ x := by
    rcases hat with e | e
    · have e := Option.some.inj e
      subst e
      exact ⟨hp, n2⟩
    · subst e
      exact ⟨by omega, by omega⟩
  have hB5 : Below B a w5 := ⟨hg.os.trans hB.os, hg.tape.trans hB.tape, hg.output.trans hB.output, Nat.le_trans hB.size hg.size, fun k hk => (bl k (by omega) (by omega)).trans (hB.block k hk)⟩
  rcases hown.2 with ⟨hv, -⟩ | ⟨g3, cap3, cur, hv, -, hh, hn2, -, hcs, htake⟩
  · cases hv
  · simp only [Value.slice.injEq, Option.some.injEq, Addr.mk.injEq, and_true, true_and] at hv
    obtain ⟨rfl, rfl⟩ := hv
    have hH : HasB w5 g2 cur 130 := hh
    refine ⟨Below.setCell hB5 hx _, cur, hge.1, by omega, take_take_drop _ _ htake, ?_, HasB.far ((bl h hlt (Ne.symm n1)).trans h1) (Ne.symm nx) _, ⟨?_, ?_⟩, HasB.putSlice ((bl x hlx (Ne.symm n2)).trans h4), MapIs.set ((bl mp hlm (Ne.symm hpm)).trans h5) _ _ m2, HasB.far hH hge.2 _⟩
    · have e : cur.toList[0]? = (cur.toList.take (2 * 20))[0]? := by rw [List.getElem?_take_of_lt (by omega)]
      rw [htake] at e
      simpa using e
    · exact cell_far ((World.cell?_of_block (a := ⟨g, 0, none⟩) (bl g hlg ngp)).trans h2) ngx
    · exact (World.frozen?_of_block (a := ⟨g, 0, none⟩) ((Below.heap_setCell w5 ⟨x, 3, none⟩ _ g ngx).trans (bl g hlg ngp))).trans h3

/-- Done: the property is there, and the length's is as it was. -/
def PutQ (B : Nat) (a : World) (h g c x mp b : Nat) (e : Ending) (w' : World) : Prop := e = .returned (.tuple #[.bool true, .int .i64 0]) ∧ Below B a w' ∧
  ∃ p' cp cur, B ≤ p' ∧ 40 ≤ cur.size ∧ (cur.toList.drop 1).take 19 = lenProp.toList ∧ cur[0]? = some (.string lenW) ∧ ArrG h g c x mp p' b 2 cp #[ent0, ent1] 2 cur 3 w'
set_option maxHeartbeats 4000000 in
set_option maxRecDepth 100000 in
theorem Heap_plain (B : Nat) (a : World) (hB : Below B a w) (hBh : B ≤ h) (hBx : B ≤ x) (hBm : B ≤ mp) (hBp : B ≤ p) (H : ArrG h g c x mp p b 1 1 #[ent0] 1 lenCells 2 w) :
    Calls Tryz.prog 58 #[.pointer (some ⟨h, 0, none⟩), .int .i64 0, .string fourW, .agg fourProp] w (PutQ B a h g c x mp b) := by
  have hwB : B ≤ w.heap.size := by have := H.lt; omega
  have hhl := H.lt
  have hxl := H.2.2.1.lt
  have hpl := H.2.2.2.2.lt
  obtain ⟨-, hpx⟩ := H.ne_p (nm := lengthW) rfl
  obtain ⟨i0, hi, hz0, hz1, hz2⟩ := info_parts info_keyed
  go_enter Tryz.func58, Tryz.ntmps58
  go_upto_region 1 with (fail)
  refine wp_gen (fun W => PutS B a h g c x mp p b 1 1 #[ent0] 1 lenCells 2 w.heap.size W) ?_ ?_
  · exact ⟨Below.alloc hB hwB _, H.go (Below.alloc (Below.refl _ _) (Nat.le_refl _) _), HasB.newAt rfl, hBh⟩
  intro W hS0
  have hS := Lib.hid hS0
  clear hS0 H hB
  obtain ⟨r0, g0, x0, x2, x3, x13⟩ := hS.out.2.1.cells
  go_upto_region 8 with (first
    | (go_at_call 16; refine (Heap_Own_four hS.out.2.1).mono ?_; rintro e w' ⟨rfl, k⟩; replace hS := Lib.hid (hS.out.go k); clear k r0 g0 x0 x2 x3 x13; obtain ⟨r0, g0, x0, x2, x3, x13⟩ := hS.out.2.1.cells)
    | ((with_reducible refine at_store 39 ?_); refine wpList_storeB (HasB.new _ _ _) cells0 rfl rfl rfl rfl rfl (by kernel_rfl) (by kernel_rfl) ?_; intro V h1 hk hoff; have kk := hk _ _ (Nat.le_refl _) (Below.alloc (Below.refl _ _) (Nat.le_refl _) _); clear hk hoff h1; replace hS := Lib.hid (hS.out.go kk); clear kk r0 g0 x0 x2 x3 x13; obtain ⟨r0, g0, x0, x2, x3, x13⟩ := hS.out.2.1.cells)
    | (go_at_call 25; refine (Heap_Take h _ 9 2 _ hS.out.2.1.1 (by omega) (by omega) (by omega)).mono ?_; rintro e w2 ⟨rfl, hH2, hB2⟩))
  have hS2 : PutS B a h g c x mp p b 1 1 #[ent0] 1 lenCells 3 w.heap.size w2 :=
    ⟨hB2.below hS.out.1 hBh (by have := hS.out.2.1.lt; omega), hS.out.2.1.take rfl hH2 hB2, hB2.hasB hS.out.2.2.1 (by omega), hBh⟩
  clear hS hH2 hB2 r0 g0 x0 x2 x3 x13
  obtain ⟨r0, g0, x0, x2, x3, x13⟩ := hS2.2.1.cells
  have hup := upd_one (w := w2.drew) (mp := mp) hS2.2.1.2.2.2.1
  have hS3 : PutS B a h g c x mp p b 1 1 #[ent0, ent1] 2 lenCells 3 w.heap.size (putMap w2.drew mp (.map #[ent0, ent1] 2)) := hS2.drew.putMap hBm
  have t3 := hS3.2.1.cells.2.2.2.2
  go_region_held3 (fun X => (X.cell? ⟨x, 3, none⟩ = some (.slice (some ⟨p, 0, none⟩) 1 1) ∧ X.cell? ⟨x, 13, none⟩ = some (.map (some mp))))
    (first
      | assumption
      | exact ⟨x3, x13⟩
      | exact t3)
    (fail)
  refine then_gen (fun X => PutS B a h g c x mp p b 1 1 #[ent0, ent1] 2 lenCells 3 w.heap.size X) hS3 ?_
  rename_i hH
  clear hH hup t3 hS3 hS2 r0 g0 x0 x2 x3 x13
  intro X hS
  go_upto_region 9 with (fail)
  have hl0 := hS.2.2.1
  refine wp_region_held (S := fun V => HasB V w.heap.size fourProp 39) (by kernel_rfl) ?_
  replace hS := hS.drew
  have hl := hS.2.2.1
  clear hl0
  have x3 := hS.2.1.cells.2.2.2.2.1
  simp only [List.size_toArray, List.length_cons, List.length_nil]
  refine wpAnyH_take (i := 0) (v := .pointer (some ⟨x, 0, none⟩)) rfl (by kernel_rfl) (by kernel_rfl) (by kernel_rfl) (fun _ _ _ h => h) (Or.inl ⟨by rfl, fun V hV => by go_simp⟩) hl ?_
  simp [Act.put]
  refine wpAnyH_take (i := 1) (v := .pointer (some ⟨x, 0, none⟩)) rfl (by kernel_rfl) (by kernel_rfl) (by kernel_rfl) (fun _ _ _ h => h) (Or.inl ⟨by rfl, fun V hV => by go_simp⟩) hl ?_
  simp [Act.put]
  refine wpAnyH_take (i := 2) (v := .pointer (some ⟨x, 0, none⟩)) rfl (by kernel_rfl) (by kernel_rfl) (by kernel_rfl) (fun _ _ _ h => h) (Or.inl ⟨by rfl, fun V hV => by go_simp⟩) hl ?_
  simp [Act.put]
  refine wpAnyH_take (i := 3) (v := .pointer (some ⟨x, 0, none⟩)) rfl (by kernel_rfl) (by kernel_rfl) (by kernel_rfl) (fun _ _ _ h => h) (Or.inl ⟨by rfl, fun V hV => by go_simp⟩) hl ?_
  simp [Act.put]
  refine wpAnyH_take (i := 4) (v := .pointer (some ⟨x, 3, none⟩)) rfl (by kernel_rfl) (by kernel_rfl) (by kernel_rfl) (fun _ _ _ h => h) (Or.inl ⟨by rfl, fun V hV => by go_simp⟩) hl ?_
  simp [Act.put]
  refine wpAnyH_take (i := 6) (v := .string fourW) rfl (by kernel_rfl) (by kernel_rfl) (by kernel_rfl) (fun _ _ _ h => h) (Or.inl ⟨by rfl, fun V hV => by go_simp⟩) hl ?_
  simp [Act.put]
  refine wpAnyH_take (i := 7) (v := _) rfl (by kernel_rfl) (by kernel_rfl) (by kernel_rfl) (fun _ _ _ h => h) (yieldsIf_load_mid (by rfl) 39 _ rfl w.heap.size 0 rfl fourProp.toList _ (fun V hV => hV.rangeAt) rfl rfl (by kernel_rfl)) hl ?_
  simp [Act.put]
  refine wpAnyH_ready (rs := [5, 8]) (by kernel_rfl) (by simp) (AllReadyH.cons rfl (fun K hK => ?_) (AllReadyH.cons rfl (fun K hK => ?_) AllReadyH.nil))
  · rw [if_pos (by rfl)]
    go_wp2_with fail
    refine hK.out _ _ hl (fun _ => ?_)
    clear hK
    refine wpAnyH_ready (rs := [8]) (by kernel_rfl) (by simp) (AllReadyH.cons rfl (fun K hK => ?_) AllReadyH.nil)
    rw [if_pos (by rfl)]
    go_wp2_with (go_at_call 123; refine (prop_Full 0 false 0 ⟨#[]⟩ 0 true true true _).mono ?_; rintro e w4 ⟨rfl, k⟩)
    replace hS := hS.go k
    replace hl := hS.2.2.1
    clear k x3
    have x3 := hS.2.1.cells.2.2.2.2.1
    refine hK.out _ _ hl (fun _ => ?_)
    clear hK
    refine wpAnyH_take (i := 9) (v := .agg fourCells) rfl (by kernel_rfl) (by kernel_rfl) (by kernel_rfl) (fun _ _ _ h => h) (Or.inl ⟨by rfl, fun V hV => by go_simp⟩) hl ?_
    simp [Act.put]
    refine wpAnyH_ready (rs := [10]) (by kernel_rfl) (by simp) (AllReadyH.cons rfl (fun K hK => ?_) AllReadyH.nil)
    rw [if_pos (by rfl)]
    go_wp2_with fail
    replace hS := hS.go (Below.alloc (Below.refl _ _) (Nat.le_refl _) (.cells fourCells 130))
    replace hl := hS.2.2.1
    clear x3
    have x3 := hS.2.1.cells.2.2.2.2.1
    refine hK.out _ _ hl (fun _ => ?_)
    clear hK
    refine wpAnyH_ready (rs := [11]) (by kernel_rfl) (by simp) (AllReadyH.cons rfl (fun K hK => ?_) AllReadyH.nil)
    rw [if_pos (by rfl)]
    refine wp_append_lies _ _ _ 40 rfl 0 130 i0 (.agg zero20) 20 176 Tryz.underlying40 hi hz0 hz1 hz2 rfl (by decide) _ 1 lenCells.toList rfl (own_len hS.2.1.2.2.2.2) ⟨w4.heap.size, 0, none⟩ 1 1 fourCells.toList rfl rfl (World.news_of_block (cs := fourCells) (t := 130) (fr := (0, 0)) (heap_alloc_new w4 _)) four_one (by decide) (by unfold maxLen; omega) (by omega) (Nat.zero_le _) _ rfl ?_
    intro g2 cap w5 hown hg hat hlt5
    obtain ⟨hBf, cur, hf⟩ := hS.grown hBx hBp hown hg hat
    have hl5 : HasB w5 w.heap.size fourProp 39 := (hg.block _ hl.lt (fun e => absurd (Option.some.inj e) (show w.heap.size ≠ p by omega))).trans hl
    have hxs := hS.2.1.2.2.1.lt
    have c3 : w5.cell? ⟨x, 3, none⟩ = some (.slice (some ⟨p, 0, none⟩) 1 1) := (World.cell?_of_block (hg.block x hxs (by intro e; exact hpx (Option.some.inj e).symm))).trans x3
    have f3 : w5.frozen? ⟨x, 3, none⟩ = false := (World.frozen?_of_block (hg.block x hxs (by intro e; exact hpx (Option.some.inj e).symm))).trans (hS.2.1.2.2.1.free 3)
    refine hK.out _ _ hl5 (fun _ => ?_)
    clear hK hown hg hat hS hl x3
    simp [Act.put]
    refine wpAnyH_take (i := 12) (v := .pointer (some ⟨x, 0, none⟩)) rfl (by kernel_rfl) (by kernel_rfl) (by kernel_rfl) (fun _ _ _ h => h) (Or.inl ⟨by rfl, fun V hV => by go_simp⟩) hl5 ?_
    simp [Act.put]
    refine wpAnyH_take (i := 13) (v := .pointer (some ⟨x, 0, none⟩)) rfl (by kernel_rfl) (by kernel_rfl) (by kernel_rfl) (fun _ _ _ h => h) (Or.inl ⟨by rfl, fun V hV => by go_simp⟩) hl5 ?_
    simp [Act.put]
    refine wpAnyH_take (i := 14) (v := .pointer (some ⟨x, 3, none⟩)) rfl (by kernel_rfl) (by kernel_rfl) (by kernel_rfl) (fun _ _ _ h => h) (Or.inl ⟨by rfl, fun V hV => by go_simp⟩) hl5 ?_
    simp [Act.put]
    refine wpAnyH_ready (rs := [15]) (by kernel_rfl) (by simp) (AllReadyH.cons rfl (fun K hK => ?_) AllReadyH.nil)
    rw [if_pos (by rfl)]
    go_wp2_with fail
    refine hK.out _ _ (HasB.far hl5 (show w.heap.size ≠ x by omega) _) (fun _ => ?_)
    refine wpAnyH_done (by kernel_rfl) ?_ _
    refine then_gen (fun Y => Below B a Y ∧ ∃ cur, B ≤ g2 ∧ 40 ≤ cur.size ∧ (cur.toList.drop 1).take 19 = lenProp.toList ∧ cur[0]? = some (.string lenW) ∧ ArrG h g c x mp g2 b 2 cap #[ent0, ent1] 2 cur 3 Y) ⟨hBf, cur, hf⟩ ?_
    clear hK c3 f3 hl5 hBf hf
    rintro Y ⟨hY, cur, h1, h2, h3, h4, h5⟩
    go_wp2_with fail
    go_returns
    exact ⟨rfl, hY, g2, cap, cur, h1, h2, h3, h4, h5⟩
  · rw [if_pos (by rfl)]
    go_wp2_with (go_at_call 123; refine (prop_Full 0 false 0 ⟨#[]⟩ 0 true true true _).mono ?_; rintro e w4 ⟨rfl, k⟩)
    replace hS := hS.go k
    replace hl := hS.2.2.1
    clear k x3
    have x3 := hS.2.1.cells.2.2.2.2.1
    refine hK.out _ _ hl (fun _ => ?_)
    clear hK
    refine wpAnyH_take (i := 9) (v := .agg fourCells) rfl (by kernel_rfl) (by kernel_rfl) (by kernel_rfl) (fun _ _ _ h => h) (Or.inl ⟨by rfl, fun V hV => by go_simp⟩) hl ?_
    simp [Act.put]
    refine wpAnyH_ready (rs := [5, 10]) (by kernel_rfl) (by simp) (AllReadyH.cons rfl (fun K hK => ?_) (AllReadyH.cons rfl (fun K hK => ?_) AllReadyH.nil))
    · rw [if_pos (by rfl)]
      go_wp2_with fail
      refine hK.out _ _ hl (fun _ => ?_)
      clear hK
      refine wpAnyH_ready (rs := [10]) (by kernel_rfl) (by simp) (AllReadyH.cons rfl (fun K hK => ?_) AllReadyH.nil)
      rw [if_pos (by rfl)]
      go_wp2_with fail
      replace hS := hS.go (Below.alloc (Below.refl _ _) (Nat.le_refl _) (.cells fourCells 130))
      replace hl := hS.2.2.1
      clear x3
      have x3 := hS.2.1.cells.2.2.2.2.1
      refine hK.out _ _ hl (fun _ => ?_)
      clear hK
      refine wpAnyH_ready (rs := [11]) (by kernel_rfl) (by simp) (AllReadyH.cons rfl (fun K hK => ?_) AllReadyH.nil)
      rw [if_pos (by rfl)]
      refine wp_append_lies _ _ _ 40 rfl 0 130 i0 (.agg zero20) 20 176 Tryz.underlying40 hi hz0 hz1 hz2 rfl (by decide) _ 1 lenCells.toList rfl (own_len hS.2.1.2.2.2.2) ⟨w4.heap.size, 0, none⟩ 1 1 fourCells.toList rfl rfl (World.news_of_block (cs := fourCells) (t := 130) (fr := (0, 0)) (heap_alloc_new w4 _)) four_one (by decide) (by unfold maxLen; omega) (by omega) (Nat.zero_le _) _ rfl ?_
      intro g2 cap w5 hown hg hat hlt5
      obtain ⟨hBf, cur, hf⟩ := hS.grown hBx hBp hown hg hat
      have hl5 : HasB w5 w.heap.size fourProp 39 := (hg.block _ hl.lt (fun e => absurd (Option.some.inj e) (show w.heap.size ≠ p by omega))).trans hl
      have hxs := hS.2.1.2.2.1.lt
      have c3 : w5.cell? ⟨x, 3, none⟩ = some (.slice (some ⟨p, 0, none⟩) 1 1) := (World.cell?_of_block (hg.block x hxs (by intro e; exact hpx (Option.some.inj e).symm))).trans x3
      have f3 : w5.frozen? ⟨x, 3, none⟩ = false := (World.frozen?_of_block (hg.block x hxs (by intro e; exact hpx (Option.some.inj e).symm))).trans (hS.2.1.2.2.1.free 3)
      refine hK.out _ _ hl5 (fun _ => ?_)
      clear hK hown hg hat hS hl x3
      simp [Act.put]
      refine wpAnyH_take (i := 12) (v := .pointer (some ⟨x, 0, none⟩)) rfl (by kernel_rfl) (by kernel_rfl) (by kernel_rfl) (fun _ _ _ h => h) (Or.inl ⟨by rfl, fun V hV => by go_simp⟩) hl5 ?_
      simp [Act.put]
      refine wpAnyH_take (i := 13) (v := .pointer (some ⟨x, 0, none⟩)) rfl (by kernel_rfl) (by kernel_rfl) (by kernel_rfl) (fun _ _ _ h => h) (Or.inl ⟨by rfl, fun V hV => by go_simp⟩) hl5 ?_
      simp [Act.put]
      refine wpAnyH_take (i := 14) (v := .pointer (some ⟨x, 3, none⟩)) rfl (by kernel_rfl) (by kernel_rfl) (by kernel_rfl) (fun _ _ _ h => h) (Or.inl ⟨by rfl, fun V hV => by go_simp⟩) hl5 ?_
      simp [Act.put]
      refine wpAnyH_ready (rs := [15]) (by kernel_rfl) (by simp) (AllReadyH.cons rfl (fun K hK => ?_) AllReadyH.nil)
      rw [if_pos (by rfl)]
      go_wp2_with fail
      refine hK.out _ _ (HasB.far hl5 (show w.heap.size ≠ x by omega) _) (fun _ => ?_)
      refine wpAnyH_done (by kernel_rfl) ?_ _
      refine then_gen (fun Y => Below B a Y ∧ ∃ cur, B ≤ g2 ∧ 40 ≤ cur.size ∧ (cur.toList.drop 1).take 19 = lenProp.toList ∧ cur[0]? = some (.string lenW) ∧ ArrG h g c x mp g2 b 2 cap #[ent0, ent1] 2 cur 3 Y) ⟨hBf, cur, hf⟩ ?_
      clear hK c3 f3 hl5 hBf hf
      rintro Y ⟨hY, cur, h1, h2, h3, h4, h5⟩
      go_wp2_with fail
      go_returns
      exact ⟨rfl, hY, g2, cap, cur, h1, h2, h3, h4, h5⟩
    · rw [if_pos (by rfl)]
      go_wp2_with fail
      replace hS := hS.go (Below.alloc (Below.refl _ _) (Nat.le_refl _) (.cells fourCells 130))
      replace hl := hS.2.2.1
      clear x3
      have x3 := hS.2.1.cells.2.2.2.2.1
      refine hK.out _ _ hl (fun _ => ?_)
      clear hK
      refine wpAnyH_ready (rs := [5]) (by kernel_rfl) (by simp) (AllReadyH.cons rfl (fun K hK => ?_) AllReadyH.nil)
      rw [if_pos (by rfl)]
      go_wp2_with fail
      refine hK.out _ _ hl (fun _ => ?_)
      clear hK
      refine wpAnyH_ready (rs := [11]) (by kernel_rfl) (by simp) (AllReadyH.cons rfl (fun K hK => ?_) AllReadyH.nil)
      rw [if_pos (by rfl)]
      refine wp_append_lies _ _ _ 40 rfl 0 130 i0 (.agg zero20) 20 176 Tryz.underlying40 hi hz0 hz1 hz2 rfl (by decide) _ 1 lenCells.toList rfl (own_len hS.2.1.2.2.2.2) ⟨w4.heap.size, 0, none⟩ 1 1 fourCells.toList rfl rfl (World.news_of_block (cs := fourCells) (t := 130) (fr := (0, 0)) (heap_alloc_new w4 _)) four_one (by decide) (by unfold maxLen; omega) (by omega) (Nat.zero_le _) _ rfl ?_
      intro g2 cap w5 hown hg hat hlt5
      obtain ⟨hBf, cur, hf⟩ := hS.grown hBx hBp hown hg hat
      have hl5 : HasB w5 w.heap.size fourProp 39 := (hg.block _ hl.lt (fun e => absurd (Option.some.inj e) (show w.heap.size ≠ p by omega))).trans hl
      have hxs := hS.2.1.2.2.1.lt
      have c3 : w5.cell? ⟨x, 3, none⟩ = some (.slice (some ⟨p, 0, none⟩) 1 1) := (World.cell?_of_block (hg.block x hxs (by intro e; exact hpx (Option.some.inj e).symm))).trans x3
      have f3 : w5.frozen? ⟨x, 3, none⟩ = false := (World.frozen?_of_block (hg.block x hxs (by intro e; exact hpx (Option.some.inj e).symm))).trans (hS.2.1.2.2.1.free 3)
      refine hK.out _ _ hl5 (fun _ => ?_)
      clear hK hown hg hat hS hl x3
      simp [Act.put]
      refine wpAnyH_take (i := 12) (v := .pointer (some ⟨x, 0, none⟩)) rfl (by kernel_rfl) (by kernel_rfl) (by kernel_rfl) (fun _ _ _ h => h) (Or.inl ⟨by rfl, fun V hV => by go_simp⟩) hl5 ?_
      simp [Act.put]
      refine wpAnyH_take (i := 13) (v := .pointer (some ⟨x, 0, none⟩)) rfl (by kernel_rfl) (by kernel_rfl) (by kernel_rfl) (fun _ _ _ h => h) (Or.inl ⟨by rfl, fun V hV => by go_simp⟩) hl5 ?_
      simp [Act.put]
      refine wpAnyH_take (i := 14) (v := .pointer (some ⟨x, 3, none⟩)) rfl (by kernel_rfl) (by kernel_rfl) (by kernel_rfl) (fun _ _ _ h => h) (Or.inl ⟨by rfl, fun V hV => by go_simp⟩) hl5 ?_
      simp [Act.put]
      refine wpAnyH_ready (rs := [15]) (by kernel_rfl) (by simp) (AllReadyH.cons rfl (fun K hK => ?_) AllReadyH.nil)
      rw [if_pos (by rfl)]
      go_wp2_with fail
      refine hK.out _ _ (HasB.far hl5 (show w.heap.size ≠ x by omega) _) (fun _ => ?_)
      refine wpAnyH_done (by kernel_rfl) ?_ _
      refine then_gen (fun Y => Below B a Y ∧ ∃ cur, B ≤ g2 ∧ 40 ≤ cur.size ∧ (cur.toList.drop 1).take 19 = lenProp.toList ∧ cur[0]? = some (.string lenW) ∧ ArrG h g c x mp g2 b 2 cap #[ent0, ent1] 2 cur 3 Y) ⟨hBf, cur, hf⟩ ?_
      clear hK c3 f3 hl5 hBf hf
      rintro Y ⟨hY, cur, h1, h2, h3, h4, h5⟩
      go_wp2_with fail
      go_returns
      exact ⟨rfl, hY, g2, cap, cur, h1, h2, h3, h4, h5⟩
end Go.Proofs.YthdccijielekcaaGreatDoor
