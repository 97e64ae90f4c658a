/-
  The heap keeps the law's array, as its first object. Conditions: the heap is new, with room for nine cells; the array's table lies in memory.
-/
import Derived.Test.YthdccijielekcaaGreatDoorNoOwn
import Derived.Test.YthdccijielekcaaGreatDoorHeapAlloc
namespace Go.Proofs.YthdccijielekcaaGreatDoor
open Go.RowKit

def MapIs (w : World) (mp : Nat) (es : Array MapEntry) (c : Nat) : Prop := w.heap[mp]? = some (.map es c)
theorem MapIs.lt {w : World} {mp : Nat} {es : Array MapEntry} {c : Nat} (h : MapIs w mp es c) : mp < w.heap.size := (Array.getElem?_eq_some_iff.1 h).1
theorem MapIs.below {w w' : World} {mp : Nat} {es : Array MapEntry} {c : Nat} (h : MapIs w mp es c) (k : Below w.heap.size w w') : MapIs w' mp es c := (k.block _ h.lt).trans h
theorem MapIs.but {h0 : Nat} {w w' : World} {mp : Nat} {es : Array MapEntry} {c : Nat} (h : MapIs w mp es c) (k : But h0 w w') (hne : mp ≠ h0) : MapIs w' mp es c := (k.block _ h.lt hne).trans h
theorem MapIs.alloc {w : World} {mp : Nat} {es : Array MapEntry} {c : Nat} (h : MapIs w mp es c) (o : Obj) : MapIs (w.alloc o) mp es c := (Below.heap_alloc w o mp h.lt).trans h
theorem MapIs.set {w : World} {mp : Nat} {es : Array MapEntry} {c : Nat} (h : MapIs w mp es c) (a : Addr) (v : Value) (hne : mp ≠ a.block) : MapIs (w.setCell a v) mp es c := (Below.heap_setCell w a v mp hne).trans h
theorem MapIs.drew {w : World} {mp : Nat} {es : Array MapEntry} {c : Nat} (h : MapIs w mp es c) : MapIs w.drew mp es c := h

abbrev arrCell (p b mp : Nat) : Array Value := #[.int .i64 3, .int .i64 (-1), .bool false, .slice (some ⟨p, 0, none⟩) 1 1, .int .i64 0, .bool false, .float .f64 0, .string ⟨#[]⟩, .int .i64 0, .int .i64 0, .int .i64 0, .int .i64 0, .slice (some ⟨b, 0, none⟩) 0 0, .map (some mp)]
/-- The heap has one array. -/
def ArrIn (w : World) (h B : Nat) (used : Int) : Prop :=
  ∃ g c x mp p b, B ≤ g ∧ B ≤ x ∧ B ≤ p ∧ B ≤ mp ∧ HeapAt w h (.slice (some ⟨g, 0, none⟩) 1 c) 9 used ∧ (w.cell? ⟨g, 0, none⟩ = some (.pointer (some ⟨x, 0, none⟩)) ∧ w.frozen? ⟨g, 0, none⟩ = false) ∧
    HasB w x (arrCell p b mp) 114 ∧ MapIs w mp #[ent0] 1 ∧ HasB w p lenCells 130

theorem Heap_Take2 (h : Nat) (l : Value) (w : World) (H : HeapAt w h l 9 0) :
    Calls Tryz.prog 25 #[.pointer (some ⟨h, 0, none⟩), .int .i64 2] w fun e w' => e = .returned (.bool true) ∧ HeapAt w' h l 9 2 ∧ But h w w' := by
  have hB := But.refl h w
  have HI := fun w H => Heap_is h l 9 0 w H
  obtain ⟨q0, q1, q2, q3, qf⟩ := HasB.four H
  go_enter Tryz.func25, Tryz.ntmps25
  go_wp2_with fail
  go_region_held3 (fun w' => (w'.cell? ⟨h, 1, none⟩ = some (.int .i64 9) ∧ w'.cell? ⟨h, 2, none⟩ = some (.int .i64 0)) ∧ HeapAt w' h l 9 0 ∧ But h w w')
    (first | (refine ⟨⟨?_, ?_⟩, ?_, ?_⟩ <;> first | exact q1 | exact q2 | exact hB.drew | exact H.drew) | (go_split_ands; refine ⟨⟨?_, ?_⟩, ?_, ?_⟩ <;> assumption))
    (first | (go_at_call 53; refine (HI _ ‹HeapAt _ h l 9 0›).mono ?_; rintro e w' ⟨rfl, rfl⟩))
  go_wp2_with fail
  go_ret
  exact ⟨rfl, (H.set 2 _).drew, (hB.set _ _ (.inl rfl)).drew⟩

def AllocS (w : World) (h pb : Nat) (V : World) : Prop := HasB V w.heap.size (arrObj pb) 43 ∧ HeapAt V h (.slice none 0 0) 9 0 ∧ But h w V ∧ HasB V pb lenCells 130
theorem AllocS.go {w : World} {h pb : Nat} {V V' : World} (x : AllocS w h pb V) (k : Below V.heap.size V V') : AllocS w h pb V' := ⟨x.1.below k, HasB.below x.2.1 k, x.2.2.1.trans (But.of k), x.2.2.2.below k⟩
theorem AllocS.drew {w : World} {h pb : Nat} {V : World} (x : AllocS w h pb V) : AllocS w h pb V.drew := ⟨x.1, x.2.1, x.2.2.1.drew, x.2.2.2⟩
theorem AllocS.cells {w : World} {h pb : Nat} {V : World} (x : AllocS w h pb V) : V.cell? ⟨w.heap.size, 0, none⟩ = some (.int .i64 3) ∧ V.cell? ⟨w.heap.size, 1, none⟩ = some (.int .i64 (-1)) ∧ V.cell? ⟨w.heap.size, 2, none⟩ = some (.bool false) ∧ V.cell? ⟨w.heap.size, 3, none⟩ = some (.slice (some ⟨pb, 0, none⟩) 1 1) ∧ V.cell? ⟨w.heap.size, 4, none⟩ = some (.int .i64 0) ∧ V.cell? ⟨w.heap.size, 5, none⟩ = some (.bool false) ∧ V.cell? ⟨w.heap.size, 6, none⟩ = some (.float .f64 0) ∧ V.cell? ⟨w.heap.size, 7, none⟩ = some (.string ⟨#[]⟩) ∧ V.cell? ⟨w.heap.size, 8, none⟩ = some (.int .i64 0) ∧ V.cell? ⟨w.heap.size, 9, none⟩ = some (.int .i64 0) ∧ V.cell? ⟨w.heap.size, 10, none⟩ = some (.int .i64 0) ∧ V.cell? ⟨w.heap.size, 11, none⟩ = some (.int .i64 0) ∧ V.cell? ⟨w.heap.size, 12, none⟩ = some (.slice none 0 0) ∧ V.cell? ⟨h, 0, none⟩ = some (.slice none 0 0) :=
  ⟨x.1.cell 0, x.1.cell 1, x.1.cell 2, x.1.cell 3, x.1.cell 4, x.1.cell 5, x.1.cell 6, x.1.cell 7, x.1.cell 8, x.1.cell 9, x.1.cell 10, x.1.cell 11, x.1.cell 12, HasB.cell x.2.1 0⟩
set_option maxHeartbeats 4000000 in
set_option maxRecDepth 100000 in
theorem Heap_Alloc3 (h pb : Nat) (w : World) (H : HeapAt w h (.slice none 0 0) 9 0) (hp : HasB w pb lenCells 130) :
    Calls Tryz.prog 13 #[.pointer (some ⟨h, 0, none⟩), .agg (arrObj pb)] w fun e w' => e = .returned (.tuple #[.int .i64 0, .int .i64 0]) ∧ ArrIn w' h w.heap.size 2 ∧ But h w w' := by
  obtain ⟨i0, hi, hz0, hz1, hz2⟩ := info_parts info_cellp
  have hlt := HasB.lt H
  have hph : pb ≠ h := by
    rintro rfl
    have h1 := hp.cell 0
    rw [HasB.cell H 0] at h1
    cases h1
  have HI := fun w H => Heap_is h (.slice none 0 0) 9 0 w H
  go_enter Tryz.func13, Tryz.ntmps13
  go_upto_region 1 with (fail)
  refine wp_gen (fun V => AllocS w h pb V) ?_ ?_
  · exact ⟨HasB.newAt rfl, HasB.alloc H _, (But.refl h w).alloc _, hp.alloc _⟩
  intro V hS
  have hVs : w.heap.size ≤ V.heap.size := hS.2.2.1.size
  clear H hp
  go_upto_region 3 with (go_at_call 53; refine (HI _ hS.2.1).mono ?_; rintro e w' ⟨rfl, rfl⟩)
  obtain ⟨p0, p1, p2, p3, p4, p5, p6, p7, p8, p9, p10, p11, p12, r0⟩ := hS.cells
  go_region_held3 (fun X => (X.cell? ⟨w.heap.size, 0, none⟩ = some (.int .i64 3) ∧ X.cell? ⟨w.heap.size, 1, none⟩ = some (.int .i64 (-1)) ∧ X.cell? ⟨w.heap.size, 2, none⟩ = some (.bool false) ∧ X.cell? ⟨w.heap.size, 3, none⟩ = some (.slice (some ⟨pb, 0, none⟩) 1 1) ∧ X.cell? ⟨w.heap.size, 4, none⟩ = some (.int .i64 0) ∧ X.cell? ⟨w.heap.size, 5, none⟩ = some (.bool false) ∧ X.cell? ⟨w.heap.size, 6, none⟩ = some (.float .f64 0) ∧ X.cell? ⟨w.heap.size, 7, none⟩ = some (.string ⟨#[]⟩) ∧ X.cell? ⟨w.heap.size, 8, none⟩ = some (.int .i64 0) ∧ X.cell? ⟨w.heap.size, 9, none⟩ = some (.int .i64 0) ∧ X.cell? ⟨w.heap.size, 10, none⟩ = some (.int .i64 0) ∧ X.cell? ⟨w.heap.size, 11, none⟩ = some (.int .i64 0) ∧ X.cell? ⟨w.heap.size, 12, none⟩ = some (.slice none 0 0) ∧ X.cell? ⟨h, 0, none⟩ = some (.slice none 0 0)) ∧ AllocS w h pb X)
    (first
      | exact ⟨⟨p0, p1, p2, p3, p4, p5, p6, p7, p8, p9, p10, p11, p12, r0⟩, hS.drew⟩
      | exact (fun h => ⟨AllocS.cells h, h⟩) (AllocS.go (And.right ‹_ ∧ AllocS _ _ _ _›) (by assumption)))
    (first | (go_at_call 54; refine (heap_may1 pb _ (And.right ‹_ ∧ AllocS _ _ _ _›).2.2.2).mono ?_; rintro e w1 ⟨mp, rfl, hmp, hmpl, hb⟩))
  rename_i hH
  replace hS := hH.2
  clear p0 p1 p2 p3 p4 p5 p6 p7 p8 p9 p10 p11 p12 r0 hH HI
  have hge : w.heap.size ≤ mp := Nat.le_trans hVs hmpl
  have hm1 : MapIs w1 mp #[ent0] 1 := hmp
  clear hmp hmpl hb hVs
  have q3 := hS.1.cell 3
  go_wp2_with (go_at_call 25; refine (Heap_Take2 h _ w1 hS.2.1).mono ?_; rintro e w2 ⟨rfl, hH2, hB2⟩)
  have HO2 := hB2.hasB hS.1 (by omega)
  have hT2 := hB2.hasB hS.2.2.2 hph
  have hM2 := hm1.but hB2 (by omega)
  have hB := hS.2.2.1.trans hB2
  have hl2 := HO2.lt
  clear q3 hS hm1 hB2
  obtain ⟨⟨p0, p1, p2, p3, p4, p5, p6⟩, p7, p8, p9, p10, p11, p12, pf⟩ := HO2.obj
  obtain ⟨r0, r1, r2, r3, rf⟩ := HasB.four hH2
  have hnc : Builtin.nextslicecap 1 0 * Tryz.t111.bytes = 8 := by kernel_rfl
  go_wp2_with fail
  go_region_law (go_simp; go_at_call 55; refine (heap_own3 pb _ (HasB.drew hT2)).mono ?_; rintro e w3 ⟨p, b, rfl, hpge, hpt, k⟩; have hpge2 : w2.heap.size ≤ p := hpge; have hM3 := MapIs.below (MapIs.drew hM2) k; have k2 : w2.heap.size ≤ w3.heap.size := k.size; have hH3 : HeapAt w3 h (.slice none 0 0) 9 2 := HasB.below (HasB.drew hH2) k; have r0' := below_keep k r0; have rf3 := HasB.free hH3; have hh3 := HasB.lt hH3; have hh4 : h < w3.heap.size + 1 := (by omega); have hh5 : h < w3.heap.size + 1 + 1 := (by omega); have hn3 : ¬ h = w3.heap.size := (by omega); have hn4 : ¬ h = w3.heap.size + 1 := (by omega); have hn5 : ¬ h = w3.heap.size + 1 + 1 := (by omega))
  all_goals (clear hH2 HO2 hT2 hM2)
  all_goals go_wp2_with fail
  all_goals
    go_returns
    refine ⟨rfl, ⟨w3.heap.size + 1 + 1, (Question.appendCap 1 0 111).cut (w3.tape w3.drawn (Question.appendCap 1 0 111)), w3.heap.size, mp, p, b, by omega, by omega, by omega, hge, ?_, ?_, ?_, ?_, ?_⟩, ?_⟩
    · exact HasB.drew (HasB.alloc (HasB.alloc (HasB.alloc (put0 hH3 _) _) _) _)
    · exact ⟨(HasB.cell (HasB.drew (HasB.new3 (by simp))) 0).trans (first_app _ _), HasB.free (HasB.drew (HasB.new3 (by simp))) 0⟩
    · exact HasB.drew (HasB.alloc (HasB.alloc (HasB.newSet _ _ _) _) _)
    · exact MapIs.drew (MapIs.alloc (MapIs.alloc (MapIs.alloc (MapIs.set hM3 _ _ (show mp ≠ h by omega)) _) _) _)
    · exact HasB.drew (HasB.alloc (HasB.alloc (HasB.alloc (HasB.far hpt (show p ≠ h by omega) _) _) _) _)
    · exact But.drew (But.alloc (But.alloc (But.alloc (But.set (hB.drew.trans (But.of k)) _ _ (.inl rfl)) _) _) _)
end Go.Proofs.YthdccijielekcaaGreatDoor
