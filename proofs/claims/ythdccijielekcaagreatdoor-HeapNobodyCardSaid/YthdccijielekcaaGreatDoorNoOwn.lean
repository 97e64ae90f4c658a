/-
  The law's array, as the heap takes it for its own. Condition: its table lies in memory.
-/
import Derived.Test.YthdccijielekcaaGreatDoorNoMay
namespace Go.Proofs.YthdccijielekcaaGreatDoor
open Go.RowKit

abbrev zero20 : Array Value := #[.string ⟨#[]⟩, .int .i64 0, .int .i64 0, .bool false, .float .f64 0, .string ⟨#[]⟩, .int .i64 0, .int .i64 0, .bool false, .float .f64 0, .string ⟨#[]⟩, .int .i64 0, .int .i64 0, .bool false, .float .f64 0, .string ⟨#[]⟩, .int .i64 0, .bool false, .bool false, .bool false]
abbrev arrOwn (p b : Nat) : Array Value := #[.int .i64 3, .int .i64 (-1), .bool false, .slice (some ⟨p, 0, none⟩) 1 1, .int .i64 0, .bool false, .float .f64 0, .string ⟨#[]⟩, .int .i64 0, .int .i64 0, .int .i64 0, .int .i64 0, .slice (some ⟨b, 0, none⟩) 0 0]
theorem run_copy_keyed {w : World} {b s c : Nat} {cur cs : Array Value} (hb : HasB w b cur 130) (hs : HasB w s cs 130) (hsz : cs.size = 20) (hcur : cur.size = 20) (h1 : ∀ v ∈ cs.toList, v.oneCell' = true) :
    (Builtin.copy_ #[40, 40] 3 #[.slice (some ⟨b, 0, none⟩) 1 1, .slice (some ⟨s, 0, none⟩) 1 c]).run Tryz.prog w = .ok (.int .i64 1) (w.setCells b 0 cs.toList) := by
  have hl := run_loadCells_list (P := Tryz.prog) w ⟨s, 0, none⟩ cs.toList (fun j v hv => by rw [Addr.add_mid]; exact hs.rangeAt j v hv)
  have hth := hb.there
  have hst := run_storeCells_cells (P := Tryz.prog) b 0 cs.toList 0 w (fun j hj => by simpa using (hth j (by simp at hj; omega)).1) (fun j hj => by simpa using (hth j (by simp at hj; omega)).2) h1
  have hq0 : (Tryz.prog.info? 130).map (·.size) = some 20 := by kernel_rfl
  have hlen : cs.toList.length = 20 := by simpa using hsz
  rw [hlen] at hl
  cases hq : Tryz.prog.info? 130 with
  | none => simp [hq] at hq0
  | some i =>
    have hi : i.size = 20 := by simpa [hq] using hq0
    simp [Builtin.copy_, run_underlying Tryz.underlying40, Builtin.lenOf, Builtin.firstCells, sizeOf, typeInfo, hq, hi, hl, hst, goInt]

def OwnS (w : World) (pb : Nat) (W : World) : Prop := Below w.heap.size w W ∧ HasB W pb lenCells 130 ∧ HasB W w.heap.size (arrObj pb) 43 ∧ HasB W (w.heap.size + 1) zero13 43
theorem OwnS.go {w : World} {pb : Nat} {W W' : World} (h : OwnS w pb W) (k : Below W.heap.size W W') : OwnS w pb W' :=
  ⟨below_via k h.1 h.1.size, h.2.1.below k, h.2.2.1.below k, h.2.2.2.below k⟩
theorem OwnS.cells {w : World} {pb : Nat} {W : World} (h : OwnS w pb W) : W.cell? ⟨w.heap.size, 3, none⟩ = some (.slice (some ⟨pb, 0, none⟩) 1 1) ∧ W.cell? ⟨w.heap.size, 12, none⟩ = some (.slice none 0 0) := ⟨h.2.2.1.cell 3, h.2.2.1.cell 12⟩
theorem OwnS.drew {w : World} {pb : Nat} {W : World} (h : OwnS w pb W) : OwnS w pb W.drew := ⟨Below.drew h.1, h.2⟩
theorem OwnS.put {w : World} {pb p : Nat} {W : World} (h : OwnS w pb W) (hp : w.heap.size + 2 ≤ p) (hl : pb < w.heap.size) (vs : List Value) : OwnS w pb (W.setCells p 0 vs) :=
  ⟨below_puts (by omega) _ _ h.1, h.2.1.offPut (by omega) _ _, h.2.2.1.offPut (by omega) _ _, h.2.2.2.offPut (by omega) _ _⟩
theorem len_one : ∀ v ∈ lenCells.toList, v.oneCell' = true := List.all_eq_true.1 (by kernel_rfl)
theorem OwnS.copy {w : World} {pb p : Nat} {X : World} (h : OwnS w pb X) (hZ : HasB X p zero20 130) (hp : w.heap.size + 2 ≤ p) (hl : pb < w.heap.size) :
    ∃ X2, (Builtin.copy_ #[40, 40] 3 #[.slice (some ⟨p, 0, none⟩) 1 1, .slice (some ⟨pb, 0, none⟩) 1 1]).run Tryz.prog X = .ok (.int .i64 1) X2 ∧ OwnS w pb X2 ∧ HasB X2 p lenCells 130 :=
  ⟨_, run_copy_keyed hZ h.2.1 rfl rfl len_one, h.put hp hl _, hZ.putAll lenCells rfl⟩
theorem HasB.own {X : World} {n pb : Nat} (h : HasB X n (arrObj pb) 43) (vp vb : Value) : HasB ((X.setCell ⟨n, 3, none⟩ vp).setCell ⟨n, 12, none⟩ vb) n #[.int .i64 3, .int .i64 (-1), .bool false, vp, .int .i64 0, .bool false, .float .f64 0, .string ⟨#[]⟩, .int .i64 0, .int .i64 0, .int .i64 0, .int .i64 0, vb] 43 := by
  have h := HasB.set (HasB.set h 3 vp) 12 vb
  simp at h
  exact h
theorem HasB.off2w {X : World} {n c : Nat} {cs : Array Value} {t : TypeId} (h : HasB X c cs t) (hne : c ≠ n) (vp vb : Value) : HasB ((X.setCell ⟨n, 3, none⟩ vp).setCell ⟨n, 12, none⟩ vb) c cs t := HasB.far (HasB.far h hne _) hne _
/-- What came back: its table anew, alike. -/
def OwnQ (w : World) (e : Ending) (w' : World) : Prop := ∃ p b, e = .returned (.agg (arrOwn p b)) ∧ w.heap.size ≤ p ∧ HasB w' p lenCells 130 ∧ Below w.heap.size w w'
set_option maxHeartbeats 4000000 in
set_option maxRecDepth 100000 in
theorem heap_own3 (pb : Nat) (w : World) (hp : HasB w pb lenCells 130) : Calls Tryz.prog 55 #[.agg (arrObj pb)] w (OwnQ w) := by
  have hmk : ∀ w : World, (Instr.makeSlice 40 (.int .i64 1) (.int .i64 1)).run Tryz.prog w = .ok (.slice (some ⟨w.heap.size, 0, none⟩) 1 1) (w.alloc (.cells zero20 130)) := fun _ => by kernel_rfl
  have hmv : ∀ w : World, (Instr.makeSlice 41 (.int .i64 0) (.int .i64 0)).run Tryz.prog w = .ok (.slice (some ⟨w.heap.size, 0, none⟩) 0 0) (w.alloc (.cells #[] 31)) := fun _ => by kernel_rfl
  have hc2 : ∀ (b : Nat) (w : World), (Builtin.copy_ #[41, 41] 3 #[.slice (some ⟨b, 0, none⟩) 0 0, .slice none 0 0]).run Tryz.prog w = .ok (.int .i64 0) w := fun _ _ => by kernel_rfl
  go_enter Tryz.func55, Tryz.ntmps55
  go_upto_region 1 with (fail)
  refine wp_gen (fun W => OwnS w pb W) ?_ ?_
  · exact ⟨by go_grown, (hp.alloc _).alloc _, (HasB.newAt rfl).alloc _, HasB.newAt (by simp)⟩
  intro W hS
  have hlt := hp.lt
  clear hp
  obtain ⟨q3, q12⟩ := hS.cells
  go_region_held3 (fun V => (V.cell? ⟨w.heap.size, 3, none⟩ = some (.slice (some ⟨pb, 0, none⟩) 1 1) ∧ V.cell? ⟨w.heap.size, 12, none⟩ = some (.slice none 0 0)) ∧ OwnS w pb V)
    (first
      | exact ⟨⟨q3, q12⟩, hS.drew⟩
      | exact (fun h => ⟨OwnS.cells h, h⟩) (OwnS.go (And.right ‹_ ∧ OwnS _ _ _›) (Below.alloc (Below.refl _ _) (Nat.le_refl _) _)))
    (fail)
  · refine then_gen (fun X => OwnS w pb X ∧ HasB X W.heap.size zero20 130 ∧ w.heap.size + 2 ≤ W.heap.size) ⟨And.right ‹_ ∧ OwnS _ _ _›, ((HasB.new W _ _).alloc _).drew, hS.2.2.2.lt⟩ ?_
    clear q3 q12 hS
    rename_i hHeld
    clear hHeld
    rintro X ⟨hX, hZ, hge⟩
    obtain ⟨X2, hcp, hX2, hZ2⟩ := hX.copy hZ hge hlt
    obtain ⟨q3, q12⟩ := hX.cells
    obtain ⟨r3, r12⟩ := hX2.cells
    have rf := hX2.2.2.1.free
    have HX := Lib.hid hX2
    have HZ := Lib.hid hZ2
    clear hX hZ hX2 hZ2
    go_upto_region 5 with (fail)
    refine wp_gen (fun Y => Below w.heap.size w Y ∧ HasB Y w.heap.size (arrOwn (W.heap.size) (W.heap.size + 1)) 43 ∧ HasB Y (w.heap.size + 1) zero13 43 ∧ HasB Y (W.heap.size) lenCells 130) ?_ ?_
    · exact ⟨Below.setCell (Below.setCell HX.out.1 (Nat.le_refl _) _) (Nat.le_refl _) _, HasB.own HX.out.2.2.1 _ _, HasB.off2w HX.out.2.2.2 (by omega) _ _, HasB.off2w HZ.out (by omega) _ _⟩
    clear hcp q3 q12 r3 r12 rf HX HZ
    rintro Y ⟨hY, h1, h2, h3⟩
    go_wp2_with (first
      | ((with_reducible refine at_load 43 ?_); refine wpList_loadB h1 _ rfl rfl rfl rfl rfl (by kernel_rfl) ?_)
      | ((with_reducible refine at_store 43 ?_); refine wpList_storeB h2 (arrOwn (W.heap.size) (W.heap.size + 1)) rfl rfl rfl rfl rfl (by kernel_rfl) (by kernel_rfl) ?_; intro Z h4 hk hoff; have HBZ := hk _ _ (Nat.le_succ _) hY; have h3Z := hoff _ _ _ (by omega) h3; clear hk hoff h3 hY))
    have hl := fun ty d hu hd hi => HasB.loads (P := Tryz.prog) (ty := ty) h4 d hu hd hi
    replace hl := hl 43 _ rfl rfl (by kernel_rfl)
    exact bodyPost_ret (results_cell rfl rfl hl) rfl ⟨_, _, rfl, by omega, h3Z, HBZ⟩
  · refine then_gen (fun X => OwnS w pb X ∧ HasB X (W.heap.size + 1) zero20 130 ∧ w.heap.size + 2 ≤ W.heap.size) ⟨And.right ‹_ ∧ OwnS _ _ _›, (HasB.newAt (by simp)).drew, hS.2.2.2.lt⟩ ?_
    clear q3 q12 hS
    rename_i hHeld
    clear hHeld
    rintro X ⟨hX, hZ, hge0⟩
    have hge : w.heap.size + 2 ≤ W.heap.size + 1 := by omega
    obtain ⟨X2, hcp, hX2, hZ2⟩ := hX.copy hZ hge hlt
    obtain ⟨q3, q12⟩ := hX.cells
    obtain ⟨r3, r12⟩ := hX2.cells
    have rf := hX2.2.2.1.free
    have HX := Lib.hid hX2
    have HZ := Lib.hid hZ2
    clear hX hZ hX2 hZ2
    go_upto_region 5 with (fail)
    refine wp_gen (fun Y => Below w.heap.size w Y ∧ HasB Y w.heap.size (arrOwn (W.heap.size + 1) (W.heap.size)) 43 ∧ HasB Y (w.heap.size + 1) zero13 43 ∧ HasB Y (W.heap.size + 1) lenCells 130) ?_ ?_
    · exact ⟨Below.setCell (Below.setCell HX.out.1 (Nat.le_refl _) _) (Nat.le_refl _) _, HasB.own HX.out.2.2.1 _ _, HasB.off2w HX.out.2.2.2 (by omega) _ _, HasB.off2w HZ.out (by omega) _ _⟩
    clear hcp q3 q12 r3 r12 rf HX HZ
    rintro Y ⟨hY, h1, h2, h3⟩
    go_wp2_with (first
      | ((with_reducible refine at_load 43 ?_); refine wpList_loadB h1 _ rfl rfl rfl rfl rfl (by kernel_rfl) ?_)
      | ((with_reducible refine at_store 43 ?_); refine wpList_storeB h2 (arrOwn (W.heap.size + 1) (W.heap.size)) rfl rfl rfl rfl rfl (by kernel_rfl) (by kernel_rfl) ?_; intro Z h4 hk hoff; have HBZ := hk _ _ (Nat.le_succ _) hY; have h3Z := hoff _ _ _ (by omega) h3; clear hk hoff h3 hY))
    have hl := fun ty d hu hd hi => HasB.loads (P := Tryz.prog) (ty := ty) h4 d hu hd hi
    replace hl := hl 43 _ rfl rfl (by kernel_rfl)
    exact bodyPost_ret (results_cell rfl rfl hl) rfl ⟨_, _, rfl, by omega, h3Z, HBZ⟩
end Go.Proofs.YthdccijielekcaaGreatDoor
