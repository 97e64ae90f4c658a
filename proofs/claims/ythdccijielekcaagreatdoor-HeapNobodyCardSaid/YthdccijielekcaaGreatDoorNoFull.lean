/-
  A data property made full is itself; it is full. Condition: its value passes value.Check.
-/
import Derived.Test.YthdccijielekcaaGreatDoorNoCheck
import Derived.Deep.RegionHeld3
namespace Go.Proofs.YthdccijielekcaaGreatDoor
open Go.RowKit

theorem or57_9 : bits .or .i64 57 9 = 57 := by kernel_rfl
theorem or57_48 : bits .or .i64 57 48 = 57 := by kernel_rfl
attribute [local go_sem] or57_9 or57_48
theorem HasB.again57 {w : World} {b : Nat} {l : List Value} {t : TypeId} (h : HasB w b ⟨.int .i64 57 :: l⟩ t) : HasB (w.setCell ⟨b, 0, none⟩ (.int .i64 57)) b ⟨.int .i64 57 :: l⟩ t := by
  have h := HasB.set h 0 (.int .i64 57)
  simpa using h
set_option maxHeartbeats 1000000 in
set_option maxRecDepth 100000 in
theorem prop_Full (k : Int) (b : Bool) (n : Nat) (s : ByteArray) (o : Int) (wr en co : Bool) (w : World) :
    Calls Tryz.prog 123 #[.agg (dataProp k b n s o wr en co)] w fun e w' => e = .returned (.agg (dataProp k b n s o wr en co)) ∧ Below w.heap.size w w' := by
  go_enter Tryz.func123, Tryz.ntmps123
  go_upto_region 1 with (fail)
  refine wp_gen (fun W => Below w.heap.size w W ∧ HasB W w.heap.size (dataProp k b n s o wr en co) 39 ∧ HasB W (w.heap.size + 1) cells0 39) ?_ ?_
  · exact ⟨by go_grown, (HasB.newAt rfl).alloc _, HasB.newAt (by simp)⟩
  rintro W ⟨hb, h1, h2⟩
  have HB := Lib.hid hb
  have H1 := Lib.hid h1
  have H2 := Lib.hid h2
  clear hb h1 h2
  go_upto_region 3 with (first
    | ((with_reducible refine at_load 39 ?_); refine wpList_loadB H1.out _ rfl rfl rfl rfl rfl (by kernel_rfl) ?_)
    | (go_at_call 70; (with_reducible refine (prop_Accessor _ _ _ _ _ _ _ _ _ _ _ _ _ _ _ _ _ _ _).mono ?_); rintro e w' ⟨rfl, k⟩; have h1' := H1.out.below k; have h2' := H2.out.below k; have hb' := below_via k HB.out HB.out.size))
  have q0 := h1'.cell 0
  have qf := h1'.free
  have hlt := h1'.lt
  have HB' := Lib.hid hb'
  have H1' := Lib.hid h1'
  have H2' := Lib.hid h2'
  clear k hb' h1' h2' HB H1 H2
  go_upto_region 5 with (fail)
  refine wp_gen (fun W => Below w.heap.size w W ∧ HasB W w.heap.size (dataProp k b n s o wr en co) 39 ∧ HasB W (w.heap.size + 1) cells0 39) ?_ ?_
  · exact ⟨Below.setCell (Below.setCell HB'.out (Nat.le_refl _) _) (Nat.le_refl _) _, HasB.again57 (HasB.again57 H1'.out), HasB.far (HasB.far H2'.out (by simp) _) (by simp) _⟩
  rintro W2 ⟨hb, h1, h2⟩
  go_wp2_with (first
    | ((with_reducible refine at_load 39 ?_); refine wpList_loadB h1 _ rfl rfl rfl rfl rfl (by kernel_rfl) ?_)
    | ((with_reducible refine at_store 39 ?_); refine wpList_storeB h2 (dataProp k b n s o wr en co) rfl rfl rfl rfl rfl (by kernel_rfl) (by kernel_rfl) ?_; intro W3 h3 hk hoff; have HB3 := Lib.hid (hk _ _ (Nat.le_succ _) hb); clear hk hoff hb))
  have hl := fun ty d hu hd hi => HasB.loads (P := Tryz.prog) (ty := ty) h3 d hu hd hi
  replace hl := hl 39 _ rfl rfl (by kernel_rfl)
  exact bodyPost_ret (results_cell rfl rfl hl) rfl ⟨rfl, HB3.out⟩
end Go.Proofs.YthdccijielekcaaGreatDoor
