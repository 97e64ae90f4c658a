/-
  The array that the law of heaps has. No condition.
-/
import Derived.Test.YthdccijielekcaaGreatDoorNoPlain
import Derived.Test.YthdccijielekcaaGreatDoorWide
import Derived.Test.YthdccijielekcaaGreatDoorHeapMay
import Derived.Deep.RegionHeld3
import Derived.Deep.Cut
namespace Go.Proofs.YthdccijielekcaaGreatDoor
open Go.RowKit

abbrev lengthW : ByteArray := ⟨#[0, 108, 0, 101, 0, 110, 0, 103, 0, 116, 0, 104]⟩
theorem Wide_length (w : World) : Calls Tryz.prog 73 #[.string ⟨#[108, 101, 110, 103, 116, 104]⟩] w fun e w' => e = .returned (.string lengthW) ∧ Below w.heap.size w w' :=
  (ref01_Wide ⟨#[108, 101, 110, 103, 116, 104]⟩ w (by decide)).mono fun _ _ h => ⟨h.1, h.2⟩
theorem Wide_four (w : World) : Calls Tryz.prog 73 #[.string ⟨#[52]⟩] w fun e w' => e = .returned (.string ⟨#[0, 52]⟩) ∧ Below w.heap.size w w' :=
  (ref01_Wide ⟨#[52]⟩ w (by decide)).mono fun _ _ h => ⟨h.1, h.2⟩
/-- The cells of a property that has a name. -/
abbrev keyed (nm : ByteArray) (k : Int) (b : Bool) (n : Nat) (s : ByteArray) (o : Int) (wr en co : Bool) : Array Value := ⟨.string nm :: (dataProp k b n s o wr en co).toList⟩
abbrev arrObj (c : Nat) : Array Value := #[.int .i64 3, .int .i64 (-1), .bool false, .slice (some ⟨c, 0, none⟩) 1 1, .int .i64 0, .bool false, .float .f64 0, .string ⟨#[]⟩, .int .i64 0, .int .i64 0, .int .i64 0, .int .i64 0, .slice none 0 0]
abbrev zero13 : Array Value := #[.int .i64 0, .int .i64 0, .bool false, .slice none 0 0, .int .i64 0, .bool false, .float .f64 0, .string ⟨#[]⟩, .int .i64 0, .int .i64 0, .int .i64 0, .int .i64 0, .slice none 0 0]
def ArrS (w W : World) : Prop := Below w.heap.size w W ∧ HasB W (w.heap.size + 1) #[.int .i64 3, .bool false, .float .f64 0, .string ⟨#[]⟩, .int .i64 0] 31 ∧ ∃ cs, cs.size = 13 ∧ HasB W w.heap.size cs 43
theorem ArrS.go {w W W' : World} (h : ArrS w W) (k : Below W.heap.size W W') : ArrS w W' := by
  obtain ⟨a, b, cs, h1, h2⟩ := h
  exact ⟨below_via k a a.size, b.below k, cs, h1, h2.below k⟩
theorem ArrS.there {w W : World} (h : ArrS w W) : W.there w.heap.size 0 13 := by
  obtain ⟨a, b, cs, h1, h2⟩ := h
  rw [← h1]
  exact h2.there
theorem then_gen {K : Act → World → Prop} {Q : Exit → Act → World → Prop} {a : Act} {X : World} (P : World → Prop) (h : P X) (k : ∀ X, P X → Exit.then K Q .normal a X) : Exit.then K Q .normal a X := k X h
theorem build_keyed (nm : ByteArray) (k : Int) (b : Bool) (n : Nat) (s : ByteArray) (o : Int) (wr en co : Bool) (w : World) : (Instr.build 130 #[(0, .string nm), (1, .agg (dataProp k b n s o wr en co))]).run Tryz.prog w = .ok (.agg (keyed nm k b n s o wr en co)) w := run_build w 130 _ _ (by kernel_rfl)
theorem build_arr (c : Nat) (w : World) : (Instr.build 43 #[(0, .int .i64 3), (1, .int .i64 (-1)), (3, .slice (some ⟨c, 0, none⟩) 1 1)]).run Tryz.prog w = .ok (.agg (arrObj c)) w := run_build w 43 _ _ (by kernel_rfl)
attribute [local go_sem] build_keyed build_arr
set_option maxHeartbeats 3000000 in
set_option maxRecDepth 100000 in
theorem law_array (w : World) : Calls Tryz.prog 72 #[] w fun e w' => ∃ c, e = .returned (.agg (arrObj c)) ∧ Below w.heap.size w w' ∧ HasB w' c (keyed lengthW 3 false 0 ⟨#[]⟩ 0 true false false) 130 := by
  go_enter Tryz.func72, Tryz.ntmps72
  go_upto_region 1 with (fail)
  refine wp_gen (fun W => Below w.heap.size w W ∧ w.heap.size + 1 = W.heap.size ∧ HasB W w.heap.size zero13 43) ?_ ?_
  · exact ⟨by go_grown, by simp, HasB.newAt rfl⟩
  rintro W ⟨hb, hz, h2⟩
  go_upto_region 2 with (((with_reducible refine at_store 31 ?_); refine wpList_storeB (HasB.new _ _ _) #[.int .i64 3, .bool false, .float .f64 0, .string ⟨#[]⟩, .int .i64 0] rfl rfl rfl rfl rfl (by kernel_rfl) (by kernel_rfl) ?_; intro V h1 hk hoff))
  simp only [Act.put]
  have hb2 : Below w.heap.size w V := hk _ _ (by omega) (Below.alloc hb (by omega) _)
  have hO : HasB V w.heap.size zero13 43 := hoff _ _ _ (by omega) (h2.alloc _)
  clear hk hoff h2 hb
  obtain ⟨q0, q1, q2, q3, q4, -⟩ := HasB.five h1
  have hlt := h1.lt
  have HO := Lib.hid hO
  have HB := Lib.hid hb2
  clear h1 hO hb2
  go_region_with (first | (go_at_call 73; refine (Wide_length _).mono ?_; rintro e w' ⟨rfl, k⟩; have p0 := below_keep k q0; have p1 := below_keep k q1; have p2 := below_keep k q2; have p3 := below_keep k q3; have p4 := below_keep k q4; have k1 := Lib.hid k; clear k) | (go_at_call 74; refine (ref12_Plain _ _ _ _ _ _ _ _ _).mono ?_; rintro e w2 ⟨rfl, k⟩; have hO2 := HasB.below (HasB.below (HasB.drew HO.out) k1.out) k; obtain ⟨⟨r0, r1, r2, r3, r4, r5, r6⟩, r7, r8, r9, r10, r11, r12, rf⟩ := hO2.obj; have l2 := hO2.lt; have k2 := Lib.hid k; have HO2 := Lib.hid hO2; clear k hO2))
  all_goals (
    have hbV := Below.drew HB.out
    have b1 := below_via k1.out hbV hbV.size
    have b2 := below_via k2.out b1 b1.size
    have h13 := HasB.set13 (v0 := .int .i64 3) (v1 := .int .i64 (-1)) (v2 := .bool false) (v3 := .slice (some ⟨w2.heap.size, 0, none⟩) 1 1) (v4 := .int .i64 0) (v5 := .bool false) (v6 := .float .f64 0) (v7 := .string ⟨#[]⟩) (v8 := .int .i64 0) (v9 := .int .i64 0) (v10 := .int .i64 0) (v11 := .int .i64 0) (v12 := .slice none 0 0) HO2.out
    clear r0 r1 r2 r3 r4 r5 r6 r7 r8 r9 r10 r11 r12 rf
    refine then_gen (fun X => Below w.heap.size w X ∧ HasB X w.heap.size (arrObj w2.heap.size) 43 ∧ HasB X w2.heap.size (keyed lengthW 3 false 0 ⟨#[]⟩ 0 true false false) 130) ?_ ?_
    · exact ⟨Below.alloc (below_set13 b2 (Nat.le_refl _)) (by simp; omega) _, h13.alloc _, HasB.newAt (by simp)⟩
    clear h13 b1 b2 hbV
    rintro X ⟨hb, hX, hc⟩
    go_wp2_with fail
    have hl := fun ty d hu hd hi => HasB.loads (P := Tryz.prog) (ty := ty) hX d hu hd hi
    replace hl := hl 43 _ rfl rfl (by kernel_rfl)
    exact bodyPost_ret (results_cell rfl rfl hl) rfl ⟨_, rfl, hb, hc⟩)
end Go.Proofs.YthdccijielekcaaGreatDoor
