/-
  A data property made plainly; the array that the law of heaps has. No condition.
-/
import Derived.Test.YthdccijielekcaaGreatDoorNoHeapB
import Derived.Deep.Cut
namespace Go.Proofs.YthdccijielekcaaGreatDoor
open Go.RowKit

/-- A data property, whole: its value, and its three answers. -/
abbrev dataProp (k : Int) (b : Bool) (n : Nat) (s : ByteArray) (o : Int) (wr en co : Bool) : Array Value := #[.int .i64 57, .int .i64 k, .bool b, .float .f64 n, .string s, .int .i64 o, .int .i64 0, .bool false, .float .f64 0, .string ⟨#[]⟩, .int .i64 0, .int .i64 0, .bool false, .float .f64 0, .string ⟨#[]⟩, .int .i64 0, .bool wr, .bool en, .bool co]
theorem build_dataProp (k : Int) (b : Bool) (n : Nat) (s : ByteArray) (o : Int) (wr en co : Bool) (w : World) : (Instr.build 39 #[(0, .int .i64 57), (1, .agg #[.int .i64 k, .bool b, .float .f64 n, .string s, .int .i64 o]), (4, .bool wr), (5, .bool en), (6, .bool co)]).run Tryz.prog w = .ok (.agg (dataProp k b n s o wr en co)) w := run_build w 39 _ _ (by kernel_rfl)
attribute [local go_sem] build_dataProp
set_option maxHeartbeats 1000000 in
set_option maxRecDepth 100000 in
theorem ref12_Plain (k : Int) (b : Bool) (n : Nat) (s : ByteArray) (o : Int) (wr en co : Bool) (w : World) : Calls Tryz.prog 74 #[.agg #[.int .i64 k, .bool b, .float .f64 n, .string s, .int .i64 o], .bool wr, .bool en, .bool co] w fun e w' => e = .returned (.agg (dataProp k b n s o wr en co)) ∧ Below w.heap.size w w' := by
  go_enter Tryz.func74, Tryz.ntmps74
  go_upto_region 1 with (fail)
  refine wp_gen (fun W => Below w.heap.size w W ∧ HasB W w.heap.size #[.int .i64 k, .bool b, .float .f64 n, .string s, .int .i64 o] 31 ∧ HasB W (w.heap.size + 1) cells0 39) ?_ ?_
  · exact ⟨by go_grown, (HasB.newAt rfl).alloc _, HasB.newAt (by simp)⟩
  rintro W ⟨hb, h1, h2⟩
  obtain ⟨q0, q1, q2, q3, q4, qf⟩ := HasB.five h1
  have H2 := Lib.hid h2
  have HB := Lib.hid hb
  clear h1 h2 hb
  go_wp2_with ((with_reducible refine at_store 39 ?_); refine wpList_storeB H2.out (dataProp k b n s o wr en co) rfl rfl rfl rfl rfl (by kernel_rfl) (by kernel_rfl) ?_; intro W2 h2 hk hoff; have HB2 := Lib.hid (hk _ _ (Nat.le_succ _) HB.out); clear hk hoff HB)
  have hl := fun ty d hu hd hi => HasB.loads (P := Tryz.prog) (ty := ty) h2 d hu hd hi
  replace hl := hl 39 _ rfl rfl (by kernel_rfl)
  exact bodyPost_ret (results_cell rfl rfl hl) rfl ⟨rfl, HB2.out⟩
end Go.Proofs.YthdccijielekcaaGreatDoor
