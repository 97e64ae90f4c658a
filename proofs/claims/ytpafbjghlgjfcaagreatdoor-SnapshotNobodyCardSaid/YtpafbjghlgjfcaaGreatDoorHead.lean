/-
  Contracts of snapshot's class, of the teller's head of a plain object, and of its value of an object that has no name yet. Conditions: as at the names.
-/
import Derived.Test.YtpafbjghlgjfcaaGreatDoorNameOld
namespace Go.Proofs.YtpafbjghlgjfcaaGreatDoor
open Go.RowKit

theorem class_Object (w : World) : Calls Tryz.prog 55 #[.int .i64 1] w fun e w' => e = .returned (.string ⟨#[79, 98, 106, 101, 99, 116]⟩) ∧ Below w.heap.size w w' := by
  go_enter Tryz.func55, Tryz.ntmps55
  go_wp2
  go_ret
  exact ⟨rfl, by go_grown⟩

theorem words_of_block {w : World} {b : Nat} {t : TypeId} {xs : List ByteArray} (h : HasB w b (xs.map Value.string).toArray t) : WordsAt w b 0 xs := by
  refine ⟨h.lt, fun j x hx => ?_⟩
  rw [Nat.zero_add, h.cell j]
  simp [hx]

set_option maxRecDepth 200000 in
theorem teller_head (T : Nat) (name : ByteArray) (b1 b2 : Nat) (w : World) :
    Calls Tryz.prog 31 #[.pointer (some ⟨T, 0, none⟩), .string name, obj1 1 (-1) 0 b1 b2] w fun e w' => (∃ g c, e = .returned (.slice (some ⟨g, 0, none⟩) 3 c) ∧ 3 ≤ c ∧ WordsAt w' g 0 [name, ⟨#[79, 98, 106, 101, 99, 116]⟩, ⟨#[110, 117, 108, 108]⟩]) ∧ Below w.heap.size w w' := by
  go_enter Tryz.func31, Tryz.ntmps31
  go_wp2_with fail
  refine (class_Object _).mono ?_
  rintro e w1 ⟨rfl, k⟩
  have HO := (HasB.new w (#[.int .i64 1, .int .i64 (-1), .bool false, .slice (some ⟨b2, 0, none⟩) 0 0, .int .i64 0, .bool false, .float .f64 0, .string ⟨#[]⟩, .int .i64 0, .int .i64 0, .int .i64 0, .int .i64 0, .slice (some ⟨b1, 0, none⟩) 0 0]) 76).below k
  obtain ⟨⟨p0, p1, p2, p3, p4, p5, p6⟩, p7, p8, p9, p10, p11, p12, pf⟩ := HO.obj
  have hlo := HO.lt
  have hb1 : Below w.heap.size w w1 := below_via k ((Below.refl _ w).alloc (Nat.le_refl _) _) (by simp)
  have HB1 := Lib.hid hb1
  clear k HO hb1
  go_wp2_with fail
  go_ret
  exact ⟨⟨w1.heap.size, 3, rfl, by decide, words_of_block (HasB.new w1 _ _)⟩, HB1.out.alloc (by omega) _⟩

set_option maxRecDepth 200000 in
theorem teller_value (T m : Nat) (ba buf : Value) (nm : Nat) {f c ch d left : Int} {over : Bool} {h : Nat} {envs codes natives body known draws : Value} {drawn calls : Int} (a : Option Addr) (n cp : Nat) (room used : Int) (w : World)
    (H : TellAt w T m ba buf nm 0 (.slice none 0 0) 0) (M : MachAt w m f c ch d left over h envs codes natives body known draws drawn calls) (hH : HeapAt w h (.slice a n cp) room used) (hn : 0 < n) (hnm : w.heap[nm]? = some (.map #[] 0)) :
    Calls Tryz.prog 8 #[.pointer (some ⟨T, 0, none⟩), val 5 false 0 ⟨#[]⟩ 0] w fun e w' => e = .returned (.string ⟨#[35, 48]⟩) ∧
      ∃ g cc, w.heap.size ≤ g ∧ TellAt w' T m ba buf nm 1 (.slice (some ⟨g, 0, none⟩) 1 cc) 0 ∧ OneThing w' g 0 ∧ w'.heap[nm]? = some (.map #[{ key := thing 0, val := .int .i64 0, born := 0 }] 1) ∧ Rest (fun k => k = T ∨ k = nm) w w' := by
  have hln : nm < w.heap.size := (Array.getElem?_eq_some_iff.1 hnm).1
  have HN := fun w H M hH hnm => teller_name_new T m ba buf nm (f := f) (c := c) (ch := ch) (d := d) (left := left) (over := over) (h := h) (envs := envs) (codes := codes) (natives := natives) (body := body) (known := known) (draws := draws) (drawn := drawn) (calls := calls) a n cp room used w H M hH hn hnm
  go_enter Tryz.func8, Tryz.ntmps8
  go_wp2_with fail
  refine (HN (w.alloc (.cells #[.int .i64 5, .bool false, .float .f64 0, .string ⟨#[]⟩, .int .i64 0] 56)) (HasB.alloc H _) (HasB.alloc M _) (HasB.alloc hH _) ((Below.heap_alloc w _ nm hln).trans hnm)).mono ?_
  rintro e w1 ⟨rfl, g, cc, hg, hT, hO, hn1, hR⟩
  have hR0 := Rest.trans (Rest.of (S := fun k => k = T ∨ k = nm) ((Below.refl w.heap.size w).alloc (Nat.le_refl _) (.cells #[.int .i64 5, .bool false, .float .f64 0, .string ⟨#[]⟩, .int .i64 0] 56))) hR
  have hg2 : w.heap.size ≤ g := by simp at hg; omega
  clear hR
  go_wp2_with fail
  go_ret
  exact ⟨rfl, g, cc, hg2, hT, hO, hn1, hR0⟩
end Go.Proofs.YtpafbjghlgjfcaaGreatDoor
