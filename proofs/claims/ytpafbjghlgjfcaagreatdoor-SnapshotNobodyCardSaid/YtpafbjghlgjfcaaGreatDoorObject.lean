/-
  Contract of the teller's object, of the heap's one plain object. Conditions: the teller's, the machine's and the heap's cells are as said; something is written.
-/
import Derived.Test.YtpafbjghlgjfcaaGreatDoorHead
namespace Go.Proofs.YtpafbjghlgjfcaaGreatDoor
open Go.RowKit

/-- What is told of the object. -/
def told : List UInt8 := joined [⟨#[35, 48]⟩, ⟨#[79, 98, 106, 101, 99, 116]⟩, ⟨#[110, 117, 108, 108]⟩] ++ joined [⟨#[10]⟩]

set_option maxRecDepth 200000 in
theorem teller_object (T m : Nat) (ba buf : Value) (nm : Nat) (c0 : Int) (wl : Value) (at_ : Int) (B : Nat) (l : List UInt8) {f c ch d left : Int} {over : Bool} {h : Nat} {envs codes natives body known draws : Value} {drawn calls : Int} {B' : Nat} {room used : Int} (w : World)
    (H : TellAt w T m ba buf nm c0 wl at_) (hW : Wrote w T ba buf B l) (hT : T < B) (hB : B ≤ w.heap.size) (M : MachAt w m f c ch d left over h envs codes natives body known draws drawn calls) (hO : OneObj w h B' 1 0 room used) (hl : l.length ≤ 50000) :
    Calls Tryz.prog 13 #[.pointer (some ⟨T, 0, none⟩), .string ⟨#[35, 48]⟩, .int .i64 0] w fun e w' => e = .returned (.tuple #[]) ∧ ∃ buf', TellAt w' T m (.pointer (some ⟨T, 1, none⟩)) buf' nm c0 wl at_ ∧ Wrote w' T (.pointer (some ⟨T, 1, none⟩)) buf' B (l ++ told) ∧ ButB T B w w' ∧ ∀ (b : Nat) (cs : Array Value) (t : TypeId), HasB w b cs t → t ≠ 5 → b ≠ T → HasB w' b cs t := by
  have HH := teller_heap T m ba buf nm c0 wl at_ w H M
  have HO := Heap_Object hO
  go_enter Tryz.func13, Tryz.ntmps13
  go_wp2_with (first
    | (go_at_call 25; refine HH.mono ?_; rintro e w' ⟨rfl, rfl⟩)
    | (go_at_call 30; refine HO.mono ?_; rintro e w1 ⟨⟨b1, b2, rfl⟩, k⟩))
  refine (teller_head T ⟨#[35, 48]⟩ b1 b2 _).mono ?_
  rintro e w2 ⟨⟨g, cp, rfl, hcp, hWd⟩, k2⟩
  have HX := (HasB.new w1 (#[.int .i64 1, .int .i64 (-1), .bool false, .slice (some ⟨b2, 0, none⟩) 0 0, .int .i64 0, .bool false, .float .f64 0, .string ⟨#[]⟩, .int .i64 0, .int .i64 0, .int .i64 0, .int .i64 0, .slice (some ⟨b1, 0, none⟩) 0 0]) 76).below k2
  have hk : Below w.heap.size w w2 := below_via k2 (k.alloc (by have := k.size; omega) _) (by have := k.size; simp; omega)
  have hs2 := hk.size
  have hkw : Below w.heap.size w w1 := k
  have hs1 := hkw.size
  have H2 : TellAt w2 T m ba buf nm c0 wl at_ := HasB.below H hk
  have hW2 : Wrote w2 T ba buf B l := ⟨hW.1, ownsRow_keep hW.2 hk⟩
  have hltT := HasB.lt H
  clear HH HO H hW M hO k k2
  go_wp2_with fail
  have hj1 : (joined [⟨#[35, 48]⟩, ⟨#[79, 98, 106, 101, 99, 116]⟩, ⟨#[110, 117, 108, 108]⟩]).length = 14 := by kernel_rfl
  have hj2 : (joined [⟨#[10]⟩]).length = 1 := by kernel_rfl
  have HL := Lib.hid hl
  clear hl
  refine (teller_put T m ba buf nm c0 wl at_ B l g 0 cp [⟨#[35, 48]⟩, ⟨#[79, 98, 106, 101, 99, 116]⟩, ⟨#[110, 117, 108, 108]⟩] w2 H2 hW2 hT (by omega) hWd hcp (by decide) (by rw [hj1]; omega) (by have := HL.out; rw [hj1]; omega)).mono ?_
  rintro e w3 ⟨rfl, buf1, H3, hW3, hB3, hR3⟩
  have hs3 := hR3.size
  have HX3 := Rest.hasB hR3 HX (by
    rintro (h | h)
    · omega
    · exact HasB.ne_own HX hW2.2 (by decide) h)
  go_wp2_with fail
  have H4 : TellAt (w3.alloc (.cells #[.string ⟨#[10]⟩] 9)) T m (.pointer (some ⟨T, 1, none⟩)) buf1 nm c0 wl at_ := HasB.alloc H3 _
  have hW4 : Wrote (w3.alloc (.cells #[.string ⟨#[10]⟩] 9)) T (.pointer (some ⟨T, 1, none⟩)) buf1 B _ := ⟨hW3.1, hW3.2.alloc _⟩
  have HX4 := HasB.alloc HX3 (.cells #[.string ⟨#[10]⟩] 9)
  refine (teller_put T m _ buf1 nm c0 wl at_ B _ w3.heap.size 0 1 [⟨#[10]⟩] _ H4 hW4 hT (by simp; omega) (words_of_block (HasB.new w3 _ _)) (by decide) (by decide) (by rw [hj2]; omega) (by have := HL.out; rw [hj2, List.length_append, hj1]; omega)).mono ?_
  rintro e w5 ⟨rfl, buf2, H5, hW5, hB5, hR5⟩
  have HX5 := Rest.hasB hR5 HX4 (by
    rintro (h | h)
    · omega
    · exact HasB.ne_own HX4 hW4.2 (by decide) h)
  obtain ⟨⟨p0, p1, p2, p3, p4, p5, p6⟩, p7, p8, p9, p10, p11, p12, pf⟩ := HX5.obj
  have hfr : ButB T B w w5 := ButB.trans (ButB.of (hk.mono hB)) (ButB.trans hB3 (ButB.trans (ButB.of ((Below.refl B w3).alloc (by omega) _)) hB5))
  have hW6 : Wrote w5 T (.pointer (some ⟨T, 1, none⟩)) buf2 B (l ++ told) := by
    unfold told
    rw [← List.append_assoc]
    exact hW5
  have hkeep : ∀ (b : Nat) (cs : Array Value) (t : TypeId), HasB w b cs t → t ≠ 5 → b ≠ T → HasB w5 b cs t := by
    intro b cs t hb ht hbT
    have h2 := hb.below hk
    have h3 := Rest.hasB hR3 h2 (by
      rintro (h | h)
      · exact hbT h
      · exact HasB.ne_own h2 hW2.2 ht h)
    have h4 := HasB.alloc h3 (.cells #[.string ⟨#[10]⟩] 9)
    exact Rest.hasB hR5 h4 (by
      rintro (h | h)
      · exact hbT h
      · exact HasB.ne_own h4 hW4.2 ht h)
  have HK := Lib.hid hkeep
  clear hkeep
  have HH5 := Lib.hid H5
  have HW6 := Lib.hid hW6
  have HF := Lib.hid hfr
  clear H2 hW2 H3 hW3 hB3 hR3 H4 hW4 HX HX3 HX4 HX5 H5 hW5 hB5 hR5 hW6 hfr hWd
  go_wp2_with fail
  go_rounds 1
  go_end0
  exact ⟨rfl, buf2, HH5.out, HW6.out, HF.out, HK.out⟩
end Go.Proofs.YtpafbjghlgjfcaaGreatDoor
