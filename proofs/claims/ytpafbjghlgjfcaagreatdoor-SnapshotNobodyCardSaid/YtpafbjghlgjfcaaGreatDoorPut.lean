/-
  Contract of the teller's put: words, a blank between each two, behind what is written. Conditions: as at WriteString; something is written, and not too much.
-/
import Derived.Test.YtpafbjghlgjfcaaGreatDoorTell
import Derived.Deep.RegionLaw
namespace Go.Proofs.YtpafbjghlgjfcaaGreatDoor
open Go.RowKit

/-- The words that lie from an address on. -/
def WordsAt (w : World) (bk o : Nat) (xs : List ByteArray) : Prop := bk < w.heap.size ∧ ∀ (j : Nat) x, xs[j]? = some x → w.cell? ⟨bk, o + j, none⟩ = some (.string x)
/-- Words as one text. -/
def joined (xs : List ByteArray) : List UInt8 := Lib.join (xs.map (·.data.toList)) [32]

theorem ownsRow_keep {w w' : World} {base e size n : Nat} {v : Value} {xs : List Value} (h : w.ownsRow base e size v n xs) (k : Below w.heap.size w w') : w'.ownsRow base e size v n xs := by
  obtain ⟨h1, h2⟩ := h
  refine ⟨h1, ?_⟩
  rcases h2 with h2 | ⟨g, cap, cur, e1, e2, e3, e4⟩
  · exact .inl h2
  · exact .inr ⟨g, cap, cur, e1, e2, (k.block g ((Array.getElem?_eq_some_iff.1 e3).1)).trans e3, e4⟩

set_option maxRecDepth 200000 in
theorem teller_put (T m : Nat) (ba buf : Value) (nm : Nat) (c0 : Int) (wl : Value) (at_ : Int) (B : Nat) (l : List UInt8) (bk o c : Nat) (xs : List ByteArray) (w : World)
    (H : TellAt w T m ba buf nm c0 wl at_) (hW : Wrote w T ba buf B l) (hT : T < B) (hB : B ≤ w.heap.size) (hX : WordsAt w bk o xs) (hc : xs.length ≤ c) (hn : xs.length ≤ 100) (h0 : 0 < (joined xs).length) (hl : l.length + (joined xs).length ≤ 100000) :
    Calls Tryz.prog 9 #[.pointer (some ⟨T, 0, none⟩), .slice (some ⟨bk, o, none⟩) xs.length c] w fun e w' => e = .returned (.tuple #[]) ∧ ∃ buf', TellAt w' T m (.pointer (some ⟨T, 1, none⟩)) buf' nm c0 wl at_ ∧ Wrote w' T (.pointer (some ⟨T, 1, none⟩)) buf' B (l ++ joined xs) ∧ ButB T B w w' ∧ Rest (fun k => k = T ∨ buf.ownBlock = some k) w w' := by
  have hjl : (joined xs).length ≤ 140737488355328 := by omega
  have HJ : ∀ w, WordsAt w bk o xs → Calls Tryz.prog 21 #[.slice (some ⟨bk, o, none⟩) xs.length c, .string ⟨#[32]⟩] w fun e w' => e = .returned (.string ⟨(joined xs).toArray⟩) ∧ Below w.heap.size w w' :=
    fun w hX => strings_Join bk o c xs ⟨#[32]⟩ w hX.2 hX.1 (by omega) hc hjl
  go_enter Tryz.func9, Tryz.ntmps9
  go_wp2_with fail
  have hX' : WordsAt w.drew bk o xs := hX
  have hs1 : l.length + ByteArray.size ⟨(joined xs).toArray⟩ ≤ 100000 := by
    show l.length + (joined xs).toArray.size ≤ 100000
    simpa using hl
  have hs2 : 0 < ByteArray.size ⟨(joined xs).toArray⟩ := by
    show 0 < (joined xs).toArray.size
    simpa using h0
  have HL := Lib.hid hs1
  have H0 := Lib.hid hs2
  clear hl h0 hjl hs1 hs2
  go_region_law (first
    | (go_simp; go_at_call 21; refine (HJ _ hX').mono ?_; rintro e w1 ⟨rfl, k⟩)
    | (go_simp; go_at_call 20; refine (Builder_WriteString T m ba buf nm c0 wl at_ B l ⟨(joined xs).toArray⟩ w1 (HasB.below (HasB.drew H) k) ⟨hW.1, ownsRow_keep (w := w.drew) hW.2 k⟩ hT (Nat.le_trans hB k.size) HL.out H0.out).mono ?_; rintro e w2 ⟨⟨r, rfl⟩, buf', H2, hW2, hB2, hR2⟩))
  have hb1 : ButB T B w w1 := ⟨k.os, k.tape, k.output, k.size, fun i hi _ => k.block i (Nat.lt_of_lt_of_le hi hB)⟩
  go_end0
  exact ⟨rfl, buf', H2, hW2, hb1.trans hB2, Rest.trans (Rest.drew (Rest.refl _ w)) (Rest.trans (Rest.of k) hR2)⟩
end Go.Proofs.YtpafbjghlgjfcaaGreatDoor
