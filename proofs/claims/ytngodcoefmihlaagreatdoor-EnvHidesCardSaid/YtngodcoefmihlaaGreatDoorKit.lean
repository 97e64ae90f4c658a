/-
  Small facts on memory and bytes that this seat's walks share: a row of bytes that a call owns, and the text that it is. No condition.
-/
import Derived.WalkKit
import Derived.WalkLawsBesides
import Derived.OwnWalk
import Derived.Handy
import Derived.PlainAid
import Derived.Laws.IdiomStrings
import Derived.KernelRfl
import Derived.Deep.AppendLies
namespace Go.Proofs.YtngodcoefmihlaaGreatDoor
open Go.RowKit

/-- A float into a cell: a law that the walk's set lacks. -/
theorem run_store_float {P : Program} {w : World} {a : Addr} {m : Mode} (k : FloatKind) (n : Nat) : (store a (.float k n) m).run P w = stored P w a (.float k n) m := run_store P w a _ m rfl
attribute [go_sem] run_store_float

/-- Bytes as cells. -/
def bv (l : List UInt8) : List Value := l.map fun b => .int .u8 (b.toNat : Int)
theorem bv_length (l : List UInt8) : (bv l).length = l.length := by simp [bv]
theorem bv_append (a b : List UInt8) : bv (a ++ b) = bv a ++ bv b := by simp [bv]
theorem bv_one (l : List UInt8) : ∀ u ∈ bv l, u.oneCell' = true := by
  intro u hu
  obtain ⟨b, _, rfl⟩ := List.mem_map.1 hu
  rfl

/-- A row of bytes of the call's own, turned into a text. -/
theorem run_string_own {P : Program} (w : World) (src dst e : TypeId) {base n : Nat} {v : Value} (l : List UInt8) (hown : w.ownsRow base e 1 v n (bv l))
    (hs : P.underlying src = some (.slice e)) (he : P.underlying e = some (.int .u8)) (hd : P.underlying dst = some .string) :
    (convert src dst v).run P w = .ok (.string ⟨l.toArray⟩) w := by
  have hlen : l.length = n := by have := hown.1; rw [bv_length] at this; omega
  subst hlen
  have hown0 := hown
  rcases hown.2 with ⟨rfl, h0⟩ | ⟨g, cap, cur, rfl, hg, hh, hnc, hcp, hcs, htake⟩
  · obtain rfl : l = [] := List.length_eq_zero_iff.1 h0
    rw [run_convert_bytes_string w src dst e none 0 0 hs he hd]
    rfl
  · exact run_convert_bytes_back w src dst e ⟨g, 0, none⟩ cap l hs he hd fun j hj => by
      rw [Addr.add_lit, Nat.zero_add, hown0.cellAt j (by omega)]
      simp [bv, hj]

/-- What lies below a block's number stays, behind a law that ends in 'grownBy'. -/
theorem below_grown {B : Nat} {a w w' : World} {v : Value} {o : Obj} {base e size n : Nat} {xs : List Value} (h : Below B a w) (hB : B ≤ w.heap.size) (hown : w.ownsRow base e size v n xs) (hb : B ≤ base) (hg : (w.alloc o).grownBy w' v.ownBlock) : Below B a w' :=
  (h.alloc hB o).grown hg (by simp; omega) (fun k hk => by have := (hown.lt k hk).1; omega)

/-- 'n &^ 1' on a length: the even number below. -/
theorem and_even64 (x : Nat) (hx : x < 18446744073709551616) : x &&& 18446744073709551614 = x / 2 * 2 := by
  apply Nat.eq_of_testBit_eq
  intro i
  rw [Nat.testBit_and]
  cases i with
  | zero =>
    rw [Nat.testBit_zero, Nat.testBit_zero, Nat.testBit_zero]
    have : x / 2 * 2 % 2 = 0 := by omega
    simp [this]
  | succ i =>
    rw [Nat.testBit_succ, Nat.testBit_succ, Nat.testBit_succ, show x / 2 * 2 / 2 = x / 2 by omega, show 18446744073709551614 / 2 = 2 ^ 63 - 1 by decide, Nat.testBit_two_pow_sub_one]
    by_cases h : i < 63
    · simp [h]
    · have hlt : x / 2 < 2 ^ i := Nat.lt_of_lt_of_le (show x / 2 < 2 ^ 63 by omega) (Nat.pow_le_pow_right (by decide) (by omega))
      rw [Nat.testBit_lt_two_pow hlt]
      simp
theorem i64_andNot1 (x : Nat) (hx : x < 9223372036854775808) : bits .andNot .i64 (x : Int) 1 = ((x / 2 * 2 : Nat) : Int) := by
  show IntKind.i64.wrap ((BitVec.ofInt 64 (x : Int) &&& ~~~BitVec.ofInt 64 1).toNat : Int) = _
  have h1 : (BitVec.ofInt 64 1).toNat = 1 := by decide
  have h2 : (BitVec.ofInt 64 (x : Int)).toNat = x := by rw [BitVec.toNat_ofInt]; omega
  rw [BitVec.toNat_and, BitVec.toNat_not, h2, h1, show 2 ^ 64 - 1 - 1 = 18446744073709551614 by decide, and_even64 x (by omega), IntKind.wrap_i64]
  omega

/-- A cell that is known stays, where a call turned nothing that was there. -/
theorem below_keep {w w' : World} {a : Addr} {v : Value} (hb : Below w.heap.size w w') (h : w.cell? a = some v) : w'.cell? a = some v :=
  (hb.cell (World.block_lt_of_cell? w _ h)).trans h

/-- One call more, behind what was done so far. -/
theorem below_via {B : Nat} {a w w' : World} (hb : Below w.heap.size w w') (h : Below B a w) (hB : B ≤ w.heap.size) : Below B a w' := h.trans (hb.mono hB)

theorem bytes_length (s : ByteArray) : s.data.toList.length = s.size := Array.length_toList
theorem bytes_get (s : ByteArray) (k : Nat) (h : k < s.size) : s.data.toList[k]'(by rw [bytes_length]; exact h) = s[k] := rfl

/-- A unit's two bytes. -/
def unitB (u : Nat) : List UInt8 := [UInt8.ofNat (u / 256), UInt8.ofNat (u % 256)]
theorem bv_unitB (u : Nat) (h : u < 65536) : bv (unitB u) = [.int .u8 ((u : Int) / 256), .int .u8 ((u : Int) % 256)] := by
  have h1 : (UInt8.ofNat (u / 256)).toNat = u / 256 := by rw [UInt8.toNat_ofNat']; omega
  have h2 : (UInt8.ofNat (u % 256)).toNat = u % 256 := by rw [UInt8.toNat_ofNat']; omega
  simp only [bv, unitB, List.map_cons, List.map_nil, h1, h2]
  rfl
theorem unitB_byte (b : UInt8) : unitB b.toNat = [0, b] := by
  have h := b.toNat_lt
  have h1 : b.toNat / 256 = 0 := by omega
  have h2 : b.toNat % 256 = b.toNat := by omega
  simp only [unitB, h1, h2, UInt8.ofNat_toNat]
  rfl
theorem u16_and255 (u : Nat) (h : u < 65536) : bits .and .u16 (u : Int) 255 = (u : Int) % 256 := by
  have e := u16_and_nat u 255 h (by decide)
  have e2 : u &&& 255 = u % 256 := Nat.and_two_pow_sub_one_eq_mod u 8
  rw [e2] at e
  exact e

/-- What was there reads as it did, for the walk's use (two rules). -/
theorem bcell {W w1 : World} (hb : Below W.heap.size W w1) : (∀ b o, b < W.heap.size → w1.cell? ⟨b, o, none⟩ = W.cell? ⟨b, o, none⟩) ∧ (∀ b o, b < W.heap.size → w1.frozen? ⟨b, o, none⟩ = W.frozen? ⟨b, o, none⟩) :=
  ⟨fun b o h => hb.cell (p := ⟨b, o, none⟩) h, fun b o h => hb.frozen (p := ⟨b, o, none⟩) h⟩

/-- Two calls, one behind the other. -/
theorem below_step {W w1 w2 : World} (h : Below W.heap.size W w1) (k : Below w1.heap.size w1 w2) : Below W.heap.size W w2 := h.trans (k.mono h.size)

/-- A block that is known whole. -/
def HasB (w : World) (b : Nat) (cs : Array Value) (t : TypeId) : Prop := w.heap[b]? = some (.cells cs t (0, 0))
theorem HasB.lt {w : World} {b : Nat} {cs : Array Value} {t : TypeId} (h : HasB w b cs t) : b < w.heap.size := by
  unfold HasB at h
  exact (Array.getElem?_eq_some_iff.1 h).1
theorem HasB.new (w : World) (cs : Array Value) (t : TypeId) : HasB (w.alloc (.cells cs t)) w.heap.size cs t := heap_alloc_new w _
theorem HasB.below {w w' : World} {b : Nat} {cs : Array Value} {t : TypeId} (h : HasB w b cs t) (hb : Below w.heap.size w w') : HasB w' b cs t := (hb.block b h.lt).trans h
theorem HasB.alloc {w : World} {b : Nat} {cs : Array Value} {t : TypeId} (h : HasB w b cs t) (o : Obj) : HasB (w.alloc o) b cs t := (Below.heap_alloc w o b h.lt).trans h
theorem HasB.drew {w : World} {b : Nat} {cs : Array Value} {t : TypeId} (h : HasB w b cs t) : HasB w.drew b cs t := h
theorem HasB.free {w : World} {b : Nat} {cs : Array Value} {t : TypeId} (h : HasB w b cs t) (o : Nat) : w.frozen? ⟨b, o, none⟩ = false := by
  unfold HasB at h
  simp [World.frozen?, h]
theorem HasB.cell {w : World} {b : Nat} {cs : Array Value} {t : TypeId} (h : HasB w b cs t) (i : Nat) : w.cell? ⟨b, i, none⟩ = cs[i]? := cell_of_row w b i cs t (0, 0) h
theorem HasB.one {w : World} {b : Nat} {t : TypeId} {v0 : Value} (h : HasB w b #[v0] t) : w.cell? ⟨b, 0, none⟩ = some v0 ∧ ∀ o, w.frozen? ⟨b, o, none⟩ = false := ⟨h.cell 0, h.free⟩
theorem HasB.five {w : World} {b : Nat} {t : TypeId} {v0 v1 v2 v3 v4 : Value} (h : HasB w b #[v0, v1, v2, v3, v4] t) :
    w.cell? ⟨b, 0, none⟩ = some v0 ∧ w.cell? ⟨b, 1, none⟩ = some v1 ∧ w.cell? ⟨b, 2, none⟩ = some v2 ∧ w.cell? ⟨b, 3, none⟩ = some v3 ∧ w.cell? ⟨b, 4, none⟩ = some v4 ∧ ∀ o, w.frozen? ⟨b, o, none⟩ = false :=
  ⟨h.cell 0, h.cell 1, h.cell 2, h.cell 3, h.cell 4, h.free⟩

theorem ret_string {a b : List UInt8} (h : a = b) : Ending.returned (.string ⟨a.toArray⟩) = .returned (.string ⟨b.toArray⟩) := by rw [h]
end Go.Proofs.YtngodcoefmihlaaGreatDoor
