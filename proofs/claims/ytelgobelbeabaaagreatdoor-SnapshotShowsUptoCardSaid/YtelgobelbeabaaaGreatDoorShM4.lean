/-
  Small facts on memory and bytes that this seat's walks share: a row of bytes that a call owns, and the text that it is. No condition. A value of the language as Go hands it; floats' words; the reference's Number of one; when a value may be. Contracts for every argument, no condition. Plain laws on lists of 32-bit words: the number that they stand for. No program in sight; no condition. Rows of 32-bit words in memory: read, and of the call's own. No condition. A contract of quillref02.Norm: the words of the number that is handed in. No condition but that the words are words. Contracts of quillref02.word and Plus. No condition but that the words are words. Contracts of quillref02.Less, Cmp and Of. Conditions: the words are words; what is taken away is no greater. Contracts of quillref02.Of and Times. No condition but that the words are words.
-/
import Derived.WalkKit
import Derived.WalkLawsBesides
import Derived.OwnWalk
import Derived.Handy
import Derived.PlainAid
import Derived.Laws.IdiomStrings
import Derived.KernelRfl
import Derived.Deep.AppendLies
import Derived.Test.YtelgobelbeabaaaGreatDoorProg
import Derived.Lib.Hide
import Derived.Outline
import Derived.RowKit
import Derived.Laws.BitsLemmas
import Derived.Deep.DeepMust
import Derived.Deep.QuietTactic
import Derived.BigQuiet
import Derived.Deep.Onto
import Derived.Laws.AppendOwnNone
import Derived.Laws.Slices
import Derived.Laws.OwnMore
namespace Go.Proofs.YtelgobelbeabaaaGreatDoor
open Go.RowKit

/-- A float into a cell: a law that the walk's set lacks. -/
theorem run_store_float {P : Program} {w : World} {a : Addr} {m : Mode} (k : FloatKind) (n : Nat) : (store a (.float k n) m).run P w = stored P w a (.float k n) m := run_store P w a _ m rfl
attribute [go_sem] run_store_float

/-- Bytes as cells. -/
def bv (l : List UInt8) : List Value := l.map fun b => .int .u8 (b.toNat : Int)
theorem bv_length (l : List UInt8) : (bv l).length = l.length := by simp [bv]
theorem bv_append (a b : List UInt8) : bv (a ++ b) = bv a ++ bv b := by simp [bv]
theorem bv_one (l : List UInt8) : ∀ u ∈ bv l, u.oneCell' = true := by
  intro u hu
  obtain ⟨b, _, rfl⟩ := List.mem_map.1 hu
  rfl

/-- A row of bytes of the call's own, turned into a text. -/
theorem run_string_own {P : Program} (w : World) (src dst e : TypeId) {base n : Nat} {v : Value} (l : List UInt8) (hown : w.ownsRow base e 1 v n (bv l))
    (hs : P.underlying src = some (.slice e)) (he : P.underlying e = some (.int .u8)) (hd : P.underlying dst = some .string) :
    (convert src dst v).run P w = .ok (.string ⟨l.toArray⟩) w := by
  have hlen : l.length = n := by have := hown.1; rw [bv_length] at this; omega
  subst hlen
  have hown0 := hown
  rcases hown.2 with ⟨rfl, h0⟩ | ⟨g, cap, cur, rfl, hg, hh, hnc, hcp, hcs, htake⟩
  · obtain rfl : l = [] := List.length_eq_zero_iff.1 h0
    rw [run_convert_bytes_string w src dst e none 0 0 hs he hd]
    rfl
  · exact run_convert_bytes_back w src dst e ⟨g, 0, none⟩ cap l hs he hd fun j hj => by
      rw [Addr.add_lit, Nat.zero_add, hown0.cellAt j (by omega)]
      simp [bv, hj]

/-- What lies below a block's number stays, behind a law that ends in 'grownBy'. -/
theorem below_grown {B : Nat} {a w w' : World} {v : Value} {o : Obj} {base e size n : Nat} {xs : List Value} (h : Below B a w) (hB : B ≤ w.heap.size) (hown : w.ownsRow base e size v n xs) (hb : B ≤ base) (hg : (w.alloc o).grownBy w' v.ownBlock) : Below B a w' :=
  (h.alloc hB o).grown hg (by simp; omega) (fun k hk => by have := (hown.lt k hk).1; omega)

/-- 'n &^ 1' on a length: the even number below. -/
theorem and_even64 (x : Nat) (hx : x < 18446744073709551616) : x &&& 18446744073709551614 = x / 2 * 2 := by
  apply Nat.eq_of_testBit_eq
  intro i
  rw [Nat.testBit_and]
  cases i with
  | zero =>
    rw [Nat.testBit_zero, Nat.testBit_zero, Nat.testBit_zero]
    have : x / 2 * 2 % 2 = 0 := by omega
    simp [this]
  | succ i =>
    rw [Nat.testBit_succ, Nat.testBit_succ, Nat.testBit_succ, show x / 2 * 2 / 2 = x / 2 by omega, show 18446744073709551614 / 2 = 2 ^ 63 - 1 by decide, Nat.testBit_two_pow_sub_one]
    by_cases h : i < 63
    · simp [h]
    · have hlt : x / 2 < 2 ^ i := Nat.lt_of_lt_of_le (show x / 2 < 2 ^ 63 by omega) (Nat.pow_le_pow_right (by decide) (by omega))
      rw [Nat.testBit_lt_two_pow hlt]
      simp
theorem i64_andNot1 (x : Nat) (hx : x < 9223372036854775808) : bits .andNot .i64 (x : Int) 1 = ((x / 2 * 2 : Nat) : Int) := by
  show IntKind.i64.wrap ((BitVec.ofInt 64 (x : Int) &&& ~~~BitVec.ofInt 64 1).toNat : Int) = _
  have h1 : (BitVec.ofInt 64 1).toNat = 1 := by decide
  have h2 : (BitVec.ofInt 64 (x : Int)).toNat = x := by rw [BitVec.toNat_ofInt]; omega
  rw [BitVec.toNat_and, BitVec.toNat_not, h2, h1, show 2 ^ 64 - 1 - 1 = 18446744073709551614 by decide, and_even64 x (by omega), IntKind.wrap_i64]
  omega

/-- A cell that is known stays, where a call turned nothing that was there. -/
theorem below_keep {w w' : World} {a : Addr} {v : Value} (hb : Below w.heap.size w w') (h : w.cell? a = some v) : w'.cell? a = some v :=
  (hb.cell (World.block_lt_of_cell? w _ h)).trans h

/-- One call more, behind what was done so far. -/
theorem below_via {B : Nat} {a w w' : World} (hb : Below w.heap.size w w') (h : Below B a w) (hB : B ≤ w.heap.size) : Below B a w' := h.trans (hb.mono hB)

theorem bytes_length (s : ByteArray) : s.data.toList.length = s.size := Array.length_toList
theorem bytes_get (s : ByteArray) (k : Nat) (h : k < s.size) : s.data.toList[k]'(by rw [bytes_length]; exact h) = s[k] := rfl

/-- A unit's two bytes. -/
def unitB (u : Nat) : List UInt8 := [UInt8.ofNat (u / 256), UInt8.ofNat (u % 256)]
theorem bv_unitB (u : Nat) (h : u < 65536) : bv (unitB u) = [.int .u8 ((u : Int) / 256), .int .u8 ((u : Int) % 256)] := by
  have h1 : (UInt8.ofNat (u / 256)).toNat = u / 256 := by rw [UInt8.toNat_ofNat']; omega
  have h2 : (UInt8.ofNat (u % 256)).toNat = u % 256 := by rw [UInt8.toNat_ofNat']; omega
  simp only [bv, unitB, List.map_cons, List.map_nil, h1, h2]
  rfl
theorem unitB_byte (b : UInt8) : unitB b.toNat = [0, b] := by
  have h := b.toNat_lt
  have h1 : b.toNat / 256 = 0 := by omega
  have h2 : b.toNat % 256 = b.toNat := by omega
  simp only [unitB, h1, h2, UInt8.ofNat_toNat]
  rfl
theorem u16_and255 (u : Nat) (h : u < 65536) : bits .and .u16 (u : Int) 255 = (u : Int) % 256 := by
  have e := u16_and_nat u 255 h (by decide)
  have e2 : u &&& 255 = u % 256 := Nat.and_two_pow_sub_one_eq_mod u 8
  rw [e2] at e
  exact e

/-- What was there reads as it did, for the walk's use (two rules). -/
theorem bcell {W w1 : World} (hb : Below W.heap.size W w1) : (∀ b o, b < W.heap.size → w1.cell? ⟨b, o, none⟩ = W.cell? ⟨b, o, none⟩) ∧ (∀ b o, b < W.heap.size → w1.frozen? ⟨b, o, none⟩ = W.frozen? ⟨b, o, none⟩) :=
  ⟨fun b o h => hb.cell (p := ⟨b, o, none⟩) h, fun b o h => hb.frozen (p := ⟨b, o, none⟩) h⟩

/-- Two calls, one behind the other. -/
theorem below_step {W w1 w2 : World} (h : Below W.heap.size W w1) (k : Below w1.heap.size w1 w2) : Below W.heap.size W w2 := h.trans (k.mono h.size)

/-- A block that is known whole. -/
def HasB (w : World) (b : Nat) (cs : Array Value) (t : TypeId) : Prop := w.heap[b]? = some (.cells cs t (0, 0))
theorem HasB.lt {w : World} {b : Nat} {cs : Array Value} {t : TypeId} (h : HasB w b cs t) : b < w.heap.size := by
  unfold HasB at h
  exact (Array.getElem?_eq_some_iff.1 h).1
theorem HasB.new (w : World) (cs : Array Value) (t : TypeId) : HasB (w.alloc (.cells cs t)) w.heap.size cs t := heap_alloc_new w _
theorem HasB.below {w w' : World} {b : Nat} {cs : Array Value} {t : TypeId} (h : HasB w b cs t) (hb : Below w.heap.size w w') : HasB w' b cs t := (hb.block b h.lt).trans h
theorem HasB.alloc {w : World} {b : Nat} {cs : Array Value} {t : TypeId} (h : HasB w b cs t) (o : Obj) : HasB (w.alloc o) b cs t := (Below.heap_alloc w o b h.lt).trans h
theorem HasB.drew {w : World} {b : Nat} {cs : Array Value} {t : TypeId} (h : HasB w b cs t) : HasB w.drew b cs t := h
theorem HasB.free {w : World} {b : Nat} {cs : Array Value} {t : TypeId} (h : HasB w b cs t) (o : Nat) : w.frozen? ⟨b, o, none⟩ = false := by
  unfold HasB at h
  simp [World.frozen?, h]
theorem HasB.cell {w : World} {b : Nat} {cs : Array Value} {t : TypeId} (h : HasB w b cs t) (i : Nat) : w.cell? ⟨b, i, none⟩ = cs[i]? := cell_of_row w b i cs t (0, 0) h
theorem HasB.one {w : World} {b : Nat} {t : TypeId} {v0 : Value} (h : HasB w b #[v0] t) : w.cell? ⟨b, 0, none⟩ = some v0 ∧ ∀ o, w.frozen? ⟨b, o, none⟩ = false := ⟨h.cell 0, h.free⟩
theorem HasB.five {w : World} {b : Nat} {t : TypeId} {v0 v1 v2 v3 v4 : Value} (h : HasB w b #[v0, v1, v2, v3, v4] t) :
    w.cell? ⟨b, 0, none⟩ = some v0 ∧ w.cell? ⟨b, 1, none⟩ = some v1 ∧ w.cell? ⟨b, 2, none⟩ = some v2 ∧ w.cell? ⟨b, 3, none⟩ = some v3 ∧ w.cell? ⟨b, 4, none⟩ = some v4 ∧ ∀ o, w.frozen? ⟨b, o, none⟩ = false :=
  ⟨h.cell 0, h.cell 1, h.cell 2, h.cell 3, h.cell 4, h.free⟩

theorem ret_string {a b : List UInt8} (h : a = b) : Ending.returned (.string ⟨a.toArray⟩) = .returned (.string ⟨b.toArray⟩) := by rw [h]
end Go.Proofs.YtelgobelbeabaaaGreatDoor
namespace Go.Proofs.YtelgobelbeabaaaGreatDoor
open Go.RowKit

/-- A value of the language, as Go hands it. -/
abbrev val (k : Int) (b : Bool) (n : Nat) (s : ByteArray) (o : Int) : Value := .agg #[.int .i64 k, .bool b, .float .f64 n, .string s, .int .i64 o]

theorem run_Float64bits (b : Nat) (w : World) : (callFunc 20 #[.float .f64 b]).run Tryz.prog w = .ok (.value (.int .u64 b)) w := by
  rw [run_callFunc_extern Tryz.func20 (by kernel_rfl) (by kernel_rfl) (by kernel_rfl) (e := Extern.MathFloatBits.float64bits) (by kernel_rfl)]; rfl
/-- The NaN that is told. -/
def qnan : Nat := 9221120237041090560
theorem run_frombits_qnan (w : World) : (callFunc 91 #[.int .u64 9221120237041090560]).run Tryz.prog w = .ok (.value (.float .f64 qnan)) w := by
  rw [run_callFunc_extern Tryz.func91 (by kernel_rfl) (by kernel_rfl) (by kernel_rfl) (e := Extern.MathFloatBits.float64frombits) (by kernel_rfl)]; rfl
theorem run_Float64frombits (b : Nat) (w : World) : (callFunc 91 #[.int .u64 b]).run Tryz.prog w = .ok (.value (.float .f64 b)) w := by
  rw [run_callFunc_extern Tryz.func91 (by kernel_rfl) (by kernel_rfl) (by kernel_rfl) (e := Extern.MathFloatBits.float64frombits) (by kernel_rfl)]; rfl

/-- Is a float's word a NaN's? -/
def nanB (n : Nat) : Bool := FloatKind.f64.format.order n n != some .eq
/-- A float as it is told: of the NaNs one alone. -/
def toldN (n : Nat) : Nat := if nanB n then qnan else n

theorem math_IsNaN (n : Nat) (w : World) : Calls Tryz.prog 56 #[.float .f64 n] w fun e w' => e = .returned (.bool (nanB n)) ∧ w = w' := by
  go_enter Tryz.func56, Tryz.ntmps56
  go_wp2
  go_returns
  exact ⟨rfl, rfl⟩

attribute [local go_sem] run_Float64bits run_frombits_qnan
theorem ref_NaN (w : World) : Calls Tryz.prog 57 #[] w fun e w' => e = .returned (.float .f64 qnan) ∧ w = w' := by
  go_enter Tryz.func57, Tryz.ntmps57
  go_wp2
  go_ret
  exact ⟨rfl, rfl⟩
theorem ref_Number (n : Nat) (w : World) : Calls Tryz.prog 21 #[.float .f64 n] w fun e w' => e = .returned (val 3 false (toldN n) ⟨#[]⟩ 0) ∧ Below w.heap.size w w' := by
  have h := math_IsNaN n
  cases hn : nanB n with
  | true =>
    have ht : toldN n = qnan := by simp [toldN, hn]
    have HT := Lib.hid ht
    rw [hn] at h
    clear ht hn
    go_enter Tryz.func21, Tryz.ntmps21
    go_wp2_with fail
    refine (h _).mono ?_
    rintro e w' ⟨rfl, rfl⟩
    clear h
    go_wp2_with (go_at_call 57; refine (ref_NaN _).mono ?_; rintro e w' ⟨rfl, rfl⟩)
    go_returns
    exact ⟨by rw [HT.out], by go_grown⟩
  | false =>
    have ht : toldN n = n := by simp [toldN, hn]
    have HT := Lib.hid ht
    rw [hn] at h
    clear ht hn
    go_enter Tryz.func21, Tryz.ntmps21
    go_wp2_with fail
    refine (h _).mono ?_
    rintro e w' ⟨rfl, rfl⟩
    clear h
    go_wp2
    go_returns
    exact ⟨by rw [HT.out], by go_grown⟩
theorem ref_Number_agg (n : Nat) (w : World) : Calls Tryz.prog 21 #[.float .f64 n] w fun e w' => e = .returned (.agg #[.int .i64 3, .bool false, .float .f64 (toldN n), .string ⟨#[]⟩, .int .i64 0]) ∧ Below w.heap.size w w' := ref_Number n w

theorem run_field_N (k : Int) (b : Bool) (n : Nat) (s : ByteArray) (o : Int) (w : World) : (Instr.field 24 (.agg #[.int .i64 k, .bool b, .float .f64 n, .string s, .int .i64 o]) 2).run Tryz.prog w = .ok (.float .f64 n) w := by kernel_rfl

/-- May a value be, that has these parts? -/
def mayP (k : Int) (b : Bool) (n : Nat) (s : ByteArray) (o : Int) : Prop :=
  0 ≤ k ∧ k ≤ 5 ∧ (b = true → k = 2) ∧ (n ≠ 0 → k = 3 ∧ toldN n = n) ∧ (s.toList ≠ [] → k = 4 ∧ s.size % 2 = 0) ∧ (o ≠ 0 → k = 5 ∧ 0 < o)
open Classical in
noncomputable def mayB (k : Int) (b : Bool) (n : Nat) (s : ByteArray) (o : Int) : Bool := decide (mayP k b n s o)
open Classical in
noncomputable def checkE (k : Int) (b : Bool) (n : Nat) (s : ByteArray) (o : Int) : Int := if mayP k b n s o then 0 else 1
theorem checkE_yes {k : Int} {b : Bool} {n : Nat} {s : ByteArray} {o : Int} (h : mayP k b n s o) : Ending.returned (.int .i64 0) = .returned (.int .i64 (checkE k b n s o)) := by unfold checkE; rw [if_pos h]
theorem checkE_no {k : Int} {b : Bool} {n : Nat} {s : ByteArray} {o : Int} (h : ¬ mayP k b n s o) : Ending.returned (.int .i64 1) = .returned (.int .i64 (checkE k b n s o)) := by unfold checkE; rw [if_neg h]
theorem toList_nil_size {s : ByteArray} (h : s.toList = []) : s.size = 0 := by
  have := (toList_nil_iff_emptyBytes s).1 h
  subst this
  rfl

theorem ret_bool {a b : Bool} (h : a = b) : Ending.returned (.bool a) = .returned (.bool b) := by rw [h]
theorem below_drawn {B : Nat} {a w : World} {n : Nat} (h : Below B a w) : Below B a (w.drewN n) := ⟨h.os, h.tape, h.output, h.size, h.block⟩
theorem mayB_yes {k : Int} {b : Bool} {n : Nat} {s : ByteArray} {o : Int} (h : mayP k b n s o) : mayB k b n s o = true := by unfold mayB; simp [h]
theorem mayB_no {k : Int} {b : Bool} {n : Nat} {s : ByteArray} {o : Int} (h : ¬ mayP k b n s o) : mayB k b n s o = false := by unfold mayB; simp [h]
theorem mayB_iff {k : Int} {b : Bool} {n : Nat} {s : ByteArray} {o : Int} {x : Bool} (h : x = true ↔ mayP k b n s o) : x = mayB k b n s o := by
  unfold mayB
  rw [Bool.eq_iff_iff, h]
  simp

end Go.Proofs.YtelgobelbeabaaaGreatDoor
namespace Go.Proofs.YtelgobelbeabaaaGreatDoor
namespace Nv
open Go.RowKit
/-- A word by its place. -/
def rd (l : List Int) (i : Int) : Int := l.getD i.toNat 0

/-- The number that words stand for, the least one first. -/
def nv : List Int → Nat
  | [] => 0
  | a :: l => a.toNat + 4294967296 * nv l
def IsW (l : List Int) : Prop := ∀ a, a ∈ l → 0 ≤ a ∧ a < 4294967296
/-- A number's words, the last one not nought. -/
def words (n : Nat) : List Int := if h : n = 0 then [] else ((n % 4294967296 : Nat) : Int) :: words (n / 4294967296)
termination_by n
decreasing_by omega
theorem words_zero : words 0 = [] := by rw [words, dif_pos rfl]
theorem words_pos {n : Nat} (h : n ≠ 0) : words n = ((n % 4294967296 : Nat) : Int) :: words (n / 4294967296) := by rw [words, dif_neg h]
theorem words_one {n : Nat} (h : n ≠ 0) (h2 : n < 4294967296) : words n = [(n : Int)] := by
  rw [words_pos h, Nat.mod_eq_of_lt h2, Nat.div_eq_of_lt h2, words_zero]
theorem nv_words (n : Nat) : nv (words n) = n := by
  induction n using Nat.strongRecOn with
  | _ n ih =>
    by_cases h : n = 0
    · subst h; rw [words_zero]; rfl
    · rw [words_pos h, nv, ih _ (by omega)]
      omega
theorem isW_words (n : Nat) : IsW (words n) := by
  induction n using Nat.strongRecOn with
  | _ n ih =>
    by_cases h : n = 0
    · subst h; rw [words_zero]; intro a ha; cases ha
    · rw [words_pos h]
      intro a ha
      rcases List.mem_cons.1 ha with rfl | ha
      · omega
      · exact ih _ (by omega) a ha
theorem IsW.cons {a : Int} {l : List Int} (h : IsW (a :: l)) : (0 ≤ a ∧ a < 4294967296) ∧ IsW l := ⟨h a (List.mem_cons_self ..), fun b hb => h b (List.mem_cons_of_mem _ hb)⟩
theorem IsW.append {l m : List Int} (h1 : IsW l) (h2 : IsW m) : IsW (l ++ m) := fun a ha => by
  rcases List.mem_append.1 ha with h | h
  · exact h1 a h
  · exact h2 a h
theorem IsW.one {a : Int} (h1 : 0 ≤ a) (h2 : a < 4294967296) : IsW [a] := fun b hb => by
  rcases List.mem_singleton.1 hb with rfl
  exact ⟨h1, h2⟩
theorem IsW.take {l : List Int} (h : IsW l) (n : Nat) : IsW (l.take n) := fun a ha => h a (List.mem_of_mem_take ha)
theorem IsW.set {l : List Int} (h : IsW l) (n : Nat) {v : Int} (h1 : 0 ≤ v) (h2 : v < 4294967296) : IsW (l.set n v) := fun a ha => by
  rcases List.mem_or_eq_of_mem_set ha with h' | rfl
  · exact h a h'
  · exact ⟨h1, h2⟩
theorem IsW.zeros (n : Nat) : IsW (List.replicate n 0) := fun a ha => by
  rw [(List.mem_replicate.1 ha).2]
  decide
theorem IsW.rd {l : List Int} (h : IsW l) (i : Int) : 0 ≤ rd l i ∧ rd l i < 4294967296 := by
  unfold Nv.rd
  rw [List.getD_eq_getElem?_getD]
  cases hx : l[i.toNat]? with
  | none => simp
  | some v => exact h v (List.mem_of_getElem? hx)
theorem nv_append (l m : List Int) : nv (l ++ m) = nv l + 4294967296 ^ l.length * nv m := by
  induction l with
  | nil => simp [nv]
  | cons a l ih =>
    rw [List.cons_append, nv, nv, ih, List.length_cons, Nat.pow_succ, Nat.mul_add, Nat.mul_comm (4294967296 ^ l.length) 4294967296, Nat.mul_assoc, Nat.add_assoc]
theorem nv_zeros (n : Nat) : nv (List.replicate n 0) = 0 := by
  induction n with
  | zero => rfl
  | succ n ih => rw [List.replicate_succ, nv, ih]; rfl
theorem nv_lt {l : List Int} (h : IsW l) : nv l < 4294967296 ^ l.length := by
  induction l with
  | nil => simp [nv]
  | cons a l ih =>
    have h1 := ih h.cons.2
    have h2 := h.cons.1
    rw [nv, List.length_cons, Nat.pow_succ]
    omega
theorem nv_set {l : List Int} {j : Nat} (hj : j < l.length) (v : Int) : nv (l.set j v) + (l.getD j 0).toNat * 4294967296 ^ j = nv l + v.toNat * 4294967296 ^ j := by
  induction l generalizing j with
  | nil => simp at hj
  | cons a l ih =>
    cases j with
    | zero => simp [nv]; omega
    | succ j =>
      have := ih (j := j) (by simpa using hj)
      rw [List.set_cons_succ, nv, nv, List.getD_cons_succ, Nat.pow_succ, ← Nat.mul_assoc, ← Nat.mul_assoc]
      omega
theorem nv_take_succ {l : List Int} {j : Nat} (hj : j < l.length) : nv (l.take (j + 1)) = nv (l.take j) + (l.getD j 0).toNat * 4294967296 ^ j := by
  rw [List.take_succ_eq_append_getElem hj, nv_append, List.length_take, Nat.min_eq_left (by omega), List.getD_eq_getElem?_getD, List.getElem?_eq_getElem hj]
  simp [nv, Nat.mul_comm]
theorem nv_take_get (l : List Int) (j : Nat) : nv (l.take (j + 1)) = nv (l.take j) + (l.getD j 0).toNat * 4294967296 ^ j := by
  by_cases hj : j < l.length
  · exact nv_take_succ hj
  · rw [List.take_of_length_le (by omega), List.take_of_length_le (by omega), List.getD_eq_getElem?_getD, List.getElem?_eq_none (by omega)]
    simp
theorem IsW.get {l : List Int} (h : IsW l) (j : Nat) : 0 ≤ l.getD j 0 ∧ l.getD j 0 < 4294967296 := by
  rw [List.getD_eq_getElem?_getD]
  cases hx : l[j]? with
  | none => simp
  | some v => exact h v (List.mem_of_getElem? hx)
theorem words_len {n L : Nat} (h : n < 4294967296 ^ L) : (words n).length ≤ L := by
  induction L generalizing n with
  | zero => rw [show n = 0 by omega, words_zero]; exact Nat.le_refl _
  | succ L ih =>
    by_cases h0 : n = 0
    · rw [h0, words_zero]; exact Nat.zero_le _
    · rw [words_pos h0, List.length_cons]
      have := ih (n := n / 4294967296) (by rw [Nat.pow_succ] at h; omega)
      omega
theorem lt_len (n : Nat) : n < 4294967296 ^ (words n).length := by
  have := nv_lt (isW_words n)
  rwa [nv_words] at this
theorem words_nil {n : Nat} : words n = [] ↔ n = 0 := by
  constructor
  · intro h
    have := nv_words n
    rw [h] at this
    exact this.symm
  · rintro rfl; exact words_zero
theorem words_len_zero {n : Nat} : (words n).length = 0 ↔ n = 0 := by
  rw [List.length_eq_zero_iff, words_nil]
/-- Words whose last one is not nought are the number's words. -/
theorem words_of {l : List Int} (h : IsW l) (hl : l = [] ∨ (l.getD (l.length - 1) 0) ≠ 0) : words (nv l) = l := by
  induction l with
  | nil => exact words_zero
  | cons a l ih =>
    have h1 := h.cons
    have hne : nv (a :: l) ≠ 0 := by
      rw [nv]
      cases l with
      | nil =>
        rcases hl with hl | hl
        · cases hl
        · simp at hl
          omega
      | cons b m =>
        have ih' := ih h1.2 (.inr (by rcases hl with hl | hl; cases hl; simpa using hl))
        have : nv (b :: m) ≠ 0 := fun e => by rw [e, words_zero] at ih'; cases ih'
        omega
    rw [words_pos hne, nv]
    have e1 : ((a.toNat + 4294967296 * nv l) % 4294967296 : Nat) = a.toNat := by omega
    have e2 : (a.toNat + 4294967296 * nv l) / 4294967296 = nv l := by omega
    rw [e1, e2, Int.toNat_of_nonneg h1.1.1]
    congr 1
    apply ih h1.2
    cases l with
    | nil => exact .inl rfl
    | cons b m => exact .inr (by rcases hl with hl | hl; cases hl; simpa using hl)
theorem rd_eq {l : List Int} {i : Nat} : rd l (i : Int) = l.getD i 0 := by unfold Nv.rd; rw [Int.toNat_natCast]
theorem wrap64_eq {n : Int} (h1 : -9223372036854775808 ≤ n) (h2 : n < 9223372036854775808) : wrap64 n = n := by unfold wrap64; omega
theorem wu64 (n : Int) : IntKind.u64.wrap n = n % 18446744073709551616 := by simp [IntKind.wrap, IntKind.bits, IntKind.signed]
theorem wrapU64_eq {n : Int} (h1 : 0 ≤ n) (h2 : n < 18446744073709551616) : IntKind.u64.wrap n = n := by rw [show IntKind.u64.wrap n = n % 18446744073709551616 from by simp [IntKind.wrap, IntKind.bits, IntKind.signed]]; omega
/-- What a word of a number is. -/
theorem words_get (n : Nat) (i : Nat) : (words n).getD i 0 = ((n / 4294967296 ^ i % 4294967296 : Nat) : Int) := by
  induction i generalizing n with
  | zero =>
    by_cases h : n = 0
    · subst h; rw [words_zero]; simp
    · rw [words_pos h]; simp
  | succ i ih =>
    by_cases h : n = 0
    · subst h; rw [words_zero]; simp
    · rw [words_pos h, List.getD_cons_succ, ih, Nat.div_div_eq_div_mul, Nat.pow_succ, Nat.mul_comm 4294967296]
end Nv
end Go.Proofs.YtelgobelbeabaaaGreatDoor
namespace Go.Proofs.YtelgobelbeabaaaGreatDoor
open Go.RowKit
namespace Nv

/-- A fact that the walk does not look into. -/
structure Far (p : Prop) : Prop where
  out : p
/-- A slice's words: where they lie, how many there is room for. -/
def Rd (w : World) (A : Option Addr) (c : Nat) (l : List Int) : Prop := l.length ≤ c ∧ (A = none → c = 0) ∧ ∀ j, j < l.length → ∃ ad, A = some ad ∧ w.cell? (ad.add j) = some (.int .u32 (l.getD j 0))
theorem Rd.at {w : World} {A : Option Addr} {c : Nat} {l : List Int} (h : Rd w A c l) {i : Int} (h0 : 0 ≤ i) (h1 : i < l.length) : ∃ ad, A = some ad ∧ w.cell? (ad.add i.toNat) = some (.int .u32 (rd l i)) := h.2.2 i.toNat (by omega)
theorem Rd.get {w : World} {A : Option Addr} {c : Nat} {l : List Int} (h : Rd w A c l) {j : Nat} (h1 : j < l.length) : ∃ ad, A = some ad ∧ ∃ x, x = l.getD j 0 ∧ w.cell? (ad.add j) = some (.int .u32 x) := by
  obtain ⟨ad, e, hc⟩ := h.2.2 j h1
  exact ⟨ad, e, _, rfl, hc⟩
theorem Rd.below {w w' : World} {A : Option Addr} {c : Nat} {l : List Int} (h : Rd w A c l) (hb : Below w.heap.size w w') : Rd w' A c l := ⟨h.1, h.2.1, fun j hj => by
  obtain ⟨ad, e, hc⟩ := h.2.2 j hj
  exact ⟨ad, e, below_keep hb hc⟩⟩
theorem Rd.nil (w : World) : Rd w none 0 [] := ⟨Nat.le_refl _, fun _ => rfl, fun j hj => by simp at hj⟩
theorem Rd.take {w : World} {A : Option Addr} {c : Nat} {l : List Int} (h : Rd w A c l) (n : Nat) : Rd w A c (l.take n) := ⟨by have := h.1; rw [List.length_take]; omega, h.2.1, fun j hj => by
  rw [List.length_take] at hj
  obtain ⟨ad, e, hc⟩ := h.2.2 j (by omega)
  refine ⟨ad, e, ?_⟩
  rw [hc, List.getD_eq_getElem?_getD, List.getD_eq_getElem?_getD, List.getElem?_take, if_pos (by omega)]⟩
/-- A row of words of the call's own. -/
def U (w : World) (base : Nat) (v : Value) (l : List Int) : Prop := w.ownsRow base 99 1 v l.length (l.map (Value.int .u32))
theorem U.nil (w : World) (base : Nat) : U w base (.slice none 0 0) [] := World.ownsRow_nil _ _ _ _
theorem U.alloc {w : World} {base : Nat} {v : Value} {l : List Int} (h : U w base v l) (o : Obj) : U (w.alloc o) base v l := World.ownsRow.alloc h o
theorem U.drewN {w : World} {base : Nat} {v : Value} {l : List Int} (h : U w base v l) (n : Nat) : U (w.drewN n) base v l := h
theorem U.rd {w : World} {base : Nat} {v : Value} {l : List Int} (h : U w base v l) : ∃ A c, v = .slice A l.length c ∧ Rd w A c l := by
  rcases h.2 with ⟨rfl, h0⟩ | ⟨g, cap, cur, rfl, hg, hh, hnc, r⟩
  · have : l = [] := List.eq_nil_of_length_eq_zero h0
    subst this
    exact ⟨none, 0, rfl, Rd.nil _⟩
  · refine ⟨_, cap, rfl, hnc, fun h => (by cases h), fun j hj => ⟨_, rfl, ?_⟩⟩
    have := World.ownsRow.cells h (g := g) rfl j (.int .u32 (l.getD j 0)) (by simp [List.getD_eq_getElem?_getD, List.getElem?_eq_getElem hj])
    exact this
theorem U.keep {w w' : World} {base : Nat} {v : Value} {l : List Int} (h : U w base v l) (hb : Below w.heap.size w w') : U w' base v l := by
  refine ⟨h.1, ?_⟩
  rcases h.2 with h2 | ⟨g, cap, cur, rfl, hg, hh, r⟩
  · exact .inl h2
  · exact .inr ⟨g, cap, cur, rfl, hg, (hb.block g (by have := (Array.getElem?_eq_some_iff.1 hh).1; exact this)).trans hh, r⟩
theorem U.lower {w : World} {base base' : Nat} {v : Value} {l : List Int} (h : U w base v l) (hb : base' ≤ base) : U w base' v l := World.ownsRow.mono h hb
theorem info_w : (Tryz.prog.info? 99).map (fun i => (i.zero, i.size, i.bytes)) = some (some (.int .u32 0), 1, 4) := by kernel_rfl
/-- What a function of words tells: a row of its own, and all that was is as it was. -/
def Tells (w : World) (r : List Int) (e : Ending) (w' : World) : Prop := ∃ v, e = .returned v ∧ U w' w.heap.size v r ∧ Below w.heap.size w w'
theorem news_of {w : World} {ad : Addr} {c : Nat} {l : List Int} (h : Rd w (some ad) c l) : ∀ j u, (l.map (Value.int .u32))[j]? = some u → w.cell? (ad.add j) = some u := by
  intro j u hj
  rw [List.getElem?_map] at hj
  obtain ⟨x, hx, rfl⟩ := Option.map_eq_some_iff.1 hj
  have hlt := (List.getElem?_eq_some_iff.1 hx).1
  obtain ⟨ad', e, hc⟩ := h.2.2 j hlt
  cases e
  rw [hc, List.getD_eq_getElem?_getD, hx]
  rfl
theorem one_cells (l : List Int) : ∀ u ∈ l.map (Value.int .u32), u.oneCell' = true := by
  intro u hu
  obtain ⟨x, -, rfl⟩ := List.mem_map.1 hu
  rfl
/-- append(v, words..). -/
theorem append_rows {w : World} {ops : Array Oper} {rest : List Oper} {o : Oper} {a : Act} {Q : Exit → Act → World → Prop} (hgd : o.guard = none) (s x : Operand)
    (ho : o.op = .call { callee := .builtin .append, args := #[s, x], argTypes := #[154, 154] }) (base : Nat) {v : Value} {xs l : List Int} {A : Option Addr} {c n : Nat}
    (hs : a.eval s = v) (hown : U w base v xs) (hx : a.eval x = .slice A n c) (hn : n = l.length) (hR : Rd w A c l) (hlen : xs.length + l.length ≤ 4000000) (hbase : base ≤ w.heap.size)
    (h : ∀ v' w', U w' base v' (xs ++ l) → w.grownBy w' v.ownBlock → wpList Tryz.prog ops Q rest (a.put o.dst v') w') : wpList Tryz.prog ops Q (o :: rest) a w := by
  obtain ⟨i0, hi, hz0, hz1, hz2⟩ := info_parts info_w
  subst hn
  cases A with
  | none =>
    have hc := hR.2.1 rfl
    have hl : l = [] := List.eq_nil_of_length_eq_zero (by have := hR.1; omega)
    subst hl
    subst hc
    refine wpList_append_own_none hgd s x 154 ho base 99 i0 1 Tryz.underlying154 hi v _ _ hs hown hx (h _ _ ?_ (World.grownBy.refl _ _))
    rw [List.append_nil]
    exact hown
  | some ad =>
    refine wpList_append_own w hgd s x 154 ho base 99 i0 (.int .u32 0) 1 4 Tryz.underlying154 hi hz0 hz1 hz2 rfl (by decide) v _ _ hs hown ad _ c (l.map (.int .u32)) hx (by simp) (news_of hR) (one_cells l) (by unfold maxLen; omega) (by omega) hbase fun v' w' h2 h3 _ => h v' w' ?_ h3
    unfold U
    rw [List.length_append, List.map_append]
    exact h2
theorem Rd.one (w : World) (x : Int) : Rd (w.alloc (.cells #[.int .u32 x] 99)) (some ⟨w.heap.size, 0, none⟩) 1 [x] := ⟨Nat.le_refl _, fun h => (by cases h), fun j hj => ⟨_, rfl, by
  have : j = 0 := by simpa using hj
  subst this
  exact HasB.cell (HasB.new w _ _) 0⟩⟩
/-- A cell of an own row. -/
theorem U.cell {w : World} {base g n cap : Nat} {l : List Int} (h : U w base (.slice (some ⟨g, 0, none⟩) n cap) l) (hn : l.length = n) {j : Nat} (hj : j < n) : ∃ x, l.getD j 0 = x ∧ w.cell? ⟨g, j, none⟩ = some (.int .u32 x) ∧ w.frozen? ⟨g, j, none⟩ = false := by
  subst hn
  refine ⟨_, rfl, ?_, World.ownsRow.frozenAt h j⟩
  rw [World.ownsRow.cellAt h j (by omega), List.getElem?_map, List.getD_eq_getElem?_getD, List.getElem?_eq_getElem hj]
  rfl
theorem U.set {w : World} {base g n cap : Nat} {l : List Int} (h : U w base (.slice (some ⟨g, 0, none⟩) n cap) l) (hn : l.length = n) (j : Nat) (x : Int) : U (w.setCell ⟨g, j, none⟩ (.int .u32 x)) base (.slice (some ⟨g, 0, none⟩) n cap) (l.set j x) := by
  subst hn
  have := (World.ownsRow.stored h j (.int .u32 x)).1
  unfold U
  rw [List.length_set, List.map_set]
  exact this
/-- make([]uint32, n). -/
theorem make_words {w : World} {ops : Array Oper} {rest : List Oper} {o : Oper} {a : Act} {Q : Exit → Act → World → Prop} (hg : o.guard = none) (l c : Operand) (hop : o.op = Op.makeSlice 154 l c) (base : Nat)
    (L C : Int) (n : Nat) (hl : a.eval l = .int .i64 L) (hc : a.eval c = .int .i64 C) (hL : L = (n : Int)) (hC : C = (n : Int)) (hn : n ≤ 4000000) (hbase : base ≤ w.heap.size)
    (hK : ∀ w', U w' base (.slice (some ⟨w.heap.size, 0, none⟩) n n) (List.replicate n 0) → w.grownBy w' none → wpList Tryz.prog ops Q rest (a.put o.dst (.slice (some ⟨w.heap.size, 0, none⟩) n n)) w') : wpList Tryz.prog ops Q (o :: rest) a w := by
  obtain ⟨i0, hi, hz0, hz1, hz2⟩ := info_parts info_w
  refine wpList_make_full w hg l c 154 hop base 99 i0 (.int .u32 0) 1 Tryz.underlying154 hi hz0 hz1 .i64 .i64 L C n hl hc hL hC (by rw [hz2]; omega) (by unfold maxLen; omega) hbase fun w' h1 h2 => hK w' ?_ h2
  rw [show Value.cells (.int .u32 0) = #[.int .u32 0] from rfl, toList_madeCells_one, Nat.mul_one] at h1
  unfold U
  rw [List.length_replicate, List.map_replicate]
  exact h1
theorem run_take (W : World) (A : Option Addr) (n c k : Nat) (hk : k ≤ c) : (Instr.slice 154 (.slice A n c) none (some (.int .i64 (k : Int))) none).run Tryz.prog W = .ok (.slice A k c) W := by
  obtain ⟨i0, hi, hz0, hz1, hz2⟩ := info_parts info_w
  have hel : Tryz.prog.elem 154 = 99 := by simp [Program.elem, Tryz.underlying154]
  have ha : (A.map fun x => x.add 0) = A := by cases A <;> simp [Addr.add]
  rw [run_slice_h W 154 A n c (by rw [hel]; exact Tryz.underlying154) .i64 (k : Int) (by omega) (by omega), hel]
  simp [sizeOf, typeInfo, hi, hz1, sliced, Result.andThen, ha]
end Nv
end Go.Proofs.YtelgobelbeabaaaGreatDoor
namespace Go.Proofs.YtelgobelbeabaaaGreatDoor
open Go.RowKit
namespace Nv

theorem words_take {l : List Int} (hW : IsW l) {k : Nat} (hk : k ≤ l.length) (hv : nv (l.take k) = nv l) (h0 : k = 0 ∨ l.getD (k - 1) 0 ≠ 0) : words (nv l) = l.take k := by
  rw [← hv]
  apply words_of (hW.take k)
  rcases h0 with rfl | h0
  · exact .inl (by simp)
  · by_cases hk0 : k = 0
    · subst hk0; exact .inl (by simp)
    · right
      rw [List.length_take, Nat.min_eq_left hk, List.getD_eq_getElem?_getD, List.getElem?_take, if_pos (by omega), ← List.getD_eq_getElem?_getD]
      exact h0
set_option maxRecDepth 100000 in
theorem ref_Norm {l : List Int} {A : Option Addr} {n c : Nat} {w : World} (hnl : l.length = n) (hr : Rd w A c l) (hW : IsW l) (hn : l.length ≤ 1000000) :
    Calls Tryz.prog 138 #[.slice A n c] w (Tells w (words (nv l))) := by
  subst hnl
  have HR := Lib.hid hr
  have HW := Lib.hid hW
  clear hr hW
  go_enter Tryz.func138, Tryz.ntmps138
  go_wp2
  go_loopw [3] (fun i wr => ∃ k : Nat, k ≤ l.length ∧ i = .int .i64 k ∧ Hid (nv (l.take k) = nv l) ∧ Hid (Below w.heap.size w wr)) (fun i _ => (intOf i).toNat)
  case atStart => exact ⟨l.length, Nat.le_refl _, rfl, Lib.hid (by rw [List.take_length]), Lib.hid (Below.refl _ _)⟩
  case round =>
    obtain ⟨k, hk, rfl, hv, hb⟩ := hrel
    have hsz := hb.out.size
    have hR' := HR.out.below hb.out
    have hcut := fun W => run_take W A l.length c k (by have := hR'.1; omega)
    have hlt : (l.take k).length = k := by rw [List.length_take]; omega
    have fin : words (nv l) = l.take k → ∀ (v' : Value) (w' : World), U w' w.heap.size v' ([] ++ l.take k) → wr.grownBy w' none → Tells w (words (nv l)) (.returned v') w' := by
      intro hw v' w' hu hg
      exact ⟨v', rfl, by rw [hw]; exact hu, (hb.out).grown hg (by omega) (by simp)⟩
    by_cases hk0 : 0 < (k : Int)
    · obtain ⟨ad, rfl, x, hx, hcell⟩ := hR'.get (j := k - 1) (by omega)
      replace hx := Far.mk hx
      by_cases hz : x = 0
      · have hzb : (x == 0) = true := by simp [hz]
        go_wp2
        go_roundw
        case rel =>
          refine ⟨k - 1, by omega, by go_num, Lib.hid ?_, hb⟩
          have hv' := hv.out
          have e := nv_take_succ (l := l) (j := k - 1) (by omega)
          rw [Nat.sub_add_cancel (by omega), hv'] at e
          rw [← hx.out, hz] at e
          simp only [Int.toNat_zero, Nat.zero_mul, Nat.add_zero] at e
          exact e.symm
        case measure => simp [intOf]; omega
      · have hzb : (x == 0) = false := by simp [hz]
        have hw := words_take HW.out hk hv.out (.inr (by rw [← hx.out]; exact hz))
        go_wp2_with (at_builtin; go_must (refine append_rows rfl _ _ rfl w.heap.size rfl (U.nil _ _) rfl hlt.symm (hR'.take k) (by simp; omega) hsz ?_))
        intro v' w' hu hg
        go_wp2
        go_ret
        exact fin hw _ _ hu hg
    · have hw := words_take HW.out hk hv.out (.inl (by omega))
      go_wp2_with (at_builtin; go_must (refine append_rows rfl _ _ rfl w.heap.size rfl (U.nil _ _) rfl hlt.symm (hR'.take k) (by simp; omega) hsz ?_))
      intro v' w' hu hg
      go_wp2
      go_ret
      exact fin hw _ _ hu hg
end Nv
end Go.Proofs.YtelgobelbeabaaaGreatDoor
namespace Go.Proofs.YtelgobelbeabaaaGreatDoor
open Go.RowKit
namespace Nv

theorem ref_word {l : List Int} {A : Option Addr} {n c : Nat} {J : Int} {w : World} (j : Nat) (x : Int) (hx : l.getD j 0 = x) (hJ : J = (j : Int)) (hnl : l.length = n) (hr : Rd w A c l) (hW : IsW l) :
    Calls Tryz.prog 139 #[.slice A n c, .int .i64 J] w fun e w' => e = .returned (.int .u64 x) ∧ w' = w := by
  subst hJ
  subst hnl
  have hb := hW.get j
  rw [hx] at hb
  have HR := Far.mk hr
  have HX := Far.mk hx
  clear hr hx
  go_enter Tryz.func139, Tryz.ntmps139
  by_cases hj : j < l.length
  · obtain ⟨ad, rfl, y, hy, hcell⟩ := HR.out.get hj
    have : y = x := hy.trans HX.out
    subst this
    clear hy
    go_wp2
    go_ret
    exact ⟨rfl, rfl⟩
  · have : x = 0 := by
      rw [← HX.out, List.getD_eq_getElem?_getD, List.getElem?_eq_none (by omega)]
      rfl
    subst this
    go_wp2
    go_ret
    exact ⟨rfl, rfl⟩

theorem tells_norm {w w2 w3 : World} {N : Nat} {r : List Int} {v3 : Value} (hb2 : Below w.heap.size w w2) (hu3 : U w3 w2.heap.size v3 r) (hb3 : Below w2.heap.size w2 w3) (hr : r = words N) : Tells w (words N) (.returned v3) w3 := by
  subst hr
  exact ⟨v3, rfl, hu3.lower hb2.size, hb2.trans (hb3.mono hb2.size)⟩
theorem plus_step {l m out : List Int} {k : Nat} {x1 x2 y : Int} (hlen : out.length = k) (hW : IsW out) (hv : nv out + y.toNat * 4294967296 ^ k = nv (l.take k) + nv (m.take k)) (h1 : l.getD k 0 = x1) (h2 : m.getD k 0 = x2)
    (b1 : 0 ≤ x1 ∧ x1 < 4294967296) (b2 : 0 ≤ x2 ∧ x2 < 4294967296) (by' : 0 ≤ y ∧ y ≤ 1) :
    IsW (out ++ [(x1 + x2 + y) % 4294967296]) ∧ nv (out ++ [(x1 + x2 + y) % 4294967296]) + ((x1 + x2 + y) / 4294967296).toNat * 4294967296 ^ (k + 1) = nv (l.take (k + 1)) + nv (m.take (k + 1)) := by
  refine ⟨hW.append (IsW.one (by omega) (by omega)), ?_⟩
  rw [nv_append, nv_take_get, nv_take_get, h1, h2, hlen, Nat.pow_succ]
  simp only [nv, Nat.mul_zero, Nat.add_zero]
  generalize 4294967296 ^ k = P at *
  have e : P * ((x1 + x2 + y) % 4294967296).toNat + ((x1 + x2 + y) / 4294967296).toNat * (P * 4294967296) = x1.toNat * P + x2.toNat * P + y.toNat * P := by
    rw [show ((x1 + x2 + y) / 4294967296).toNat * (P * 4294967296) = P * (4294967296 * ((x1 + x2 + y) / 4294967296).toNat) by ac_rfl, ← Nat.mul_add, ← Nat.add_mul, ← Nat.add_mul, Nat.mul_comm P]
    congr 1
    omega
  omega
set_option maxRecDepth 100000 in
theorem ref_Plus {l m : List Int} {A B : Option Addr} {n p c d : Nat} {w : World} (hnl : l.length = n) (hpm : m.length = p) (hr : Rd w A c l) (hW : IsW l) (hn : l.length ≤ 100000) (hr2 : Rd w B d m) (hW2 : IsW m) (hn2 : m.length ≤ 100000) :
    Calls Tryz.prog 103 #[.slice A n c, .slice B p d] w (Tells w (words (nv l + nv m))) := by
  subst hnl
  subst hpm
  have HR := Far.mk hr
  have HW := Far.mk hW
  have HR2 := Far.mk hr2
  have HW2 := Far.mk hW2
  clear hr hW hr2 hW2
  go_enter Tryz.func103, Tryz.ntmps103
  go_wp2
  go_loopw [5, 6, 7] (fun v cy i wr => ∃ (k : Nat) (out : List Int) (y : Int), k ≤ max l.length m.length ∧ cy = .int .u64 y ∧ i = .int .i64 k ∧ U wr w.heap.size v out ∧ (0 ≤ y ∧ y ≤ 1) ∧ out.length = k ∧ Far (IsW out ∧ nv out + y.toNat * 4294967296 ^ k = nv (l.take k) + nv (m.take k)) ∧ Far (Below w.heap.size w wr))
    (fun _ _ i _ => max l.length m.length - (intOf i).toNat)
  case atStart => exact ⟨0, [], 0, Nat.zero_le _, rfl, rfl, U.nil _ _, by omega, rfl, ⟨fun a ha => (by cases ha), by simp [nv]⟩, ⟨Below.refl _ _⟩⟩
  case round =>
    obtain ⟨k, out, y, hk, rfl, rfl, hu, hy, hlen, hv, hb⟩ := hrel
    have hsz := hb.out.size
    by_cases hlt : k < max l.length m.length
    · obtain ⟨x1, hx1⟩ : ∃ x, l.getD k 0 = x := ⟨_, rfl⟩
      obtain ⟨x2, hx2⟩ : ∃ x, m.getD k 0 = x := ⟨_, rfl⟩
      have b1 := HW.out.get k
      have b2 := HW2.out.get k
      rw [hx1] at b1
      rw [hx2] at b2
      replace hx1 := Far.mk hx1
      replace hx2 := Far.mk hx2
      by_cases hl : k < l.length
      · go_wp2_with (first
          | (go_at_call 139; go_must ((first | (with_reducible refine (ref_word k x1 hx1.out rfl rfl (HR.out.below hb.out) HW.out).mono ?_) | (with_reducible refine (ref_word k x2 hx2.out rfl rfl (HR2.out.below hb.out) HW2.out).mono ?_)); rintro e w' ⟨rfl, rfl⟩))
          | (at_builtin; go_must (refine append_rows rfl _ _ rfl w.heap.size rfl (hu.alloc _) rfl rfl (Rd.one _ _) (by simp; omega) (by simp; omega) ?_)))
        intro v' w2 hu2 hg2
        have hb2 := below_grown hb.out (by omega) hu (Nat.le_refl _) hg2
        clear hu hg2 hb
        go_wp2
        go_roundw
        case rel => exact ⟨k + 1, _, (x1 + x2 + y) / 4294967296, by omega, by go_num, by go_num, hu2, by omega, by simp; omega, ⟨plus_step hlen hv.out.1 hv.out.2 hx1.out hx2.out b1 b2 hy⟩, ⟨hb2⟩⟩
        case measure => simp [intOf]; omega
      · have hl2 : k < m.length := by omega
        go_wp2_with (first
          | (go_at_call 139; go_must ((first | (with_reducible refine (ref_word k x1 hx1.out rfl rfl (HR.out.below hb.out) HW.out).mono ?_) | (with_reducible refine (ref_word k x2 hx2.out rfl rfl (HR2.out.below hb.out) HW2.out).mono ?_)); rintro e w' ⟨rfl, rfl⟩))
          | (at_builtin; go_must (refine append_rows rfl _ _ rfl w.heap.size rfl (hu.alloc _) rfl rfl (Rd.one _ _) (by simp; omega) (by simp; omega) ?_)))
        intro v' w2 hu2 hg2
        have hb2 := below_grown hb.out (by omega) hu (Nat.le_refl _) hg2
        clear hu hg2 hb
        go_wp2
        go_roundw
        case rel => exact ⟨k + 1, _, (x1 + x2 + y) / 4294967296, by omega, by go_num, by go_num, hu2, by omega, by simp; omega, ⟨plus_step hlen hv.out.1 hv.out.2 hx1.out hx2.out b1 b2 hy⟩, ⟨hb2⟩⟩
        case measure => simp [intOf]; omega
    · have hke : k = max l.length m.length := by omega
      go_wp2_with (at_builtin; go_must (refine append_rows rfl _ _ rfl w.heap.size rfl (hu.alloc _) rfl rfl (Rd.one _ _) (by simp; omega) (by simp; omega) ?_))
      intro v' w2 hu2 hg2
      have hb2 := below_grown hb.out (by omega) hu (Nat.le_refl _) hg2
      clear hu hg2 hb
      obtain ⟨A', c', rfl, hR2⟩ := hu2.rd
      have hW3 : IsW (out ++ [y]) := hv.out.1.append (IsW.one (by omega) (by omega))
      have hN := ref_Norm (n := max l.length m.length + 1) (by simp; omega) hR2 hW3 (by simp; omega)
      replace hN := Far.mk hN
      go_wp2_with (go_at_call 138; go_must (with_reducible refine hN.out.mono ?_); rintro e w3 ⟨v3, rfl, hu3, hb3⟩)
      go_ret
      refine tells_norm hb2 hu3 hb3 ?_
      congr 1
      have e := hv.out.2
      rw [List.take_of_length_le (by omega), List.take_of_length_le (by omega)] at e
      rw [nv_append, hlen, ← e]
      simp [nv, Nat.mul_comm]
end Nv
end Go.Proofs.YtelgobelbeabaaaGreatDoor
namespace Go.Proofs.YtelgobelbeabaaaGreatDoor
open Go.RowKit
namespace Nv

theorem nv_take_le (l : List Int) (k : Nat) : nv (l.take k) ≤ nv l := by
  have e := nv_append (l.take k) (l.drop k)
  rw [List.take_append_drop] at e
  omega
theorem nv_take_all {l : List Int} {k : Nat} (h : nv l < 4294967296 ^ k) : nv (l.take k) = nv l := by
  by_cases hk : l.length ≤ k
  · rw [List.take_of_length_le hk]
  · have e := nv_append (l.take k) (l.drop k)
    rw [List.take_append_drop, List.length_take, Nat.min_eq_left (by omega)] at e
    have : nv (l.drop k) = 0 := by
      rcases Nat.eq_zero_or_pos (nv (l.drop k)) with h0 | h0
      · exact h0
      · have := Nat.le_mul_of_pos_right (4294967296 ^ k) h0
        omega
    rw [this] at e
    omega
theorem less_step {l m out : List Int} {k : Nat} {x1 x2 y d b : Int} (hlen : out.length = k) (hW : IsW out) (hv : nv out + nv (m.take k) = nv (l.take k) + y.toNat * 4294967296 ^ k) (h1 : l.getD k 0 = x1) (h2 : m.getD k 0 = x2)
    (b1 : 0 ≤ x1 ∧ x1 < 4294967296) (b2 : 0 ≤ x2 ∧ x2 < 4294967296) (by' : 0 ≤ y ∧ y ≤ 1) (hd : d = (x1 - x2 - y) % 4294967296) (hb : b = if x1 - x2 - y < 0 then 1 else 0) :
    IsW (out ++ [d]) ∧ nv (out ++ [d]) + nv (m.take (k + 1)) = nv (l.take (k + 1)) + b.toNat * 4294967296 ^ (k + 1) := by
  refine ⟨hW.append (IsW.one (by omega) (by omega)), ?_⟩
  rw [nv_append, nv_take_get, nv_take_get, h1, h2, hlen, Nat.pow_succ]
  simp only [nv, Nat.mul_zero, Nat.add_zero]
  generalize 4294967296 ^ k = P at *
  have e : P * d.toNat + x2.toNat * P + y.toNat * P = x1.toNat * P + b.toNat * (P * 4294967296) := by
    rw [show b.toNat * (P * 4294967296) = (4294967296 * b.toNat) * P by ac_rfl, Nat.mul_comm P, ← Nat.add_mul, ← Nat.add_mul, ← Nat.add_mul]
    congr 1
    split at hb <;> omega
  omega
theorem less_end {l m out : List Int} {y : Int} (hlen : out.length = l.length) (hW : IsW out) (hWl : IsW l) (hv : nv out + nv (m.take l.length) = nv (l.take l.length) + y.toNat * 4294967296 ^ l.length) (hle : nv m ≤ nv l) (hy : 0 ≤ y ∧ y ≤ 1) : nv out = nv l - nv m := by
  have hl := nv_lt hWl
  have ho := nv_lt hW
  rw [hlen] at ho
  rw [nv_take_all (by omega), List.take_length] at hv
  have h01 : y.toNat = 0 ∨ y.toNat = 1 := by omega
  rcases h01 with h | h <;> rw [h] at hv <;> omega

set_option maxRecDepth 100000 in
theorem ref_Less {l m : List Int} {A B : Option Addr} {n p c d : Nat} {w : World} (hnl : l.length = n) (hpm : m.length = p) (hr : Rd w A c l) (hW : IsW l) (hn : l.length ≤ 100000) (hr2 : Rd w B d m) (hW2 : IsW m) (hle : nv m ≤ nv l) :
    Calls Tryz.prog 137 #[.slice A n c, .slice B p d] w (Tells w (words (nv l - nv m))) := by
  subst hnl
  subst hpm
  have HR := Far.mk hr
  have HW := Far.mk hW
  have HR2 := Far.mk hr2
  have HW2 := Far.mk hW2
  clear hr hW hr2 hW2
  go_enter Tryz.func137, Tryz.ntmps137
  go_wp2
  go_loopw [5, 6, 7] (fun v cy i wr => ∃ (k : Nat) (out : List Int) (y : Int), k ≤ l.length ∧ cy = .int .u64 y ∧ i = .int .i64 k ∧ U wr w.heap.size v out ∧ (0 ≤ y ∧ y ≤ 1) ∧ out.length = k ∧ Far (IsW out ∧ nv out + nv (m.take k) = nv (l.take k) + y.toNat * 4294967296 ^ k) ∧ Far (Below w.heap.size w wr))
    (fun _ _ i _ => l.length - (intOf i).toNat)
  case atStart => exact ⟨0, [], 0, Nat.zero_le _, rfl, rfl, U.nil _ _, by omega, rfl, ⟨fun a ha => (by cases ha), by simp [nv]⟩, ⟨Below.refl _ _⟩⟩
  case round =>
    obtain ⟨k, out, y, hk, rfl, rfl, hu, hy, hlen, hv, hb⟩ := hrel
    have hsz := hb.out.size
    by_cases hlt : k < l.length
    · obtain ⟨x1, hx1⟩ : ∃ x, l.getD k 0 = x := ⟨_, rfl⟩
      obtain ⟨x2, hx2⟩ : ∃ x, m.getD k 0 = x := ⟨_, rfl⟩
      have b1 := HW.out.get k
      have b2 := HW2.out.get k
      rw [hx1] at b1
      rw [hx2] at b2
      replace hx1 := Far.mk hx1
      replace hx2 := Far.mk hx2
      go_wp2_with (first
        | (go_at_call 139; go_must ((first | (with_reducible refine (ref_word k x1 hx1.out rfl rfl (HR.out.below hb.out) HW.out).mono ?_) | (with_reducible refine (ref_word k x2 hx2.out rfl rfl (HR2.out.below hb.out) HW2.out).mono ?_)); rintro e w' ⟨rfl, rfl⟩))
        | (at_builtin; go_must (refine append_rows rfl _ _ rfl w.heap.size rfl (hu.alloc _) rfl rfl (Rd.one _ _) (by simp; omega) (by simp; omega) ?_)))
      intro v' w2 hu2 hg2
      have hb2 := below_grown hb.out (by omega) hu (Nat.le_refl _) hg2
      clear hu hg2 hb
      go_wp2
      go_roundw
      case rel => exact ⟨k + 1, _, _, by omega, rfl, by go_num, hu2, (by simp only [wu64]; omega), by simp; omega, ⟨less_step hlen hv.out.1 hv.out.2 hx1.out hx2.out b1 b2 hy (by simp only [wu64]; omega) (by simp only [wu64]; split <;> omega)⟩, ⟨hb2⟩⟩
      case measure => simp [intOf]; omega
    · have hke : k = l.length := by omega
      subst hke
      obtain ⟨A', c', rfl, hR2⟩ := hu.rd
      have hN := ref_Norm (n := l.length) hlen hR2 hv.out.1 (by omega)
      replace hN := Far.mk hN
      go_wp2_with (go_at_call 138; go_must (with_reducible refine hN.out.mono ?_); rintro e w3 ⟨v3, rfl, hu3, hb3⟩)
      go_ret
      refine tells_norm hb.out hu3 hb3 ?_
      congr 1
      exact less_end hlen hv.out.1 HW.out hv.out.2 hle hy
def cmpN (a b : Nat) : Int := if a < b then -1 else if b < a then 1 else 0
theorem cmp_step {l m : List Int} {k : Nat} {x1 x2 : Int} (hW : IsW l) (hW2 : IsW m) (hv : nv l + nv (m.take (k + 1)) = nv m + nv (l.take (k + 1))) (h1 : l.getD k 0 = x1) (h2 : m.getD k 0 = x2)
    (b1 : 0 ≤ x1 ∧ x1 < 4294967296) (b2 : 0 ≤ x2 ∧ x2 < 4294967296) : (x1 < x2 → nv l < nv m) ∧ (x2 < x1 → nv m < nv l) ∧ (x1 = x2 → nv l + nv (m.take k) = nv m + nv (l.take k)) := by
  rw [nv_take_get, nv_take_get, h1, h2] at hv
  have c1 : nv (l.take k) < 4294967296 ^ k := Nat.lt_of_lt_of_le (nv_lt (hW.take k)) (Nat.pow_le_pow_right (by decide) (by rw [List.length_take]; omega))
  have c2 : nv (m.take k) < 4294967296 ^ k := Nat.lt_of_lt_of_le (nv_lt (hW2.take k)) (Nat.pow_le_pow_right (by decide) (by rw [List.length_take]; omega))
  generalize 4294967296 ^ k = P at *
  refine ⟨fun h => ?_, fun h => ?_, fun h => ?_⟩
  · have := Nat.mul_le_mul_right P (show x1.toNat + 1 ≤ x2.toNat by omega)
    rw [Nat.add_mul, Nat.one_mul] at this
    omega
  · have := Nat.mul_le_mul_right P (show x2.toNat + 1 ≤ x1.toNat by omega)
    rw [Nat.add_mul, Nat.one_mul] at this
    omega
  · rw [h] at hv
    omega
set_option maxRecDepth 100000 in
theorem ref_Cmp {l m : List Int} {A B : Option Addr} {n p c d : Nat} {w : World} (hnl : l.length = n) (hpm : m.length = p) (hr : Rd w A c l) (hW : IsW l) (hn : l.length ≤ 100000) (hr2 : Rd w B d m) (hW2 : IsW m) (hn2 : m.length ≤ 100000) :
    Calls Tryz.prog 101 #[.slice A n c, .slice B p d] w fun e w' => e = .returned (.int .i64 (cmpN (nv l) (nv m))) ∧ ∃ q, w' = w.drewN q := by
  subst hnl
  subst hpm
  have HR := Far.mk hr
  have HW := Far.mk hW
  have HR2 := Far.mk hr2
  have HW2 := Far.mk hW2
  clear hr hW hr2 hW2
  obtain ⟨z, hz⟩ : ∃ z, cmpN (nv l) (nv m) = z := ⟨_, rfl⟩
  rw [hz]
  replace hz := Far.mk hz
  go_enter Tryz.func101, Tryz.ntmps101
  by_cases hlm : l.length < m.length
  all_goals
    go_wp2
    go_loopw [6] (fun i wr => ∃ (k : Nat), k ≤ max l.length m.length ∧ i = .int .i64 ((k : Int) - 1) ∧ Far (nv l + nv (m.take k) = nv m + nv (l.take k)) ∧ wr = w)
      (fun i _ => (intOf i + 1).toNat)
    case atStart => exact ⟨max l.length m.length, Nat.le_refl _, by go_num, ⟨by rw [List.take_of_length_le (by omega), List.take_of_length_le (by omega), Nat.add_comm]⟩, rfl⟩
    case round =>
      obtain ⟨k, hk, rfl, hv, rfl⟩ := hrel
      by_cases hk0 : 0 < k
      · obtain ⟨j, rfl⟩ : ∃ j, k = j + 1 := ⟨k - 1, by omega⟩
        obtain ⟨x1, hx1⟩ : ∃ x, l.getD j 0 = x := ⟨_, rfl⟩
        obtain ⟨x2, hx2⟩ : ∃ x, m.getD j 0 = x := ⟨_, rfl⟩
        have b1 := HW.out.get j
        have b2 := HW2.out.get j
        rw [hx1] at b1
        rw [hx2] at b2
        have st := Far.mk (cmp_step HW.out HW2.out hv.out hx1 hx2 b1 b2)
        replace hx1 := Far.mk hx1
        replace hx2 := Far.mk hx2
        have ej : ((j + 1 : Nat) : Int) - 1 = (j : Int) := by omega
        rw [ej]
        by_cases g1 : x1 < x2
        · have : z = -1 := by rw [← hz.out]; unfold cmpN; rw [if_pos (st.out.1 g1)]
          subst this
          go_wp2_with (go_at_call 139; go_must ((first | (with_reducible refine (ref_word j x1 hx1.out rfl rfl HR.out HW.out).mono ?_) | (with_reducible refine (ref_word j x2 hx2.out rfl rfl HR2.out HW2.out).mono ?_)); rintro e w' ⟨rfl, rfl⟩))
          go_ret
          exact ⟨rfl, 0, rfl⟩
        · by_cases g2 : x2 < x1
          · have : z = 1 := by rw [← hz.out]; unfold cmpN; rw [if_neg (by have := st.out.2.1 g2; omega), if_pos (st.out.2.1 g2)]
            subst this
            go_wp2_with (go_at_call 139; go_must ((first | (with_reducible refine (ref_word j x1 hx1.out rfl rfl HR.out HW.out).mono ?_) | (with_reducible refine (ref_word j x2 hx2.out rfl rfl HR2.out HW2.out).mono ?_)); rintro e w' ⟨rfl, rfl⟩))
            go_ret
            exact ⟨rfl, 0, rfl⟩
          · go_wp2_with (go_at_call 139; go_must ((first | (with_reducible refine (ref_word j x1 hx1.out rfl rfl HR.out HW.out).mono ?_) | (with_reducible refine (ref_word j x2 hx2.out rfl rfl HR2.out HW2.out).mono ?_)); rintro e w' ⟨rfl, rfl⟩))
            go_roundw
            case rel => exact ⟨j, by omega, by go_num, ⟨st.out.2.2 (by omega)⟩, by first | rfl | trivial⟩
            case measure => first | omega | (simp [intOf]; omega) | simp [intOf]
      · have hk0' : k = 0 := by omega
        subst hk0'
        have : z = 0 := by
          have e := hv.out
          simp [nv] at e
          rw [← hz.out]
          unfold cmpN
          rw [e, if_neg (Nat.lt_irrefl _), if_neg (Nat.lt_irrefl _)]
        subst this
        go_wp2
        go_ret
        exact ⟨rfl, 0, rfl⟩
end Nv
end Go.Proofs.YtelgobelbeabaaaGreatDoor
namespace Go.Proofs.YtelgobelbeabaaaGreatDoor
open Go.RowKit
namespace Nv

theorem getD_set_ne {l : List Int} {i j : Nat} (h : i ≠ j) (v : Int) : (l.set i v).getD j 0 = l.getD j 0 := by
  rw [List.getD_eq_getElem?_getD, List.getD_eq_getElem?_getD, List.getElem?_set_ne h]
/-- What holds of a product's row in the middle of a round. -/
structure Mid (l m out : List Int) (i k : Nat) (x y : Int) : Prop where
  len : out.length = l.length + m.length + 1
  isW : IsW out
  zero : ∀ j, i + m.length ≤ j → out.getD j 0 = 0
  val : nv out + y.toNat * 4294967296 ^ (i + k) = nv (l.take i) * nv m + x.toNat * (4294967296 ^ i * nv (m.take k))
theorem Mid.step {l m out : List Int} {i k : Nat} {x y z o p : Int} (h : Mid l m out i k x y) (hi : i < l.length) (hk : k < m.length) (hz : m.getD k 0 = z) (ho : out.getD (i + k) 0 = o) (bx : 0 ≤ x ∧ x < 4294967296) (bz : 0 ≤ z ∧ z < 4294967296)
    (bo : 0 ≤ o ∧ o < 4294967296) (by' : 0 ≤ y ∧ y < 4294967296) (hp : p = x * z + o + y) : Mid l m (out.set (i + k) (p % 4294967296)) i (k + 1) x (p / 4294967296) := by
  have hxz : 0 ≤ x * z := Int.mul_nonneg bx.1 bz.1
  refine ⟨by rw [List.length_set, h.len], h.isW.set _ (by omega) (by omega), fun j hj => ?_, ?_⟩
  · rw [getD_set_ne (by omega)]
    exact h.zero j hj
  · have e := nv_set (l := out) (j := i + k) (by have := h.len; omega) (p % 4294967296)
    have v := h.val
    rw [ho] at e
    rw [nv_take_get, hz, ← Nat.add_assoc, Nat.pow_succ]
    have hpn : p.toNat = x.toNat * z.toNat + o.toNat + y.toNat := by
      have : (x * z).toNat = x.toNat * z.toNat := by
        obtain ⟨a, rfl⟩ := Int.eq_ofNat_of_zero_le bx.1
        obtain ⟨b, rfl⟩ := Int.eq_ofNat_of_zero_le bz.1
        simp
        rfl
      omega
    have e1 : (p % 4294967296).toNat = p.toNat % 4294967296 := by omega
    have e2 : (p / 4294967296).toNat = p.toNat / 4294967296 := by omega
    rw [e1] at e
    rw [e2]
    have dm := Nat.div_add_mod p.toNat 4294967296
    rw [Nat.pow_add] at e v ⊢
    generalize nv (out.set (i + k) (p % 4294967296)) = N' at *
    generalize nv out = N at *
    generalize 4294967296 ^ i = P at *
    generalize 4294967296 ^ k = R at *
    generalize nv (m.take k) = M at *
    generalize nv (l.take i) * nv m = T at *
    have q1 : p.toNat / 4294967296 * (P * R * 4294967296) + p.toNat % 4294967296 * (P * R) = p.toNat * (P * R) := by
      rw [show p.toNat / 4294967296 * (P * R * 4294967296) = 4294967296 * (p.toNat / 4294967296) * (P * R) by ac_rfl, ← Nat.add_mul, dm]
    have q2 : p.toNat * (P * R) = x.toNat * (P * (z.toNat * R)) + o.toNat * (P * R) + y.toNat * (P * R) := by
      rw [hpn, Nat.add_mul, Nat.add_mul]
      congr 2
      ac_rfl
    have q3 : x.toNat * (P * (M + z.toNat * R)) = x.toNat * (P * M) + x.toNat * (P * (z.toNat * R)) := by rw [Nat.mul_add, Nat.mul_add]
    rw [q3]
    omega
theorem Mid.shut {l m out : List Int} {i : Nat} {x y : Int} (h : Mid l m out i m.length x y) (hi : i < l.length) (hx : l.getD i 0 = x) (by' : 0 ≤ y ∧ y < 4294967296) : Mid l m (out.set (i + m.length) y) (i + 1) 0 0 0 := by
  refine ⟨by rw [List.length_set, h.len], h.isW.set _ by'.1 by'.2, fun j hj => ?_, ?_⟩
  · rw [getD_set_ne (by omega)]
    exact h.zero j (by omega)
  · have e := nv_set (l := out) (j := i + m.length) (by have := h.len; omega) y
    have v := h.val
    rw [h.zero _ (Nat.le_refl _)] at e
    rw [List.take_length] at v
    simp only [Int.toNat_zero, Nat.zero_mul, Nat.add_zero] at e ⊢
    rw [nv_take_get, hx, Nat.add_mul, e, v]
    congr 1
    ac_rfl
theorem Mid.open {l m out : List Int} {i : Nat} (h : Mid l m out i 0 0 0) (x : Int) : Mid l m out i 0 x 0 := ⟨h.len, h.isW, h.zero, by have := h.val; simpa [nv] using this⟩

set_option maxRecDepth 100000 in
theorem ref_Times {l m : List Int} {A B : Option Addr} {n p c d : Nat} {w : World} (hnl : l.length = n) (hpm : m.length = p) (hr : Rd w A c l) (hW : IsW l) (hn : l.length ≤ 100000) (hr2 : Rd w B d m) (hW2 : IsW m) (hn2 : m.length ≤ 100000) :
    Calls Tryz.prog 134 #[.slice A n c, .slice B p d] w (Tells w (words (nv l * nv m))) := by
  subst hnl
  subst hpm
  have HR := Far.mk hr
  have HW := Far.mk hW
  have HR2 := Far.mk hr2
  have HW2 := Far.mk hW2
  clear hr hW hr2 hW2
  go_enter Tryz.func134, Tryz.ntmps134
  go_wp2_with (at_make; go_must (refine make_words rfl _ _ rfl w.heap.size _ _ (l.length + m.length + 1) rfl rfl (by omega) (by omega) (by omega) (Nat.le_refl _) ?_))
  intro w1 hu1 hg1
  have hb1 : Below w.heap.size w w1 := (Below.refl _ _).grown hg1 (Nat.le_refl _) (by simp)
  clear hg1
  go_wp2
  go_loopw [6] (fun i wr => ∃ (k : Nat) (out : List Int), k ≤ l.length ∧ i = .int .i64 k ∧ U wr w.heap.size (.slice (some ⟨w.heap.size, 0, none⟩) (l.length + m.length + 1) (l.length + m.length + 1)) out ∧ Far (Mid l m out k 0 0 0) ∧ Far (Below w.heap.size w wr))
    (fun i _ => l.length - (intOf i).toNat)
  case atStart => exact ⟨0, _, Nat.zero_le _, rfl, hu1, ⟨by simp, IsW.zeros _, fun j _ => by simp [List.getD_eq_getElem?_getD, List.getElem?_replicate]; split <;> rfl, by simp [nv, nv_zeros]⟩, ⟨hb1⟩⟩
  case round =>
    clear hu1 hb1
    obtain ⟨i, out, hi, rfl, hu, hm, hb⟩ := hrel
    have hsz := hb.out.size
    by_cases hlt : i < l.length
    · obtain ⟨x, hx⟩ : ∃ x, l.getD i 0 = x := ⟨_, rfl⟩
      have bx := HW.out.get i
      rw [hx] at bx
      replace hx := Far.mk hx
      replace hm := Far.mk (hm.out.open x)
      go_wp2
      go_loopw [7, 8] (fun cy j wr => ∃ (k : Nat) (out : List Int) (y : Int), k ≤ m.length ∧ cy = .int .u64 y ∧ j = .int .i64 k ∧ (0 ≤ y ∧ y < 4294967296) ∧ U wr w.heap.size (.slice (some ⟨w.heap.size, 0, none⟩) (l.length + m.length + 1) (l.length + m.length + 1)) out ∧ Far (Mid l m out i k x y) ∧ Far (Below w.heap.size w wr))
        (fun _ j _ => m.length - (intOf j).toNat)
      case atStart => exact ⟨0, out, 0, Nat.zero_le _, rfl, rfl, by omega, hu, hm, hb⟩
      case round =>
        clear hu hm hb hsz
        obtain ⟨k, out, y, hk, rfl, rfl, hy, hu, hm, hb⟩ := hrel
        have hsz := hb.out.size
        by_cases hkl : k < m.length
        · obtain ⟨z, hz⟩ : ∃ x, m.getD k 0 = x := ⟨_, rfl⟩
          have bz := HW2.out.get k
          rw [hz] at bz
          obtain ⟨o, ho, hco, hfo⟩ := hu.cell hm.out.len (j := i + k) (by omega)
          have bo := hm.out.isW.get (i + k)
          rw [ho] at bo
          obtain ⟨ad, rfl, x', hx', hc1⟩ := (HR.out.below hb.out).get hlt
          obtain rfl := hx'.trans hx.out
          obtain ⟨ad2, rfl, z', hz', hc2⟩ := (HR2.out.below hb.out).get hkl
          obtain rfl := hz'.trans hz
          have hxz0 : 0 ≤ x' * z' := Int.mul_nonneg bx.1 bz.1
          have hxz1 : x' * z' ≤ 18446744065119617025 := by
            have h1 := Int.mul_le_mul (show x' ≤ 4294967295 by omega) (show z' ≤ 4294967295 by omega) bz.1 (by decide)
            omega
          have st := Far.mk (hm.out.step hlt hkl hz ho bx bz bo hy rfl)
          replace hz := Far.mk hz
          replace ho := Far.mk ho
          clear hx' hz'
          have hset := fun q => (hu.drewN q).set hm.out.len (i + k) ((x' * z' + o + y) % 4294967296)
          go_wp2_with fail
          go_quiet (fail)
          go_wp2
          go_roundw
          case rel => exact ⟨k + 1, _, (x' * z' + o + y) / 4294967296, by omega, rfl, by go_num, by omega, hset _, st, ⟨(below_drawn hb.out).setCell (Nat.le_refl _) _⟩⟩
          case measure => simp [intOf]; omega
        · have hke : k = m.length := by omega
          subst hke
          obtain ⟨o, ho, hco, hfo⟩ := hu.cell hm.out.len (j := i + m.length) (by omega)
          have hset := hu.set hm.out.len (i + m.length) y
          have st := Far.mk (hm.out.shut hlt hx.out hy)
          clear ho
          go_wp2
          go_roundw
          case rel => exact ⟨i + 1, _, by omega, by go_num, hset, st, ⟨hb.out.setCell (Nat.le_refl _) _⟩⟩
          case measure => simp [intOf]; omega
    · have hke : i = l.length := by omega
      subst hke
      obtain ⟨A', c', e', hR2⟩ := hu.rd
      simp only [Value.slice.injEq] at e'
      obtain ⟨rfl, -, rfl⟩ := e'
      have hN := ref_Norm (n := l.length + m.length + 1) hm.out.len hR2 hm.out.isW (by have := hm.out.len; omega)
      replace hN := Far.mk hN
      have hlen := hm.out.len
      go_wp2_with (go_at_call 138; go_must (with_reducible refine hN.out.mono ?_); rintro e w3 ⟨v3, rfl, hu3, hb3⟩)
      go_ret
      refine tells_norm hb.out hu3 hb3 ?_
      congr 1
      have e := hm.out.val
      rw [List.take_length] at e
      simpa using e
set_option maxRecDepth 100000 in
theorem ref_Of {x : Int} (h0 : 0 ≤ x) (h1 : x < 18446744073709551616) (w : World) : Calls Tryz.prog 144 #[.int .u64 x] w (Tells w (words x.toNat)) := by
  go_enter Tryz.func144, Tryz.ntmps144
  have hR : Rd (w.alloc (.cells #[.int .u32 (x % 4294967296), .int .u32 (x / 4294967296)] 99)) (some ⟨w.heap.size, 0, none⟩) 2 [x % 4294967296, x / 4294967296] := ⟨Nat.le_refl _, fun h => (by cases h), fun j hj => ⟨_, rfl, by
    have : j = 0 ∨ j = 1 := by simp at hj; omega
    rcases this with rfl | rfl
    · exact HasB.cell (HasB.new w _ _) 0
    · exact HasB.cell (HasB.new w _ _) 1⟩⟩
  have hN := Far.mk (ref_Norm (n := 2) rfl hR (IsW.append (IsW.one (by omega) (by omega)) (IsW.one (by omega) (by omega))) (by simp))
  have e2 : x / 4294967296 % 4294967296 = x / 4294967296 := by omega
  go_wp2_with (go_at_call 138; go_must (with_reducible refine hN.out.mono ?_); rintro e w3 ⟨v3, rfl, hu3, hb3⟩)
  go_ret
  refine tells_norm ((Below.refl _ _).alloc (Nat.le_refl _) _) hu3 hb3 ?_
  congr 1
  simp [nv]
  omega
end Nv
end Go.Proofs.YtelgobelbeabaaaGreatDoor
