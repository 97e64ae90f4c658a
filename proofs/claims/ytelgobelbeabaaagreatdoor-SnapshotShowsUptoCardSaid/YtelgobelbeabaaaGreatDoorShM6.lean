/-
  What quillref01.Wide and ustr.Wide return: a text of bytes with a byte of 0 ahead of each, for every text of fewer than 2^46 bytes. A contract of quillref02.Text: a number's digits. Conditions: the words are words, no more than may be; the radix is from 2 to 36. A contract of quillref02.Parse: the number of digits. Conditions: all are digits of the radix, one at least; the number is no longer than may be. Contracts of quillref03's number, whole, noughts and exponent. Conditions: the words are words, no more than may be; the exponent is no great one.
-/
import Derived.Test.YtelgobelbeabaaaGreatDoorProg
import Derived.Test.YtelgobelbeabaaaGreatDoorShM4
import Derived.Lib.Hide
import Derived.Outline
import Derived.Deep.DeepMust
import Derived.Deep.AppendLies
import Derived.Test.YtelgobelbeabaaaGreatDoorShM5
import Derived.Deep.LoopGhost
import Derived.Deep.RegionHeld3
namespace Go.Proofs.YtelgobelbeabaaaGreatDoor
open Go.RowKit

/-- Each byte with a byte of 0 ahead. -/
def wide : List UInt8 → List UInt8
  | [] => []
  | b :: r => 0 :: b :: wide r
theorem wide_length (l : List UInt8) : (wide l).length = 2 * l.length := by
  induction l with
  | nil => rfl
  | cons b r ih => simp only [wide, List.length_cons, ih]; omega
theorem wide_append (a b : List UInt8) : wide (a ++ b) = wide a ++ wide b := by
  induction a with
  | nil => rfl
  | cons x r ih => simp [wide, ih]
theorem wide_take (l : List UInt8) (k : Nat) (h : k < l.length) : wide (l.take (k + 1)) = wide (l.take k) ++ [0, l[k]] := by
  rw [List.take_succ_eq_append_getElem h, wide_append]; rfl
theorem wide_take_length (l : List UInt8) (k : Nat) (h : k ≤ l.length) : (wide (l.take k)).length = 2 * k := by
  rw [wide_length, List.length_take, Nat.min_eq_left h]

theorem info_byte : (Tryz.prog.info? 5).map (fun i => (i.zero, i.size, i.bytes)) = some (some (.int .u8 0), 1, 1) := by kernel_rfl

/-- 'ustr.Wide'. -/
def WidePost (B : Nat) (w : World) (l : List UInt8) (e : Ending) (w' : World) : Prop := e = .returned (.string ⟨(wide l).toArray⟩) ∧ Below B w w'

set_option maxRecDepth 100000 in
set_option maxHeartbeats 800000 in
theorem ustr_Wide (s : ByteArray) (w : World) (hs : s.size ≤ 70368744177664) :
    Calls Tryz.prog 29 #[.string s] w (WidePost w.heap.size w s.data.toList) := by
  obtain ⟨i0, hi, hz0, hz1, hz2⟩ := info_parts info_byte
  have h2 : (2 : Int) * (s.size : Int) = ((2 * s.size : Nat) : Int) := by omega
  have H2 := Lib.hid h2
  clear h2
  go_enter Tryz.func29, Tryz.ntmps29
  go_wp2_with (at_make; go_must (refine wpList_make_own _ rfl _ _ 51 rfl w.heap.size 5 i0 (.int .u8 0) 1 Tryz.underlying51 hi hz0 hz1 _ _ _ (2 * s.size) rfl rfl H2.out (by rw [hz2]; omega) (by unfold maxLen; omega) (by omega) ?_))
  intro w1 hown hg
  go_wp2_with fail
  go_loopw [3, 11] (fun v i wr => ∃ k : Nat, k ≤ s.size ∧ i = .int .i64 k ∧ v = .slice (some ⟨w.heap.size, 0, none⟩) (2 * k) (2 * s.size) ∧ wr.ownsRow w.heap.size 5 1 v (2 * k) (bv (wide (s.data.toList.take k))) ∧ Below w.heap.size w wr ∧ w.heap.size < wr.heap.size)
    (fun _ i _ => s.size - (intOf i).toNat)
  case atStart => exact ⟨0, Nat.zero_le _, rfl, rfl, hown, (Below.refl _ _).grown hg (Nat.le_refl _) (by simp), (hown.lt _ rfl).2⟩
  case round =>
    obtain ⟨k, hk, rfl, rfl, hown, hb, hsz⟩ := hrel
    by_cases hlt : k < s.size
    · have hw : wide (s.data.toList.take (k + 1)) = wide (s.data.toList.take k) ++ [0, s[k]] := wide_take _ k (by rw [bytes_length]; exact hlt)
      have HW := Lib.hid hw
      clear hw
      go_wp2_with (at_builtin; go_must (refine wpList_append_fits _ rfl _ _ 51 rfl w.heap.size 5 i0 1 Tryz.underlying51 hi hz1 w.heap.size (2 * k) (2 * s.size) _ rfl (hown.alloc _) ⟨wr.heap.size, 0, none⟩ 2 2 (bv [0, s[k]]) rfl rfl (World.news_of_block (cs := (bv [0, s[k]]).toArray) (t := 5) (fr := (0, 0)) (heap_alloc_new wr _)) (bv_one _) (by omega) ?_))
      intro w2 hown2 hg2
      rw [← bv_append, ← HW.out] at hown2
      have hb2 := below_grown hb (by omega) hown (Nat.le_refl _) hg2
      have hsz2 : w.heap.size < w2.heap.size := by have := hg2.size; simp at this; omega
      clear hown hg2 hb
      go_wp2
      go_roundw
      case rel => exact ⟨k + 1, by omega, by go_num, by simp; omega, hown2, hb2, hsz2⟩
      case measure => simp [intOf]; omega
    · have hke : k = s.size := by omega
      subst hke
      have hall : s.data.toList.take s.size = s.data.toList := List.take_of_length_le (by rw [bytes_length]; exact Nat.le_refl _)
      rw [hall] at hown
      have hcv := run_string_own (P := Tryz.prog) wr 51 9 5 _ hown Tryz.underlying51 Tryz.underlying5 Tryz.underlying9
      go_wp2
      go_ret
      exact ⟨rfl, hb⟩

/-- 'quillref01.put' of a unit, onto a row of the call's own. -/
def PutPost (base : Nat) (w : World) (v : Value) (n : Nat) (l : List UInt8) (u : Nat) (e : Ending) (w' : World) : Prop :=
  ∃ v', e = .returned v' ∧ w'.ownsRow base 5 1 v' (n + 2) (bv (l ++ unitB u)) ∧ (∃ o, (w.alloc o).grownBy w' v.ownBlock)

set_option maxRecDepth 100000 in
theorem ref01_put (base : Nat) (v : Value) (n : Nat) (l : List UInt8) (u : Nat) (w : World) (hu : u < 65536) (hown : w.ownsRow base 5 1 v n (bv l)) (hb : base ≤ w.heap.size) (hn : n + 2 ≤ 140737488355328) :
    Calls Tryz.prog 69 #[v, .int .u16 (u : Int)] w (PutPost base w v n l u) := by
  obtain ⟨i0, hi, hz0, hz1, hz2⟩ := info_parts info_byte
  have h0 : (0 : Int) ≤ (u : Int) := by omega
  have h1 : (u : Int) < 65536 := by omega
  have h2 := u16_and255 u hu
  have hbv := Lib.hid (bv_unitB u hu)
  have hone : ∀ x ∈ bv (unitB u), x.oneCell' = true := bv_one _
  rw [hbv.out] at hone
  go_enter Tryz.func69, Tryz.ntmps69
  go_wp2_with (at_builtin; go_must (refine wpList_append_own _ rfl _ _ 51 rfl base 5 i0 (.int .u8 0) 1 1 Tryz.underlying51 hi hz0 hz1 hz2 rfl (by decide) v n _ rfl (hown.alloc _) ⟨w.heap.size, 0, none⟩ 2 2 [.int .u8 ((u : Int) / 256), .int .u8 ((u : Int) % 256)] rfl rfl (World.news_of_block (cs := #[.int .u8 ((u : Int) / 256), .int .u8 ((u : Int) % 256)]) (t := 5) (fr := (0, 0)) (heap_alloc_new w _)) hone (by unfold maxLen; omega) (by omega) (by simp; omega) ?_))
  intro v' w1 hown1 hg1 _
  go_wp2
  go_ret
  refine ⟨v', rfl, ?_, _, hg1⟩
  rw [bv_append, hbv.out]
  exact hown1

set_option maxRecDepth 100000 in
set_option maxHeartbeats 800000 in
theorem ref01_Wide (s : ByteArray) (w : World) (hs : s.size ≤ 70368744177664) :
    Calls Tryz.prog 33 #[.string s] w (WidePost w.heap.size w s.data.toList) := by
  go_enter Tryz.func33, Tryz.ntmps33
  go_wp2_with fail
  go_loopw [3, 4] (fun v i wr => ∃ k : Nat, k ≤ s.size ∧ i = .int .i64 k ∧ wr.ownsRow w.heap.size 5 1 v (2 * k) (bv (wide (s.data.toList.take k))) ∧ Below w.heap.size w wr)
    (fun _ i _ => s.size - (intOf i).toNat)
  case atStart => exact ⟨0, Nat.zero_le _, rfl, World.ownsRow_nil _ _ _ _, Below.refl _ _⟩
  case round =>
    obtain ⟨k, hk, rfl, hown, hb⟩ := hrel
    have hbs := hb.size
    by_cases hlt : k < s.size
    · have hw : wide (s.data.toList.take (k + 1)) = wide (s.data.toList.take k) ++ unitB s[k].toNat := by
        rw [unitB_byte]; exact wide_take _ k (by rw [bytes_length]; exact hlt)
      have HW := Lib.hid hw
      clear hw
      have hbl := s[k].toNat_lt
      go_wp2_with (go_at_call 69; go_must (refine (ref01_put w.heap.size _ (2 * k) _ s[k].toNat _ (by omega) hown (by omega) (by omega)).mono ?_))
      rintro e w2 ⟨v2, rfl, hown2, o, hg2⟩
      rw [← HW.out] at hown2
      have hb2 := below_grown hb (by omega) hown (Nat.le_refl _) hg2
      clear hown hg2 hb
      go_wp2
      go_roundw
      case rel => exact ⟨k + 1, by omega, by go_num, hown2, hb2⟩
      case measure => simp [intOf]; omega
    · have hke : k = s.size := by omega
      subst hke
      have hall : s.data.toList.take s.size = s.data.toList := List.take_of_length_le (by rw [bytes_length]; exact Nat.le_refl _)
      rw [hall] at hown
      have hcv := run_string_own (P := Tryz.prog) wr 51 9 5 _ hown Tryz.underlying51 Tryz.underlying5 Tryz.underlying9
      go_wp2
      go_ret
      exact ⟨rfl, hb⟩
end Go.Proofs.YtelgobelbeabaaaGreatDoor
namespace Go.Proofs.YtelgobelbeabaaaGreatDoor
open Go.RowKit
namespace Nv

/-- A digit's letter. -/
def dg (d : Nat) : UInt8 := if d < 10 then UInt8.ofNat (48 + d) else UInt8.ofNat (87 + d)
/-- A number's digits, the least one first. -/
def rdigs (r n : Nat) : List UInt8 := if _h : n = 0 ∨ r ≤ 1 then [] else dg (n % r) :: rdigs r (n / r)
termination_by n
decreasing_by exact Nat.div_lt_self (by omega) (by omega)
def digs (r n : Nat) : List UInt8 := if n = 0 then [48] else (rdigs r n).reverse
theorem rdigs_zero (r : Nat) : rdigs r 0 = [] := by rw [rdigs, dif_pos (.inl rfl)]
theorem rdigs_pos {r n : Nat} (hr : 2 ≤ r) (h : 0 < n) : rdigs r n = dg (n % r) :: rdigs r (n / r) := by rw [rdigs, dif_neg (by omega)]
theorem rdigs_len {r n k : Nat} (hr : 2 ≤ r) (h : n < 2 ^ k) : (rdigs r n).length ≤ k := by
  induction k generalizing n with
  | zero => rw [show n = 0 by omega, rdigs_zero]; exact Nat.le_refl _
  | succ k ih =>
    by_cases h0 : n = 0
    · rw [h0, rdigs_zero]; exact Nat.zero_le _
    · rw [rdigs_pos hr (by omega), List.length_cons]
      have : n / r < 2 ^ k := by
        rw [Nat.pow_succ] at h
        have : n / r ≤ n / 2 := Nat.div_le_div_left hr (by decide)
        omega
      have := ih this
      omega
theorem rdigs_len2 {r n L : Nat} (hr : 2 ≤ r) (h : n < 4294967296 ^ L) : (rdigs r n).length ≤ 32 * L := by
  apply rdigs_len hr
  rw [Nat.pow_mul]
  exact h
theorem abc_dg : ∀ z : Fin 36, (⟨#[48, 49, 50, 51, 52, 53, 54, 55, 56, 57, 97, 98, 99, 100, 101, 102, 103, 104, 105, 106, 107, 108, 109, 110, 111, 112, 113, 114, 115, 116, 117, 118, 119, 120, 121, 122]⟩ : ByteArray)[z.val] = dg z.val := by decide
/-- A row of bytes of the call's own. -/
def B8 (w : World) (base : Nat) (v : Value) (l : List UInt8) : Prop := w.ownsRow base 5 1 v l.length (bv l)
theorem B8.nil (w : World) (base : Nat) : B8 w base (.slice none 0 0) [] := World.ownsRow_nil _ _ _ _
theorem B8.alloc {w : World} {base : Nat} {v : Value} {l : List UInt8} (h : B8 w base v l) (o : Obj) : B8 (w.alloc o) base v l := World.ownsRow.alloc h o
theorem B8.drewN {w : World} {base : Nat} {v : Value} {l : List UInt8} (h : B8 w base v l) (n : Nat) : B8 (w.drewN n) base v l := h
theorem B8.keep {w w' : World} {base : Nat} {v : Value} {l : List UInt8} (h : B8 w base v l) (hb : Below w.heap.size w w') : B8 w' base v l := by
  refine ⟨h.1, ?_⟩
  rcases h.2 with h2 | ⟨g, cap, cur, rfl, hg, hh, r⟩
  · exact .inl h2
  · exact .inr ⟨g, cap, cur, rfl, hg, (hb.block g (by have := (Array.getElem?_eq_some_iff.1 hh).1; exact this)).trans hh, r⟩
theorem B8.lower {w : World} {base base' : Nat} {v : Value} {l : List UInt8} (h : B8 w base v l) (hb : base' ≤ base) : B8 w base' v l := World.ownsRow.mono h hb
theorem B8.cell {w : World} {base g n cap : Nat} {l : List UInt8} (h : B8 w base (.slice (some ⟨g, 0, none⟩) n cap) l) (hn : l.length = n) {j : Nat} (hj : j < n) : ∃ x : UInt8, l.getD j 0 = x ∧ w.cell? ⟨g, j, none⟩ = some (.int .u8 (x.toNat : Int)) ∧ w.frozen? ⟨g, j, none⟩ = false := by
  subst hn
  refine ⟨_, rfl, ?_, World.ownsRow.frozenAt h j⟩
  rw [World.ownsRow.cellAt h j (by omega)]
  unfold bv
  rw [List.getElem?_map, List.getD_eq_getElem?_getD, List.getElem?_eq_getElem hj]
  rfl
theorem B8.set {w : World} {base g n cap : Nat} {l : List UInt8} (h : B8 w base (.slice (some ⟨g, 0, none⟩) n cap) l) (hn : l.length = n) (j : Nat) (x : UInt8) : B8 (w.setCell ⟨g, j, none⟩ (.int .u8 (x.toNat : Int))) base (.slice (some ⟨g, 0, none⟩) n cap) (l.set j x) := by
  subst hn
  have := (World.ownsRow.stored h j (.int .u8 (x.toNat : Int))).1
  unfold B8 bv
  rw [List.length_set, List.map_set]
  exact this
theorem U.kept {w w' : World} {base : Nat} {v : Value} {l : List Int} {row : Option Nat} (h : U w base v l) (hg : w.grownBy w' row) (hne : ∀ k, row = some k → k < base) : U w' base v l := by
  refine World.ownsRow.kept h hg ?_
  cases hv : v.ownBlock with
  | none => exact .inl rfl
  | some k =>
    right
    intro e
    have h1 := (World.ownsRow.lt h k hv).1
    have h2 := hne k e.symm
    omega
/-- What holds of a row in the middle of its turning round. -/
structure Turn (L l : List UInt8) (i : Nat) : Prop where
  len : l.length = L.length
  at' : ∀ j, j < L.length → l.getD j 0 = if j < i ∨ L.length - i ≤ j then L.getD (L.length - 1 - j) 0 else L.getD j 0
theorem getD_set8 {l : List UInt8} {i j : Nat} (h : i < l.length) (v : UInt8) : (l.set i v).getD j 0 = if i = j then v else l.getD j 0 := by
  rw [List.getD_eq_getElem?_getD, List.getElem?_set]
  split
  · rename_i e
    subst e
    rfl
  · rw [List.getD_eq_getElem?_getD]
theorem Turn.step {L l : List UInt8} {i : Nat} (h : Turn L l i) (hi : i < L.length / 2) : Turn L ((l.set i (l.getD (L.length - 1 - i) 0)).set (L.length - 1 - i) (l.getD i 0)) (i + 1) := by
  refine ⟨by rw [List.length_set, List.length_set, h.len], fun j hj => ?_⟩
  rw [getD_set8 (by rw [List.length_set, h.len]; omega), getD_set8 (by rw [h.len]; omega), h.at' i (by omega), h.at' (L.length - 1 - i) (by omega), h.at' j hj]
  by_cases e1 : L.length - 1 - i = j
  · subst e1
    rw [if_pos rfl, if_neg (by omega), if_pos (by omega)]
    congr 1
    omega
  · rw [if_neg e1]
    by_cases e2 : i = j
    · subst e2
      rw [if_pos rfl, if_neg (by omega), if_pos (by omega)]
    · rw [if_neg e2]
      by_cases e3 : j < i ∨ L.length - i ≤ j
      · rw [if_pos e3, if_pos (by omega)]
      · rw [if_neg e3, if_neg (by omega)]
theorem Turn.shut {L l : List UInt8} {i : Nat} (h : Turn L l i) (hi : L.length / 2 ≤ i) (hi2 : i ≤ L.length / 2) : l = L.reverse := by
  apply List.ext_getElem
  · rw [List.length_reverse, h.len]
  · intro j h1 h2
    have hj : j < L.length := by rw [← h.len]; exact h1
    have e := h.at' j hj
    rw [List.getD_eq_getElem?_getD, List.getElem?_eq_getElem h1, List.getD_eq_getElem?_getD, List.getD_eq_getElem?_getD, List.getElem?_eq_getElem (show L.length - 1 - j < L.length by omega), List.getElem?_eq_getElem hj] at e
    simp only [Option.getD_some] at e
    rw [e, List.getElem_reverse]
    split
    · rfl
    · congr 1
      omega
theorem below_drew {B : Nat} {a w : World} (h : Below B a w) : Below B a w.drew := ⟨h.os, h.tape, h.output, h.size, h.block⟩
/-- append(v, byte). -/
theorem append_byte {w : World} {ops : Array Oper} {rest : List Oper} {o : Oper} {a : Act} {Q : Exit → Act → World → Prop} (hgd : o.guard = none) (s x : Operand)
    (ho : o.op = .call { callee := .builtin .append, args := #[s, x], argTypes := #[51, 51] }) (base : Nat) {v : Value} {xs : List UInt8} {y : Int} {b : UInt8} {n : Nat}
    (hs : a.eval s = v) (hown : B8 (w.alloc (.cells #[.int .u8 y] 5)) base v xs) (hx : a.eval x = .slice (some ⟨w.heap.size, 0, none⟩) n 1) (hn : n = 1) (hb : y = (b.toNat : Int)) (hlen : xs.length ≤ 4000000) (hbase : base ≤ w.heap.size)
    (h : ∀ v' w', B8 w' base v' (xs ++ [b]) → (w.alloc (.cells #[.int .u8 y] 5)).grownBy w' v.ownBlock → wpList Tryz.prog ops Q rest (a.put o.dst v') w') : wpList Tryz.prog ops Q (o :: rest) a (w.alloc (.cells #[.int .u8 y] 5)) := by
  obtain ⟨i0, hi, hz0, hz1, hz2⟩ := info_parts info_byte
  subst hb
  subst hn
  refine wpList_append_own _ hgd s x 51 ho base 5 i0 (.int .u8 0) 1 1 Tryz.underlying51 hi hz0 hz1 hz2 rfl (by decide) v _ _ hs hown ⟨w.heap.size, 0, none⟩ 1 1 (bv [b]) hx rfl
    (World.news_of_block (cs := #[.int .u8 (b.toNat : Int)]) (t := 5) (fr := (0, 0)) (heap_alloc_new _ _)) (bv_one _) (by unfold maxLen; omega) (by omega) (by simp; omega) fun v' w' h2 h3 _ => h v' w' ?_ h3
  unfold B8
  rw [List.length_append, bv_append]
  exact h2
set_option maxRecDepth 100000 in
set_option maxHeartbeats 800000 in
theorem ref_Text {l : List Int} {A : Option Addr} {n c r : Nat} {R : Int} {w : World} (hnl : l.length = n) (hr : Rd w A c l) (hW : IsW l) (hn : l.length ≤ 100000) (hRr : R = (r : Int)) (hr2 : 2 ≤ r) (hr36 : r ≤ 36) (hmax : (words (nv l)).length ≤ 1024) :
    Calls Tryz.prog 143 #[.slice A n c, .int .i64 R] w fun e w' => e = .returned (.tuple #[.string ⟨(digs r (nv l)).toArray⟩, .int .i64 0]) ∧ Below w.heap.size w w' := by
  subst hRr
  have hL := Far.mk (ref_Long hnl hr hW hn)
  have hN := Far.mk (fun W (hb : Below w.heap.size w W) => ref_Norm (w := W) hnl (hr.below hb) hW (by omega))
  have hlt := lt_len (nv l)
  clear hr hW hnl hn
  generalize nv l = N at *
  have hdl := rdigs_len2 hr2 hlt
  clear hlt
  go_enter Tryz.func143, Tryz.ntmps143
  go_wp2_with fail
  refine hL.out.mono ?_
  rintro e w1 ⟨rfl, hb1⟩
  have hlong : decide ((1024 : Int) < ((words N).length : Int)) = false := decide_eq_false (by omega)
  go_wp2_with fail
  refine (hN.out _ hb1).mono ?_
  rintro e w2 ⟨v2, rfl, hu2, hb2⟩
  replace hb2 : Below w.heap.size w w2 := hb1.trans (hb2.mono hb1.size)
  obtain ⟨A2, c2, rfl, hR2⟩ := hu2.rd
  by_cases h0 : N = 0
  · subst h0
    rw [words_zero] at *
    go_wp2
    go_ret2
    exact ⟨rfl, hb2⟩
  · have hNl : (words N).length ≠ 0 := fun e => h0 (words_len_zero.1 e)
    have hNz : (((words N).length : Int) == 0) = false := by simp; exact fun e => h0 (words_nil.1 e)
    go_wp2
    go_loopg [0, 6, 7, 8] N (fun M a v _ _ wr => ∃ (A : Option Addr) (c : Nat) (pre : List UInt8), a = .slice A (words M).length c ∧ Rd wr A c (words M) ∧ B8 wr w.heap.size v pre ∧ pre.length ≤ 32768 ∧ (words M).length ≤ 1024 ∧ Far (pre ++ rdigs r M = rdigs r N) ∧ Far (Below w.heap.size w wr))
    case atStart => exact ⟨A2, c2, [], rfl, hR2, B8.nil _ _, by simp, hmax, ⟨rfl⟩, ⟨hb2⟩⟩
    case round =>
      clear hR2 hu2 hb1 hb2
      obtain ⟨A, c, pre, rfl, hR, hB, hpl, hml, hp, hb⟩ := hrel
      have hsz := hb.out.size
      by_cases hM : 0 < gk
      · have hne : (words gk).length ≠ 0 := fun e => by have := words_len_zero.1 e; omega
        have e := rdigs_pos hr2 hM
        have hp' := hp.out
        rw [e] at hp'
        have hS := ref_small (n := (words gk).length) (D := (r : Int)) rfl hR (isW_words _) (by omega) rfl (by omega) (by omega)
        rw [nv_words] at hS
        replace hS := Far.mk hS
        have hml2 : (words (gk / r)).length ≤ 1024 := Nat.le_trans (words_len (Nat.lt_of_le_of_lt (Nat.div_le_self _ _) (lt_len gk))) hml
        have hmr : gk % r < r := Nat.mod_lt _ (by omega)
        have hdv : gk / r < gk := Nat.div_lt_self hM (by omega)
        have hplen : pre.length + 1 ≤ 32768 := by
          have h1 := congrArg List.length hp'
          rw [List.length_append, List.length_cons] at h1
          have := hdl
          omega
        replace hp' := Far.mk hp'
        clear e hp
        obtain ⟨z, hz⟩ : ∃ z, gk % r = z := ⟨_, rfl⟩
        rw [hz] at hS hp' hmr
        go_wp2_with (first
          | (go_at_call 177; go_must (with_reducible refine hS.out.mono ?_); rintro e w3 ⟨v3, rfl, hu3, hb3⟩; obtain ⟨A3, c3, rfl, hR3⟩ := hu3.rd)
          | (at_builtin; go_must (refine append_byte rfl _ _ rfl w.heap.size rfl ((hB.keep hb3).alloc _) rfl rfl rfl (by omega) (by have := hb3.size; omega) ?_)))
        intro v5 w5 hB5 hg5
        have hb5 := below_grown (hb.out.trans (hb3.mono hsz)) (by have := hb3.size; omega) (hB.keep hb3) (Nat.le_refl _) hg5
        rw [show _ = dg z from abc_dg ⟨z, by omega⟩] at hB5 hg5
        have hu5 := (hu3.alloc (.cells #[.int .u8 ((dg z).toNat : Int)] 5)).kept hg5 (fun k hk => (World.ownsRow.lt hB k hk).2)
        obtain ⟨A5, c5, e5, hR5⟩ := hu5.rd
        simp only [Value.slice.injEq] at e5
        obtain ⟨rfl, -, rfl⟩ := e5
        have hpz : Far ((pre ++ [dg z]) ++ rdigs r (gk / r) = rdigs r N) := ⟨by rw [List.append_assoc]; exact hp'.out⟩
        clear hu5 hR3 hu3 hg5 hB hb3 hS hR
        go_wp2
        go_roundg (gk / r)
        case measure => exact hdv
        case rel => first | exact ⟨_, _, pre ++ [dg z], rfl, hR5, hB5, by simp; omega, hml2, hpz, ⟨hb5⟩⟩ | ((repeat apply Exists.intro); exact ⟨⟨_, _, pre ++ [dg z], rfl, hR5, hB5, by simp; omega, hml2, hpz, ⟨hb5⟩⟩, rfl⟩)
      · have hM0 : gk = 0 := by omega
        subst hM0
        have hp' := hp.out
        rw [rdigs_zero, List.append_nil] at hp'
        subst hp'
        have hpos : 0 < (rdigs r N).length := by rw [rdigs_pos hr2 (by omega)]; simp
        rw [words_zero] at *
        obtain ⟨g, cap, rfl, hg1, hg2⟩ := hB.form hpos
        have hfin : digs r N = (rdigs r N).reverse := by unfold digs; rw [if_neg h0]
        replace hfin := Far.mk hfin
        clear hR hp
        generalize rdigs r N = L at *
        go_wp2
        go_loopw [9] (fun i wr => ∃ (k : Nat) (l : List UInt8), k ≤ L.length / 2 ∧ i = .int .i64 k ∧ B8 wr w.heap.size (.slice (some ⟨g, 0, none⟩) L.length cap) l ∧ Far (Turn L l k) ∧ Far (Below w.heap.size w wr))
          (fun i _ => L.length / 2 - (intOf i).toNat)
        case atStart => exact ⟨0, L, Nat.zero_le _, rfl, hB, ⟨rfl, fun j hj => by rw [if_neg (by omega)]⟩, hb⟩
        case round =>
          clear hB hb hsz
          obtain ⟨k, l', hk, rfl, hB, ht, hb⟩ := hrel
          have hsz := hb.out.size
          by_cases hlt : k < L.length / 2
          · obtain ⟨x, hx, hc1, hf1⟩ := hB.cell ht.out.len (j := k) (by omega)
            obtain ⟨y, hy, hc2, hf2⟩ := hB.cell ht.out.len (j := L.length - 1 - k) (by omega)
            have st := ht.out.step hlt
            rw [hx, hy] at st
            have hset := (hB.set ht.out.len k y).set (by rw [List.length_set]; exact ht.out.len) (L.length - 1 - k) x
            replace st := Far.mk st
            clear hx hy
            go_wp2_with fail
            go_region
            go_wp2
            go_roundw
            case rel => exact ⟨k + 1, _, by omega, by go_num, hset, st, ⟨below_drew ((hb.out.setCell hg1 _).setCell hg1 _)⟩⟩
            case measure => simp [intOf] <;> omega
          · have hsh := ht.out.shut (by omega) hk
            subst hsh
            have hcv := run_string_own (P := Tryz.prog) wr 51 9 5 _ hB Tryz.underlying51 Tryz.underlying5 Tryz.underlying9
            go_wp2
            go_ret2
            rw [hfin.out]
            exact ⟨rfl, hb.out⟩
end Nv
end Go.Proofs.YtelgobelbeabaaaGreatDoor
namespace Go.Proofs.YtelgobelbeabaaaGreatDoor
open Go.RowKit
namespace Nv

/-- The number that digits make. -/
def valD (r a : Nat) (l : List UInt8) : Nat := l.foldl (fun a c => a * r + (digitN (c.toNat : Int)).toNat) a
theorem valD_nil (r a : Nat) : valD r a [] = a := rfl
theorem valD_snoc (r a : Nat) (l : List UInt8) (c : UInt8) : valD r a (l ++ [c]) = valD r a l * r + (digitN (c.toNat : Int)).toNat := by unfold valD; rw [List.foldl_append]; rfl
theorem valD_mono (r a : Nat) (hr : 1 ≤ r) (l : List UInt8) : a ≤ valD r a l := by
  induction l generalizing a with
  | nil => exact Nat.le_refl _
  | cons c l ih =>
    have := ih (a * r + (digitN (c.toNat : Int)).toNat)
    have h2 := Nat.le_mul_of_pos_right a hr
    exact Nat.le_trans (by omega) this
theorem valD_take (r : Nat) (hr : 1 ≤ r) (l : List UInt8) (k : Nat) : valD r 0 (l.take k) ≤ valD r 0 l := by
  have e : valD r 0 l = valD r (valD r 0 (l.take k)) (l.drop k) := by
    conv => lhs; rw [← List.take_append_drop k l]
    unfold valD
    rw [List.foldl_append]
  rw [e]
  exact valD_mono r _ hr _
set_option maxRecDepth 100000 in
set_option maxHeartbeats 800000 in
theorem ref_Parse {s : ByteArray} {r : Nat} {R : Int} {w : World} (hRr : R = (r : Int)) (hr2 : 2 ≤ r) (hr36 : r ≤ 36) (hs0 : 0 < s.size) (hs1 : s.size ≤ 1000000) (hd : ∀ (k : Nat) (h : k < s.size), digitN (s[k].toNat : Int) < r)
    (hmax : (words (valD r 0 s.data.toList)).length ≤ 1024) :
    Calls Tryz.prog 141 #[.string s, .int .i64 R] w fun e w' => ∃ v, e = .returned (.tuple #[v, .int .i64 0]) ∧ U w' w.heap.size v (words (valD r 0 s.data.toList)) ∧ Below w.heap.size w w' := by
  subst hRr
  have HD := Far.mk hd
  have hsz0 : ((s.size : Int) == 0) = false := beq_eq_false_iff_ne.2 (by omega)
  clear hd
  go_enter Tryz.func141, Tryz.ntmps141
  go_wp2
  go_loopw [6] (fun i wr => ∃ (k : Nat), k ≤ s.size ∧ i = .int .i64 k ∧ Far (Below w.heap.size w wr)) (fun i _ => s.size - (intOf i).toNat)
  case atStart => exact ⟨0, Nat.zero_le _, rfl, ⟨Below.refl _ _⟩⟩
  case round =>
    obtain ⟨k, hk, rfl, hb⟩ := hrel
    by_cases hlt : k < s.size
    · have hdk := HD.out k hlt
      go_wp2_with (go_at_call 173; go_must (refine (ref_Digit (Int.natCast_nonneg _) (by have := (s[k]).toNat_lt; omega) _).mono ?_); rintro e w' ⟨rfl, rfl⟩)
      go_roundw
      case rel => exact ⟨k + 1, by omega, by go_num, hb⟩
      case measure => simp [intOf] <;> omega
    · have hke : k = s.size := by omega
      subst hke
      obtain ⟨wo, rfl⟩ : ∃ wo : World, wo = wr := ⟨_, rfl⟩
      go_wp2
      go_loopw [7, 8] (fun v i wq => ∃ (k : Nat), k ≤ s.size ∧ i = .int .i64 k ∧ U wq w.heap.size v (words (valD r 0 (s.data.toList.take k))) ∧ Far (Below w.heap.size w wq)) (fun _ i _ => s.size - (intOf i).toNat)
      case atStart => exact ⟨0, Nat.zero_le _, rfl, by rw [List.take_zero, valD_nil, words_zero]; exact U.nil _ _, hb⟩
      case round =>
        clear hb
        obtain ⟨k, hk, rfl, hu, hb⟩ := hrel
        by_cases hlt : k < s.size
        · have hdk := HD.out k hlt
          have hdg := (ref_Digit (c := ((s[k]).toNat : Int)) (Int.natCast_nonneg _) (by have := (s[k]).toNat_lt; omega))
          have b0 : 0 ≤ digitN ((s[k]).toNat : Int) := by unfold digitN; have := (s[k]).toNat_lt; split <;> (try split) <;> (try split) <;> omega
          have hsn : words (valD r 0 (s.data.toList.take (k + 1))) = words (valD r 0 (s.data.toList.take k) * r + (digitN ((s[k]).toNat : Int)).toNat) := by
            rw [List.take_succ_eq_append_getElem (by simpa using hlt), valD_snoc]
            rfl
          have hle := valD_take r (by omega) s.data.toList (k + 1)
          have hle2 := valD_take r (by omega) s.data.toList k
          have hl1 := words_len (Nat.lt_of_le_of_lt hle (lt_len (valD r 0 s.data.toList)))
          have hl2 := words_len (Nat.lt_of_le_of_lt hle2 (lt_len (valD r 0 s.data.toList)))
          replace hsn := Far.mk hsn
          generalize digitN ((s[k]).toNat : Int) = dz at *
          generalize valD r 0 (s.data.toList.take k) = V at *
          replace hdg := Far.mk hdg
          obtain ⟨A, c, rfl, hR⟩ := hu.rd
          have hwr : IntKind.u32.wrap (r : Int) = (r : Int) := by rw [IntKind.wrap_u32]; omega
          have hT := ref_Times (w := (wr.alloc (.cells #[.int .u32 (IntKind.u32.wrap (r : Int))] 99)).drew) (n := (words V).length) (p := 1) (m := [IntKind.u32.wrap (r : Int)]) rfl rfl (hR.below (below_drew ((Below.refl _ _).alloc (Nat.le_refl _) _))) (isW_words _) (by omega) (show Rd _ _ _ _ from Rd.one wr _) (IsW.one (by rw [hwr]; omega) (by rw [hwr]; omega)) (by simp)
          have hnr : nv [IntKind.u32.wrap (r : Int)] = r := by rw [hwr]; simp [nv]
          rw [nv_words, hnr] at hT
          replace hT := Far.mk hT
          have hl3 : (words (V * r)).length ≤ (words V).length + 1 := words_len (by
            rw [Nat.pow_succ]
            exact Nat.mul_lt_mul_of_lt_of_le (lt_len V) (show r ≤ 4294967296 by omega) (by omega))
          have hwz : IntKind.u32.wrap dz = dz := by rw [IntKind.wrap_u32]; omega
          have hnz : nv [IntKind.u32.wrap dz] = dz.toNat := by rw [hwz]; simp [nv]
          have hWz : IsW [IntKind.u32.wrap dz] := IsW.one (by rw [hwz]; omega) (by rw [hwz]; omega)
          replace hnz := Far.mk hnz
          clear hwr hnr hwz
          go_wp2_with fail
          go_region_with (first
            | (go_at_call 134; go_must (with_reducible refine hT.out.mono ?_); rintro e w3 ⟨v3, rfl, hu3, hb3⟩; obtain ⟨A3, c3, rfl, hR3⟩ := hu3.rd)
            | (go_at_call 173; go_must (refine (hdg.out _).mono ?_); rintro e w' ⟨rfl, rfl⟩)
            | (go_at_call 103; go_must (refine (ref_Plus (m := [IntKind.u32.wrap dz]) rfl rfl (hR3.below ((Below.refl _ _).alloc (Nat.le_refl _) _)) (isW_words _) (by omega) (Rd.one _ _) hWz (by simp)).mono ?_); rintro e w4 ⟨v4, rfl, hu4, hb4⟩))
          all_goals
            rw [nv_words, hnz.out, ← hsn.out] at hu4
            have h1 : Below wr.heap.size wr w' := (below_drew ((Below.refl wr.heap.size wr).alloc (Nat.le_refl _) _)).trans (hb3.mono (by simp))
            have h2 : Below wr.heap.size wr w4 := (h1.alloc h1.size _).trans (hb4.mono (by have := h1.size; simp; omega))
            have h3 : Below w.heap.size w w4 := hb.out.trans (h2.mono hb.out.size)
            have hs4 := h2.size
            replace hu4 := U.lower hu4 (base' := w.heap.size) (by have := h1.size; have := hb.out.size; simp; omega)
            obtain ⟨A4, c4, rfl, hR4⟩ := hu4.rd
            have hLg := ref_Long rfl hR4 (isW_words _) (by omega)
            rw [nv_words] at hLg
            replace hLg := Far.mk hLg
            have hlong : decide ((1024 : Int) < ((words (valD r 0 (s.data.toList.take (k + 1)))).length : Int)) = false := decide_eq_false (by omega)
            clear hb3 hu3 hR3 hT hu hR hb4 hb hR4
            go_wp2_with (go_at_call 174; go_must (with_reducible refine hLg.out.mono ?_); rintro e w5 ⟨rfl, hb5⟩)
            go_roundw
            case rel => first | exact ⟨k + 1, by omega, by go_num, hu4.keep hb5, ⟨h3.trans (hb5.mono h3.size)⟩⟩ | ((repeat apply Exists.intro); exact ⟨⟨k + 1, by omega, by go_num, hu4.keep hb5, ⟨h3.trans (hb5.mono h3.size)⟩⟩, rfl⟩)
            case measure => simp [intOf] <;> omega
        · have hke : k = s.size := by omega
          subst hke
          rw [List.take_of_length_le (by simp)] at hu
          go_wp2
          go_ret2
          exact ⟨_, rfl, hu, hb.out⟩
end Nv
end Go.Proofs.YtelgobelbeabaaaGreatDoor
namespace Go.Proofs.YtelgobelbeabaaaGreatDoor
open Go.RowKit
namespace Nv

/-- A text of bytes. -/
def S (l : List UInt8) : ByteArray := ⟨l.toArray⟩
theorem S_size (l : List UInt8) : (S l).size = l.length := by simp [S, ByteArray.size]
theorem S_append (a b : List UInt8) : S a ++ S b = S (a ++ b) := by
  apply ByteArray.ext
  rw [ByteArray.data_append]
  simp [S]
theorem S_extract (a : List UInt8) (i j : Nat) : (S a).extract i j = S ((a.take j).drop i) := by
  apply ByteArray.ext
  rw [ByteArray.data_extract]
  apply Array.ext'
  simp [S, List.extract_eq_take_drop, List.drop_take]
theorem ref_number {l : List Int} {A : Option Addr} {n c : Nat} {w : World} (hnl : l.length = n) (hr : Rd w A c l) (hW : IsW l) (hn : l.length ≤ 100000) (hmax : (words (nv l)).length ≤ 1024) :
    Calls Tryz.prog 105 #[.slice A n c] w fun e w' => e = .returned (.string (S (digs 10 (nv l)))) ∧ Below w.heap.size w w' := by
  have hT := Far.mk (ref_Text (r := 10) (R := 10) hnl hr hW hn rfl (by decide) (by decide) hmax)
  clear hr hW
  go_enter Tryz.func105, Tryz.ntmps105
  go_wp2_with (go_at_call 143; go_must (with_reducible refine hT.out.mono ?_); rintro e w3 ⟨rfl, hb3⟩)
  go_ret
  exact ⟨rfl, hb3⟩
theorem ref_whole {k : Nat} {K : Int} {w : World} (hK : K = (k : Int)) (hk : k ≤ 9223372036854775807) :
    Calls Tryz.prog 106 #[.int .i64 K] w fun e w' => e = .returned (.string (S (digs 10 k))) ∧ Below w.heap.size w w' := by
  subst hK
  have hO := ref_Of (x := (k : Int)) (by omega) (by omega) w
  rw [Int.toNat_natCast] at hO
  replace hO := Far.mk hO
  have hl : (words k).length ≤ 2 := words_len (by omega)
  go_enter Tryz.func106, Tryz.ntmps106
  go_wp2_with (first
    | (go_at_call 144; go_must (with_reducible refine hO.out.mono ?_); rintro e w3 ⟨v3, rfl, hu3, hb3⟩; obtain ⟨A3, c3, rfl, hR3⟩ := hu3.rd)
    | (go_at_call 105; go_must (refine (ref_number rfl hR3 (isW_words _) (by omega) (by rw [nv_words]; omega)).mono ?_); rintro e w4 ⟨rfl, hb4⟩))
  go_ret
  rw [nv_words]
  exact ⟨rfl, hb3.trans (hb4.mono hb3.size)⟩
theorem ref_noughts {k : Int} {w : World} (hk : k ≤ 100000) : Calls Tryz.prog 71 #[.int .i64 k] w fun e w' => e = .returned (.string (S (List.replicate k.toNat 48))) ∧ w' = w := by
  go_enter Tryz.func71, Tryz.ntmps71
  go_wp2
  go_loopw [3, 4] (fun v i wr => ∃ (j : Nat), (j ≤ k.toNat) ∧ i = .int .i64 j ∧ v = .string (S (List.replicate j 48)) ∧ wr = w) (fun _ i _ => k.toNat - (intOf i).toNat)
  case atStart => exact ⟨0, Nat.zero_le _, rfl, rfl, rfl⟩
  case round =>
    obtain ⟨j, hj, rfl, rfl, rfl⟩ := hrel
    have hss : (S (List.replicate j 48)).size = j := by rw [S_size, List.length_replicate]
    have hap : S (List.replicate j 48) ++ (⟨#[48]⟩ : ByteArray) = S (List.replicate (j + 1) 48) := by
      rw [show (⟨#[48]⟩ : ByteArray) = S [48] from rfl, S_append, List.replicate_succ', ]
    by_cases hlt : (j : Int) < k
    · go_wp2
      go_roundw
      case rel => exact ⟨j + 1, by omega, by go_num, by first | rfl | rw [hap], by first | rfl | trivial⟩
      case measure => simp [intOf] <;> omega
    · have hke : j = k.toNat := by omega
      subst hke
      go_wp2
      go_ret
      exact ⟨rfl, rfl⟩
/-- Digits with an exponent. -/
def expS (l : List UInt8) (e : Int) : List UInt8 := (if 1 < l.length then l.take 1 ++ [46] ++ l.drop 1 else l.take 1) ++ (if e < 0 then [101, 45] ++ digs 10 (-e).toNat else [101, 43] ++ digs 10 e.toNat)
theorem S_dot (a : List UInt8) : S a ++ (⟨#[46]⟩ : ByteArray) = S (a ++ [46]) := S_append a [46]
theorem S_em (a : List UInt8) : S a ++ (⟨#[101, 45]⟩ : ByteArray) = S (a ++ [101, 45]) := S_append a [101, 45]
theorem S_ep (a : List UInt8) : S a ++ (⟨#[101, 43]⟩ : ByteArray) = S (a ++ [101, 43]) := S_append a [101, 43]
theorem digs_len {k : Nat} (h : k < 4294967296) : (digs 10 k).length ≤ 32 := by
  unfold digs
  split
  · decide
  · rw [List.length_reverse]
    exact rdigs_len (by decide) (by omega)
attribute [local go_sem] S_append S_dot S_em S_ep S_size
set_option maxRecDepth 100000 in
theorem ref_exponent {l : List UInt8} {e : Int} {w : World} (h1 : 1 ≤ l.length) (h2 : l.length ≤ 100000) (he : -100000 ≤ e ∧ e ≤ 100000) :
    Calls Tryz.prog 72 #[.string (S l), .int .i64 e] w fun x w' => x = .returned (.string (S (expS l e))) ∧ Below w.heap.size w w' := by
  have hsz := S_size l
  have x1 : (S l).extract 0 1 = S (l.take 1) := by rw [S_extract, List.drop_zero]
  have x2 : (S l).extract 1 l.length = S (l.drop 1) := by rw [S_extract, List.take_of_length_le (Nat.le_refl _)]
  obtain ⟨l1, hl1⟩ : ∃ x, l.take 1 = x := ⟨_, rfl⟩
  obtain ⟨l2, hl2⟩ : ∃ x, l.drop 1 = x := ⟨_, rfl⟩
  have n1 : l1.length = 1 := by rw [← hl1, List.length_take]; omega
  have n2 : l2.length = l.length - 1 := by rw [← hl2, List.length_drop]
  rw [hl1] at x1
  rw [hl2] at x2
  have hw1 := fun W => ref_whole (w := W) (k := e.toNat) (K := e)
  have hw2 := fun W => ref_whole (w := W) (k := (-e).toNat) (K := -e)
  have d1 := digs_len (k := e.toNat) (by omega)
  have d2 := digs_len (k := (-e).toNat) (by omega)
  have hx : expS l e = (if 1 < l.length then l1 ++ [46] ++ l2 else l1) ++ (if e < 0 then [101, 45] ++ digs 10 (-e).toNat else [101, 43] ++ digs 10 e.toNat) := by unfold expS; rw [hl1, hl2]
  rw [hx]
  generalize digs 10 e.toNat = g1 at *
  generalize digs 10 (-e).toNat = g2 at *
  replace hw1 := Far.mk hw1
  replace hw2 := Far.mk hw2
  clear hl1 hl2 hx
  go_enter Tryz.func72, Tryz.ntmps72
  by_cases hl : 1 < l.length <;> by_cases hn : e < 0
  all_goals
    first | rw [if_pos hl] | rw [if_neg hl]
    first | rw [if_pos hn] | rw [if_neg hn]
    go_wp2_with (go_at_call 106; go_must (first | (with_reducible refine (hw2.out _ (by omega) (by omega)).mono ?_) | (with_reducible refine (hw1.out _ (by omega) (by omega)).mono ?_)); rintro x w4 ⟨rfl, hb4⟩)
    go_ret
    exact ⟨by simp, hb4⟩
end Nv
end Go.Proofs.YtelgobelbeabaaaGreatDoor
