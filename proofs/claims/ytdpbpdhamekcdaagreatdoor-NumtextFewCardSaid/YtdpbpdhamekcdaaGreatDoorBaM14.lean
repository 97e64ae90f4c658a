/-
  Contracts of ustr.unit, Space, Ends, Trim, Units and of numtext.narrow at a text of ASCII letters that is not white at its ends. Contracts of ustr.Units and numtext.narrow at a text of ASCII letters. What numtext's readers tell of the text "0.1": hex, signed, digits, decimal, power. No condition. What strconv.ParseFloat tells of the text "0.1e0". Conditions: the laid variables of strconv have their values. What numtext.Number tells of the text "0.1" (in two bytes a letter). Conditions: the laid variables of strconv have their values. quilllaw03.awake and quilllaw03.NumtextTexts answer true. Conditions: the laid variables of strconv have their values.
-/
import Derived.Test.YtdpbpdhamekcdaaGreatDoorBaM7
import Derived.Deep.QuietTactic
import Derived.BigQuiet
import Derived.Deep.AppendLies
import Derived.Lib.Hide
import Derived.Test.YtdpbpdhamekcdaaGreatDoorBaM12
import Derived.Test.YtdpbpdhamekcdaaGreatDoorBaM10
import Derived.LoopN
import Derived.WalkMore
import Derived.Test.YtdpbpdhamekcdaaGreatDoorBaM13
import Derived.Laws.RangeString
namespace Go.Proofs.YtdpbpdhamekcdaaGreatDoor
open Go.RowKit
namespace Us
open Nv

theorem wide_get (l : List UInt8) : ∀ (k : Nat) (h : k < l.length), (wide l)[2 * k]? = some 0 ∧ (wide l)[2 * k + 1]? = some l[k] := by
  induction l with
  | nil => intro k h; simp at h
  | cons b r ih =>
    intro k h
    cases k with
    | zero => exact ⟨rfl, rfl⟩
    | succ k =>
      have := ih k (by simpa using h)
      rw [show 2 * (k + 1) = 2 * k + 1 + 1 by omega]
      simpa [wide] using this
theorem S_at {l : List UInt8} {k : Nat} (h : k < (S l).size) {b : UInt8} (hb : l[k]? = some b) : (S l)[k] = b := by
  have h2 : k < l.length := by rw [S_size] at h; exact h
  rw [List.getElem?_eq_getElem h2] at hb
  exact (show (S l)[k] = l[k] from rfl).trans (Option.some.inj hb)
theorem or_low (b : UInt8) : bits .or .u16 0 (IntKind.u16.wrap (b.toNat : Int)) = (b.toNat : Int) := by
  have hb := b.toNat_lt
  obtain ⟨n, hn⟩ : ∃ n, b.toNat = n := ⟨_, rfl⟩
  rw [hn] at hb ⊢
  rw [show IntKind.u16.wrap (n : Int) = (n : Int) by rw [IntKind.wrap_u16]; omega]
  show IntKind.u16.wrap ((BitVec.ofInt 16 0 ||| BitVec.ofInt 16 (n : Int)).toNat : Int) = _
  rw [show BitVec.ofInt 16 0 = 0#16 from rfl, BitVec.zero_or, BitVec.ofInt_natCast, BitVec.toNat_ofNat, IntKind.wrap_u16]
  omega
theorem ustr_unit {s : ByteArray} {k : Nat} (h : 2 * k + 1 < s.size) (hm : s.size ≤ 1000000) (h0 : s[2 * k] = 0) {b : UInt8} (hb : s[2 * k + 1] = b) (w : World) : Calls Tryz.prog 100 #[.string s, .int .i64 (k : Int)] w fun e w' => e = .returned (.int .u16 (b.toNat : Int)) ∧ ∃ q, w' = w.drewN q := by
  obtain ⟨j, hj⟩ : ∃ j, 2 * k = j := ⟨_, rfl⟩
  obtain ⟨i, hi⟩ : ∃ i, 2 * k + 1 = i := ⟨_, rfl⟩
  have hj1 : j < s.size := by omega
  have hi1 : i < s.size := by omega
  have hw1 : IntKind.i64.wrap (2 * (k : Int)) = (j : Int) := by rw [IntKind.wrap_i64] <;> omega
  have hw2 : IntKind.i64.wrap ((j : Int) + 1) = (i : Int) := by rw [IntKind.wrap_i64] <;> omega
  have hs0 : s[j] = 0 := by
    subst hj
    exact h0
  have hs1 : s[i] = b := by
    subst hi
    exact hb
  clear h0 hb hj hi h
  have hor := or_low b
  go_enter Tryz.func100, Tryz.ntmps100
  go_wp2_with fail
  go_quiet (fail)
  go_wp2
  go_ret
  exact ⟨rfl, _, rfl⟩
theorem unit_wide {l : List UInt8} (hm : l.length ≤ 100000) {k : Nat} (h : k < l.length) (w : World) : Calls Tryz.prog 100 #[.string (S (wide l)), .int .i64 (k : Int)] w fun e w' => e = .returned (.int .u16 (l[k].toNat : Int)) ∧ ∃ q, w' = w.drewN q := by
  have hsz : (S (wide l)).size = 2 * l.length := by rw [S_size, wide_length]
  obtain ⟨g1, g2⟩ := wide_get l k h
  exact ustr_unit (by omega) (by omega) (S_at (by omega) g1) (S_at (by omega) g2) w
theorem not_white {c : Int} (h1 : 33 ≤ c) (h2 : c ≤ 127) : (c == 9) = false ∧ (c == 11) = false ∧ (c == 12) = false ∧ (c == 32) = false ∧ (c == 160) = false ∧ (c == 5760) = false ∧ (c == 6158) = false ∧ (c == 8239) = false ∧ (c == 8287) = false ∧ (c == 12288) = false ∧ (c == 65279) = false ∧ (c == 10) = false ∧ (c == 13) = false ∧ (c == 8232) = false ∧ (c == 8233) = false := by
  refine ⟨?_, ?_, ?_, ?_, ?_, ?_, ?_, ?_, ?_, ?_, ?_, ?_, ?_, ?_, ?_⟩ <;> exact beq_eq_false_iff_ne.2 (by omega)
theorem ustr_Space {c : Int} (h1 : 33 ≤ c) (h2 : c ≤ 127) (w : World) : Calls Tryz.prog 99 #[.int .u16 c] w fun e w' => e = .returned (.bool false) ∧ w' = w := by
  obtain ⟨e1, e2, e3, e4, e5, e6, e7, e8, e9, e10, e11, -⟩ := not_white h1 h2
  have hd : decide ((8192 : Int) ≤ c) = false := decide_eq_false (by omega)
  go_enter Tryz.func99, Tryz.ntmps99
  go_wp2
  go_ret
  exact ⟨rfl, rfl⟩
theorem ustr_Ends {c : Int} (h1 : 33 ≤ c) (h2 : c ≤ 127) (w : World) : Calls Tryz.prog 101 #[.int .u16 c] w fun e w' => e = .returned (.bool false) ∧ w' = w := by
  obtain ⟨-, -, -, -, -, -, -, -, -, -, -, e1, e2, e3, e4⟩ := not_white h1 h2
  go_enter Tryz.func101, Tryz.ntmps101
  go_wp2
  go_ret
  exact ⟨rfl, rfl⟩
theorem ustr_Len2 (s : ByteArray) (w : World) (hs : s.size ≤ maxLen) : Calls Tryz.prog 97 #[.string s] w fun e w' => e = .returned (.int .i64 ((s.size / 2 : Nat) : Int)) ∧ w = w' := by
  unfold maxLen at hs
  go_enter Tryz.func97, Tryz.ntmps97
  go_wp2
  go_ret
  exact ⟨rfl, rfl⟩
/-- A text that is not white at its ends. -/
def Neat (l : List UInt8) : Prop := l.length ≤ 1000 ∧ ∀ b ∈ l, 33 ≤ b.toNat ∧ b.toNat ≤ 127
set_option maxRecDepth 100000 in
theorem ustr_Trim {l : List UInt8} (h : Neat l) (w : World) : Calls Tryz.prog 45 #[.string (S (wide l))] w fun e w' => e = .returned (.string (S (wide l))) ∧ Below w.heap.size w w' := by
  obtain ⟨hl, hb⟩ := h
  have hsz : (S (wide l)).size = 2 * l.length := by rw [S_size, wide_length]
  have hlen : ∀ W, Calls Tryz.prog 97 #[.string (S (wide l))] W fun e w' => e = .returned (.int .i64 (l.length : Int)) ∧ W = w' := fun W => by
    have := ustr_Len2 (S (wide l)) W (by unfold maxLen; omega)
    rw [hsz, show 2 * l.length / 2 = l.length by omega] at this
    exact this
  replace hlen := Far.mk hlen
  have hx : (S (wide l)).extract 0 (2 * l.length) = S (wide l) := by
    rw [S_extract, List.drop_zero, List.take_of_length_le (by rw [wide_length]; omega)]
  replace hx := Far.mk hx
  have hU := fun k h => Far.mk (unit_wide (l := l) (by omega) (k := k) h)
  have hN : ∀ k (h : k < l.length), 33 ≤ (l[k].toNat : Int) ∧ (l[k].toNat : Int) ≤ 127 := fun k h => by
    have := hb l[k] (List.getElem_mem h)
    omega
  replace hN := Far.mk hN
  clear hb
  generalize S (wide l) = s at *
  obtain ⟨n, hn⟩ : ∃ n, l.length = n := ⟨_, rfl⟩
  rcases Nat.eq_zero_or_pos n with h0 | h0
  · subst h0
    rw [hn] at hlen hx hsz
    go_enter Tryz.func45, Tryz.ntmps45
    go_wp2_with fail
    with_reducible refine (hlen.out _).mono ?_
    rintro e w' ⟨rfl, rfl⟩
    have hx : s = ByteArray.empty := by
      have := hx.out
      simpa using this.symm
    clear hsz
    go_wp2_with fail
    refine wp_loop_once ?_
    go_wp2_with fail
    refine wp_loop_once ?_
    go_wp2_with fail
    go_ret
    exact ⟨by rw [hx]; rfl, Below.refl _ _⟩
  · obtain ⟨c0, hc0⟩ : ∃ c, (l[0].toNat : Int) = c := ⟨_, rfl⟩
    obtain ⟨c1, hc1⟩ : ∃ c, (l[n - 1].toNat : Int) = c := ⟨_, rfl⟩
    have hU0 := Far.mk (hU 0 (by omega)).out
    have hU1 := Far.mk (hU (n - 1) (by omega)).out
    have hN0 := Far.mk (hN.out 0 (by omega))
    have hN1 := Far.mk (hN.out (n - 1) (by omega))
    rw [hc0, show ((0 : Nat) : Int) = 0 from rfl] at hU0
    rw [hc0] at hN0
    rw [hc1] at hU1 hN1
    clear hc0 hc1 hU hN
    obtain ⟨hN0a, hN0b⟩ := hN0.out
    obtain ⟨hN1a, hN1b⟩ := hN1.out
    rw [hn] at hlen hx hsz hl
    have hS0 := fun W => Far.mk (ustr_Space hN0a hN0b W)
    have hE0 := fun W => Far.mk (ustr_Ends hN0a hN0b W)
    have hS1 := fun W => Far.mk (ustr_Space hN1a hN1b W)
    have hE1 := fun W => Far.mk (ustr_Ends hN1a hN1b W)
    clear hN0 hN1 hN0a hN0b hN1a hN1b hn
    obtain ⟨m, rfl⟩ : ∃ m, n = m + 1 := ⟨n - 1, by omega⟩
    rw [Nat.add_sub_cancel] at hU1
    go_enter Tryz.func45, Tryz.ntmps45
    go_wp2_with fail
    with_reducible refine (hlen.out _).mono ?_
    rintro e w' ⟨rfl, rfl⟩
    go_wp2_with fail
    refine wp_loop_once ?_
    go_wp2_with fail
    with_reducible refine (hU0.out _).mono ?_
    rintro e w1 ⟨rfl, q1, rfl⟩
    go_wp2_with fail
    with_reducible refine (hS0 _).out.mono ?_
    rintro e w1 ⟨rfl, hw⟩
    replace hw := hw.symm
    subst hw
    go_wp2_with fail
    with_reducible refine (hU0.out _).mono ?_
    rintro e w1 ⟨rfl, q2, rfl⟩
    go_wp2_with fail
    with_reducible refine (hE0 _).out.mono ?_
    rintro e w1 ⟨rfl, hw⟩
    replace hw := hw.symm
    subst hw
    go_wp2_with fail
    refine wp_loop_once ?_
    go_wp2_with fail
    with_reducible refine (hU1.out _).mono ?_
    rintro e w1 ⟨rfl, q3, rfl⟩
    go_wp2_with fail
    with_reducible refine (hS1 _).out.mono ?_
    rintro e w1 ⟨rfl, hw⟩
    replace hw := hw.symm
    subst hw
    go_wp2_with fail
    with_reducible refine (hU1.out _).mono ?_
    rintro e w1 ⟨rfl, q4, rfl⟩
    go_wp2_with fail
    with_reducible refine (hE1 _).out.mono ?_
    rintro e w1 ⟨rfl, hw⟩
    replace hw := hw.symm
    subst hw
    replace hx := hx.out
    obtain ⟨N, hN⟩ : ∃ N : Nat, 2 * (m + 1) = N := ⟨_, rfl⟩
    have hN2 : 2 * ((m : Int) + 1) = (N : Int) := by omega
    rw [hN] at hx hsz
    clear hN
    go_wp2_with fail
    go_ret
    exact ⟨rfl, Go.below_drewN (Below.refl _ _) _⟩
end Us
end Go.Proofs.YtdpbpdhamekcdaaGreatDoor
namespace Go.Proofs.YtdpbpdhamekcdaaGreatDoor
open Go.RowKit
namespace Us
open Nv

theorem info_u16 : (Tryz.prog.info? 59).map (fun i => (i.zero, i.size, i.bytes)) = some (some (.int .u16 0), 1, 2) := by kernel_rfl
/-- The units of a text of bytes. -/
def us (l : List UInt8) : List Int := l.map fun b => (b.toNat : Int)
set_option maxRecDepth 100000 in
theorem ustr_Units {l : List UInt8} (hl : l.length ≤ 1000) (w : World) :
    Calls Tryz.prog 98 #[.string (S (wide l))] w fun e w' => ∃ v, e = .returned v ∧ w'.ownsRow w.heap.size 59 1 v l.length ((us l).map (Value.int .u16)) ∧ Below w.heap.size w w' := by
  obtain ⟨i0, hi, hz0, hz1, hz2⟩ := info_parts info_u16
  have hlen : ∀ W, Calls Tryz.prog 97 #[.string (S (wide l))] W fun e w' => e = .returned (.int .i64 (l.length : Int)) ∧ W = w' := fun W => by
    have hsz : (S (wide l)).size = 2 * l.length := by rw [S_size, wide_length]
    have := ustr_Len2 (S (wide l)) W (by unfold maxLen; omega)
    rw [hsz, show 2 * l.length / 2 = l.length by omega] at this
    exact this
  replace hlen := Far.mk hlen
  have hU := fun k h => Far.mk (unit_wide (l := l) (by omega) (k := k) h)
  generalize S (wide l) = s at *
  go_enter Tryz.func98, Tryz.ntmps98
  go_wp2_with fail
  with_reducible refine (hlen.out _).mono ?_
  rintro e w' ⟨rfl, rfl⟩
  go_wp2_with fail
  go_loopw [3, 7] (fun v i wr => ∃ k : Nat, k ≤ l.length ∧ i = .int .i64 k ∧ wr.ownsRow w.heap.size 59 1 v k (((us l).map (Value.int .u16)).take k) ∧ Far (Below w.heap.size w wr))
    (fun _ i _ => l.length - (intOf i).toNat)
  case atStart => exact ⟨0, Nat.zero_le _, rfl, World.ownsRow_nil _ _ _ _, ⟨Below.refl _ _⟩⟩
  case round =>
    obtain ⟨k, hk, rfl, hown, hb⟩ := hrel
    have hbs := hb.out.size
    by_cases hlt : k < l.length
    · have hw : ((us l).map (Value.int .u16)).take (k + 1) = ((us l).map (Value.int .u16)).take k ++ [.int .u16 (l[k].toNat : Int)] := by
        rw [List.take_succ_eq_append_getElem (by simpa [us] using hlt)]
        simp [us]
      have HW := Far.mk hw
      clear hw
      have hUk := hU k hlt
      generalize (l[k].toNat : Int) = c at *
      go_wp2_with (first
        | (go_at_call 100; go_must (with_reducible refine (hUk.out _).mono ?_); rintro e w' ⟨rfl, q, rfl⟩; replace hown : (wr.drewN q).ownsRow w.heap.size 59 1 _ k _ := hown; replace hb : Far (Below w.heap.size w (wr.drewN q)) := ⟨Go.below_drewN hb.out _⟩; have hbs := hb.out.size)
        | (at_builtin; go_must (refine wpList_append_own _ rfl _ _ 93 rfl w.heap.size 59 i0 (.int .u16 0) 1 2 Tryz.underlying93 hi hz0 hz1 hz2 rfl (by decide) _ k _ rfl (hown.alloc _) ⟨_, 0, none⟩ 1 1 [.int .u16 c] rfl rfl (World.news_of_block (cs := #[.int .u16 c]) (t := 59) (fr := (0, 0)) (heap_alloc_new _ _)) (by simp [Value.oneCell']) (by unfold maxLen; omega) (by omega) (by simp; omega) ?_)))
      intro v' w2 hown2 hg2 _
      rw [← HW.out] at hown2
      have hb2 := Far.mk (below_grown hb.out (by omega) hown (Nat.le_refl _) hg2)
      clear hown hg2 hb
      go_wp2
      go_roundw
      case rel => exact ⟨k + 1, by omega, by go_num, hown2, hb2⟩
      case measure => simp [intOf]; omega
    · have hke : k = l.length := by omega
      subst hke
      rw [List.take_of_length_le (by simp [us])] at hown
      go_wp2
      go_ret
      exact ⟨_, rfl, hown, hb.out⟩
/-- A row of units. -/
def Row16 (w : World) (g : Nat) (l : List UInt8) : Prop := ∀ k (h : k < l.length), w.cell? ⟨g, k, none⟩ = some (.int .u16 (l[k].toNat : Int))
theorem Row16.keep {w w' : World} {g : Nat} {l : List UInt8} (h : Row16 w g l) (hb : Below w.heap.size w w') : Row16 w' g l := fun k hk => below_keep hb (h k hk)
theorem Row16.grown {w w' : World} {g q : Nat} {l : List UInt8} (h : Row16 w g l) (hg : w.grownBy w' (some q)) (hne : g ≠ q) : Row16 w' g l := fun k hk => by
  have hlt := World.block_lt_of_cell? w _ (h k hk)
  exact (World.cell?_of_block (w := w) (a := ⟨g, k, none⟩) (hg.block g hlt (fun e => hne (Option.some.inj e)))).trans (h k hk)
theorem row16 {w : World} {base : Nat} {v : Value} {l : List UInt8} (hn : 1 ≤ l.length) (hown : w.ownsRow base 59 1 v l.length ((us l).map (Value.int .u16))) : ∃ g c, v = .slice (some ⟨g, 0, none⟩) l.length c ∧ Row16 w g l ∧ base ≤ g := by
  have hown0 := hown
  rcases hown.2 with ⟨rfl, h0⟩ | ⟨g, cap, cur, rfl, hg, hh, hnc, hcp, hcs, htake⟩
  · omega
  · refine ⟨g, cap, rfl, fun k hk => ?_, hg⟩
    have := hown0.cellAt k (by simpa [us] using hk)
    simpa [us, hk] using this
set_option maxRecDepth 100000 in
theorem nt_narrow {l : List UInt8} (h1 : 1 ≤ l.length) (hl : l.length ≤ 1000) (ha : ∀ b ∈ l, b.toNat ≤ 127) (w : World) :
    Calls Tryz.prog 44 #[.string (S (wide l))] w fun e w' => e = .returned (.string (S l)) ∧ Below w.heap.size w w' := by
  obtain ⟨i0, hi, hz0, hz1, hz2⟩ := info_parts info_byte
  have hlen : ∀ W, Calls Tryz.prog 97 #[.string (S (wide l))] W fun e w' => e = .returned (.int .i64 (l.length : Int)) ∧ W = w' := fun W => by
    have hsz : (S (wide l)).size = 2 * l.length := by rw [S_size, wide_length]
    have := ustr_Len2 (S (wide l)) W (by unfold maxLen; omega)
    rw [hsz, show 2 * l.length / 2 = l.length by omega] at this
    exact this
  replace hlen := Far.mk hlen
  have hU := fun W => Far.mk (ustr_Units hl W)
  have hA := Far.mk fun k (h : k < l.length) => ha l[k] (List.getElem_mem h)
  clear ha
  generalize S (wide l) = s at *
  go_enter Tryz.func44, Tryz.ntmps44
  go_wp2_with fail
  with_reducible refine (hlen.out _).mono ?_
  rintro e w' ⟨rfl, rfl⟩
  go_wp2_with (at_make; go_must (refine wpList_make_own _ rfl _ _ 51 rfl w.heap.size 5 i0 (.int .u8 0) 1 Tryz.underlying51 hi hz0 hz1 _ _ _ l.length rfl rfl rfl (by rw [hz2]; omega) (by unfold maxLen; omega) (by omega) ?_))
  intro w1 hown hg
  have hb1 : Below w.heap.size w w1 := (Below.refl _ _).grown hg (Nat.le_refl _) (by simp)
  replace hown : B8 w1 w.heap.size _ [] := hown
  clear hg
  go_wp2_with fail
  with_reducible refine (hU _).out.mono ?_
  rintro e w2 ⟨v, rfl, hrow, hb2⟩
  obtain ⟨g, c, rfl, hR, hgb⟩ := row16 h1 hrow
  have hne : g ≠ w.heap.size := by
    have : w.heap.size < w1.heap.size := (World.ownsRow.lt hown _ rfl).2
    omega
  replace hown := hown.keep hb2
  have hb3 := hb1.trans (hb2.mono hb1.size)
  clear hrow hb1 hb2
  have hR := Far.mk hR
  go_wp2_with fail
  clear hgb hi hz0 hz1 hz2
  go_loopw [3, 12] (fun v i wr => ∃ k : Nat, k ≤ l.length ∧ i = .int .i64 k ∧ v = .slice (some ⟨w.heap.size, 0, none⟩) k l.length ∧ B8 wr w.heap.size (.slice (some ⟨w.heap.size, 0, none⟩) k l.length) (l.take k) ∧ Far (Below w.heap.size w wr) ∧ Far (Row16 wr g l))
    (fun _ i _ => l.length - (intOf i).toNat)
  case atStart => exact ⟨0, Nat.zero_le _, rfl, rfl, hown, ⟨hb3⟩, hR⟩
  case round =>
    clear hown hb3 hR
    obtain ⟨k, hk, rfl, rfl, hown, hb, hR⟩ := hrel
    have hbs := hb.out.size
    by_cases hlt : k < l.length
    · have hc := hR.out k hlt
      have hA := hA.out k hlt
      have hsn : l.take (k + 1) = l.take k ++ [l[k]] := List.take_succ_eq_append_getElem hlt
      replace hsn := Far.mk hsn
      have hkl : (l.take k).length = k := by rw [List.length_take]; omega
      generalize l[k] = b at *
      have hd : decide ((127 : Int) < (b.toNat : Int)) = false := decide_eq_false (by omega)
      have hwb : IntKind.u8.wrap (b.toNat : Int) = (b.toNat : Int) := by rw [IntKind.wrap_u8]; omega
      go_wp2_with (at_builtin; go_must (refine append_fit rfl _ _ rfl w.heap.size (g := w.heap.size) (k := k) (cap := l.length) (b := b) rfl hown hkl rfl rfl (by omega) ?_))
      intro w4 hown4 hg4
      rw [← hsn.out] at hown4
      have hb4 : Below w.heap.size w w4 := (hb.out.alloc (by omega) _).grown hg4 (by simp; omega) (fun k hk => by cases hk; exact Nat.le_refl _)
      have hR4 : Row16 w4 g l := (hR.out.keep ((Below.refl wr.heap.size wr).alloc (Nat.le_refl _) (.cells #[.int .u8 (b.toNat : Int)] 5))).grown hg4 hne
      clear hown hg4 hb hR hc
      replace hb4 := Far.mk hb4
      replace hR4 := Far.mk hR4
      go_wp2
      go_roundw
      case rel => exact ⟨k + 1, by omega, by go_num, by first | rfl | go_num, hown4, hb4, hR4⟩
      case measure => simp [intOf]; omega
    · have hke : k = l.length := by omega
      subst hke
      rw [List.take_of_length_le (Nat.le_refl _)] at hown
      have hcv := run_string_own (P := Tryz.prog) wr 51 9 5 _ hown Tryz.underlying51 Tryz.underlying5 Tryz.underlying9
      go_wp2
      go_ret
      exact ⟨rfl, hb.out⟩
end Us
end Go.Proofs.YtdpbpdhamekcdaaGreatDoor
namespace Go.Proofs.YtdpbpdhamekcdaaGreatDoor
open Go.RowKit
namespace Us
open Nv

theorem nt_hex1 (w : World) : Calls Tryz.prog 46 #[.string ⟨#[48, 46, 49]⟩] w fun e w' => e = .returned (.bool false) ∧ w' = w := by
  go_enter Tryz.func46, Tryz.ntmps46
  go_wp2_with fail
  go_ret
  exact ⟨rfl, rfl⟩
theorem nt_signed1 (w : World) : Calls Tryz.prog 48 #[.string ⟨#[48, 46, 49]⟩] w fun e w' => e = .returned (.tuple #[.string ⟨#[48, 46, 49]⟩, .float .f64 4607182418800017408]) ∧ w' = w := by
  go_enter Tryz.func48, Tryz.ntmps48
  go_wp2_with fail
  go_ret2
  exact ⟨rfl, rfl⟩
/-- Is it a digit? -/
def isD (b : UInt8) : Bool := decide (48 ≤ b.toNat) && decide (b.toNat ≤ 57)
/-- How many digits a text begins with. -/
def lead : List UInt8 → Nat
  | [] => 0
  | b :: r => if isD b then lead r + 1 else 0
theorem lead_le (l : List UInt8) : lead l ≤ l.length := by
  induction l with
  | nil => exact Nat.le_refl _
  | cons b r ih =>
    unfold lead
    split <;> simp <;> omega
theorem lead_lt {l : List UInt8} {k : Nat} (h : k < lead l) (h2 : k < l.length) : isD l[k] = true := by
  induction l generalizing k with
  | nil => simp at h2
  | cons b r ih =>
    unfold lead at h
    split at h
    · rename_i g
      cases k with
      | zero => exact g
      | succ k => exact ih (by omega) (by simpa using h2)
    · omega
theorem lead_end {l : List UInt8} (h2 : lead l < l.length) : isD l[lead l] = false := by
  induction l with
  | nil => simp at h2
  | cons b r ih =>
    by_cases g : isD b = true
    · have e : lead (b :: r) = lead r + 1 := by
        conv => lhs; unfold lead
        rw [if_pos g]
      have h3 : lead r < r.length := by rw [e] at h2; simpa using h2
      have := ih h3
      simp only [e, List.getElem_cons_succ]
      exact this
    · have e : lead (b :: r) = 0 := by
        conv => lhs; unfold lead
        rw [if_neg g]
      simp only [e, List.getElem_cons_zero]
      simpa using g
theorem nt_digits {l : List UInt8} (hl : l.length ≤ 4000000000000000000) (w : World) : Calls Tryz.prog 60 #[.string (S l)] w fun e w' => e = .returned (.int .i64 (lead l : Int)) ∧ w' = w := by
  have h1 := lead_le l
  have hsz := S_size l
  have hA : ∀ k (_h : k < (S l).size), k < lead l → 48 ≤ ((S l)[k]).toNat ∧ ((S l)[k]).toNat ≤ 57 := fun k h h3 => by
    have := lead_lt h3 (by omega)
    have h5 : 48 ≤ (l[k]'(by omega)).toNat ∧ (l[k]'(by omega)).toNat ≤ 57 := by simpa [isD] using this
    exact h5
  have hB : ∀ h : lead l < (S l).size, 48 ≤ ((S l)[lead l]).toNat → 57 < ((S l)[lead l]).toNat := fun h h3 => by
    have := lead_end (l := l) (by omega)
    change 48 ≤ l[lead l].toNat at h3
    change 57 < l[lead l].toNat
    simp [isD] at this
    omega
  have hA := Far.mk hA
  have hB := Far.mk hB
  generalize lead l = n at *
  generalize S l = s at *
  go_enter Tryz.func60, Tryz.ntmps60
  go_wp2_with fail
  go_loopw [3] (fun i wr => ∃ k : Nat, k ≤ n ∧ i = .int .i64 k ∧ wr = w) (fun i _ => n - (intOf i).toNat)
  case atStart => exact ⟨0, Nat.zero_le _, rfl, rfl⟩
  case round =>
    obtain ⟨k, hk, rfl, hw⟩ := hrel
    subst hw
    by_cases hlt : k < n
    · obtain ⟨a1, a2⟩ := hA.out k (by omega) hlt
      have hks : k < s.size := by omega
      go_wp2
      go_roundw
      case rel => exact ⟨k + 1, by omega, by go_num, by first | rfl | trivial⟩
      case measure => simp [intOf]; omega
    · have hke : k = n := by omega
      subst hke
      by_cases hks : k < s.size
      · have hB := hB.out hks
        by_cases h48 : 48 ≤ (s[k]).toNat
        · have hB := hB h48
          go_wp2
          go_ret
          exact ⟨rfl, rfl⟩
        · clear hB
          go_wp2
          go_ret
          exact ⟨rfl, rfl⟩
      · go_wp2
        go_ret
        exact ⟨rfl, rfl⟩
theorem at1 : (⟨#[48, 46, 49]⟩ : ByteArray)[1] = 46 := rfl
theorem nt_decimal1 (w : World) : Calls Tryz.prog 50 #[.string ⟨#[48, 46, 49]⟩] w fun e w' => e = .returned (.int .i64 3) ∧ w' = w := by
  have hD1 : ∀ W, Calls Tryz.prog 60 #[.string ⟨#[48, 46, 49]⟩] W fun e w' => e = .returned (.int .i64 1) ∧ w' = W := fun W => nt_digits (l := [48, 46, 49]) (by decide) W
  have hD2 : ∀ W, Calls Tryz.prog 60 #[.string ((⟨#[48, 46, 49]⟩ : ByteArray).extract 2 3)] W fun e w' => e = .returned (.int .i64 1) ∧ w' = W := fun W => nt_digits (l := [49]) (by decide) W
  have h1 := at1
  replace hD1 := Far.mk hD1
  replace hD2 := Far.mk hD2
  go_enter Tryz.func50, Tryz.ntmps50
  go_wp2_with fail
  with_reducible refine (hD1.out _).mono ?_
  rintro e w' ⟨rfl, hw⟩
  replace hw := hw.symm
  subst hw
  go_wp2_with fail
  with_reducible refine (hD2.out _).mono ?_
  rintro e w' ⟨rfl, hw⟩
  replace hw := hw.symm
  subst hw
  go_wp2_with fail
  go_ret
  exact ⟨rfl, rfl⟩
end Us
end Go.Proofs.YtdpbpdhamekcdaaGreatDoor
namespace Go.Proofs.YtdpbpdhamekcdaaGreatDoor
open Go.RowKit
namespace Us
open Nv

theorem at50 : (⟨#[48, 46, 49, 101, 48]⟩ : ByteArray)[0] = 48 := rfl
theorem at51 : (⟨#[48, 46, 49, 101, 48]⟩ : ByteArray)[1] = 46 := rfl
theorem at52 : (⟨#[48, 46, 49, 101, 48]⟩ : ByteArray)[2] = 49 := rfl
theorem at53 : (⟨#[48, 46, 49, 101, 48]⟩ : ByteArray)[3] = 101 := rfl
theorem at54 : (⟨#[48, 46, 49, 101, 48]⟩ : ByteArray)[4] = 48 := rfl
theorem sc_special5 (w : World) : Calls Tryz.prog 275 #[.string ⟨#[48, 46, 49, 101, 48]⟩] w fun e w' => e = .returned (.tuple #[.float .f64 0, .int .i64 0, .bool false]) ∧ w' = w := by
  have h0 := at50
  go_enter Tryz.func275, Tryz.ntmps275
  go_wp2_with fail
  go_ret3
  exact ⟨rfl, rfl⟩
attribute [local go_sem] at50 at51 at52 at53 at54
theorem results_tmp7 {fn : Func} {a b c d e f g : Tmp} (h : fn.results = #[.tmp a, .tmp b, .tmp c, .tmp d, .tmp e, .tmp f, .tmp g]) (tmps : Array Value) (P : Program) (w : World) :
    (results fn tmps).run P w = .ok (.tuple #[tmps.getD a undef, tmps.getD b undef, tmps.getD c undef, tmps.getD d undef, tmps.getD e undef, tmps.getD f undef, tmps.getD g undef]) w := by
  simp [results, h]
theorem sc_lower {c v : Int} (h : bits .or .u8 c 32 = v) (w : World) : Calls Tryz.prog 293 #[.int .u8 c] w fun e w' => e = .returned (.int .u8 v) ∧ w' = w := by
  go_enter Tryz.func293, Tryz.ntmps293
  go_wp2_with fail
  go_ret
  exact ⟨rfl, rfl⟩
set_option maxRecDepth 100000 in
set_option maxHeartbeats 800000 in
theorem sc_readFloat5 (w : World) : Calls Tryz.prog 276 #[.string ⟨#[48, 46, 49, 101, 48]⟩] w fun e w' => e = .returned (.tuple #[.int .u64 1, .int .i64 (-1), .bool false, .bool false, .bool false, .int .i64 5, .bool true]) ∧ w' = w := by
  go_enter Tryz.func276, Tryz.ntmps276
  go_wp2_with fail
  go_step3
  go_wp2_with fail
  with_reducible refine (sc_lower (c := 46) (v := 46) (by decide) _).mono ?_
  rintro e w' ⟨rfl, hw⟩
  replace hw := hw.symm
  subst hw
  go_wp2_with fail
  go_step3
  go_wp2_with fail
  refine wp_loop_rounds 4 ?_
  iterate 4 (rw [rounds_succ]; go_wp2_with fail)
  with_reducible refine (sc_lower (c := 101) (v := 101) (by decide) _).mono ?_
  rintro e w' ⟨rfl, hw⟩
  replace hw := hw.symm
  subst hw
  go_wp2_with fail
  refine wp_loop_rounds 2 ?_
  iterate 2 (rw [rounds_succ]; go_wp2_with fail)
  rw [Exit.noGoto_ret]
  refine bodyPost_ret (results_tmp7 rfl _ _ _) rfl ?_
  exact ⟨rfl, rfl⟩
/-- What the reader's laid variables hold. -/
structure Rds (w : World) : Prop where
  opt : w.cell? ⟨5, 0, none⟩ = some (.bool true)
  mant : w.cell? ⟨9, 0, none⟩ = some (.int .u64 52)
  ten : ∃ a n c, w.cell? ⟨13, 0, none⟩ = some (.slice (some a) n c) ∧ 2 ≤ n ∧ n ≤ c ∧ n ≤ 100 ∧ w.cell? (a.add 1) = some (.float .f64 4621819117588971520)
theorem Rds.keep {w w' : World} (h : Rds w) (hb : Below w.heap.size w w') : Rds w' := ⟨below_keep hb h.opt, below_keep hb h.mant, by
  obtain ⟨a, n, c, a1, a2, a3, a4, a5⟩ := h.ten
  exact ⟨a, n, c, below_keep hb a1, a2, a3, a4, below_keep hb a5⟩⟩
theorem one_f : floatOfInt .f64 1 = 4607182418800017408 := by decide +kernel
theorem tenth (W : World) : (binOp .quo 24 (.float .f64 4607182418800017408) (.float .f64 4621819117588971520)).run Tryz.prog W = .ok (.float .f64 4591870180066957722) W := by kernel_rfl
attribute [local go_sem] one_f tenth
set_option maxRecDepth 100000 in
theorem sc_exact1 {w : World} (hR : Rds w) : Calls Tryz.prog 286 #[.int .u64 1, .int .i64 (-1), .bool false] w fun e w' => e = .returned (.tuple #[.float .f64 4591870180066957722, .bool true]) ∧ w' = w := by
  obtain ⟨h1, h2, a, n, c, h3, h4, h5, h6, h7⟩ := hR
  obtain ⟨g, o, v⟩ := a
  replace h7 : w.cell? ⟨g, o + 1, none⟩ = some (.float .f64 4621819117588971520) := h7
  go_enter Tryz.func286, Tryz.ntmps286
  go_wp2_with fail
  go_ret2
  exact ⟨rfl, rfl⟩
theorem sc_bool2f (w : World) : Calls Tryz.prog 284 #[.bool false] w fun e w' => e = .returned (.int .u64 0) ∧ w' = w := by
  go_enter Tryz.func284, Tryz.ntmps284
  go_wp2_with fail
  go_ret
  exact ⟨rfl, rfl⟩
set_option maxRecDepth 100000 in
theorem sc_atof5 {w : World} (hR : Rds w) : Calls Tryz.prog 248 #[.string ⟨#[48, 46, 49, 101, 48]⟩] w fun e w' => e = .returned (.tuple #[.float .f64 4591870180066957722, .int .i64 5, .nilIface]) ∧ w' = w := by
  have hE := Far.mk (sc_exact1 hR)
  have hS := Far.mk sc_special5
  have hF := Far.mk sc_readFloat5
  have hB := Far.mk sc_bool2f
  obtain ⟨h1, -, -⟩ := hR
  go_enter Tryz.func248, Tryz.ntmps248
  go_wp2_with fail
  with_reducible refine (hS.out _).mono ?_
  rintro e w' ⟨rfl, hw⟩
  replace hw := hw.symm
  subst hw
  go_wp2_with fail
  with_reducible refine (hF.out _).mono ?_
  rintro e w' ⟨rfl, hw⟩
  replace hw := hw.symm
  subst hw
  go_wp2_with fail
  with_reducible refine (hB.out _).mono ?_
  rintro e w' ⟨rfl, hw⟩
  replace hw := hw.symm
  subst hw
  go_wp2_with fail
  with_reducible refine hE.out.mono ?_
  rintro e w' ⟨rfl, hw⟩
  replace hw := hw.symm
  subst hw
  go_wp2_with fail
  go_ret3
  exact ⟨rfl, rfl⟩
set_option maxRecDepth 100000 in
theorem sc_prefix5 {w : World} (hR : Rds w) : Calls Tryz.prog 213 #[.string ⟨#[48, 46, 49, 101, 48]⟩, .int .i64 64] w fun e w' => e = .returned (.tuple #[.float .f64 4591870180066957722, .int .i64 5, .nilIface]) ∧ w' = w := by
  have hE := Far.mk (sc_atof5 hR)
  go_enter Tryz.func213, Tryz.ntmps213
  go_wp2_with fail
  with_reducible refine hE.out.mono ?_
  rintro e w' ⟨rfl, hw⟩
  replace hw := hw.symm
  subst hw
  go_wp2_with fail
  go_ret3
  exact ⟨rfl, rfl⟩
theorem isc_Parse5 {w : World} (hR : Rds w) : Calls Tryz.prog 171 #[.string ⟨#[48, 46, 49, 101, 48]⟩, .int .i64 64] w fun e w' => e = .returned (.tuple #[.float .f64 4591870180066957722, .nilIface]) ∧ w' = w := by
  have hE := Far.mk (sc_prefix5 hR)
  go_enter Tryz.func171, Tryz.ntmps171
  go_wp2_with fail
  with_reducible refine hE.out.mono ?_
  rintro e w' ⟨rfl, hw⟩
  replace hw := hw.symm
  subst hw
  go_wp2_with fail
  go_ret2
  exact ⟨rfl, rfl⟩
theorem sc_Parse5 {w : World} (hR : Rds w) : Calls Tryz.prog 110 #[.string ⟨#[48, 46, 49, 101, 48]⟩, .int .i64 64] w fun e w' => e = .returned (.tuple #[.float .f64 4591870180066957722, .nilIface]) ∧ w' = w := by
  have hE := Far.mk (isc_Parse5 hR)
  go_enter Tryz.func110, Tryz.ntmps110
  go_wp2_with fail
  with_reducible refine hE.out.mono ?_
  rintro e w' ⟨rfl, hw⟩
  replace hw := hw.symm
  subst hw
  go_wp2_with fail
  go_ret2
  exact ⟨rfl, rfl⟩
end Us
end Go.Proofs.YtdpbpdhamekcdaaGreatDoor
namespace Go.Proofs.YtdpbpdhamekcdaaGreatDoor
open Go.RowKit
namespace Us
open Nv

theorem strings_TrimNone (w : World) : Calls Tryz.prog 103 #[.string ⟨#[]⟩, .string ⟨#[43, 45]⟩] w fun e w' => e = .returned (.string ⟨#[]⟩) ∧ w' = w := by
  go_enter Tryz.func103, Tryz.ntmps103
  go_wp2_with fail
  go_ret
  exact ⟨rfl, rfl⟩
theorem nt_power0 (w : World) : Calls Tryz.prog 109 #[.string ⟨#[]⟩] w fun e w' => e = .returned (.int .i64 0) ∧ w' = w.iter ⟨#[]⟩ 0 := by
  have hT := Far.mk strings_TrimNone
  have hP : ∀ W, Calls Tryz.prog 63 #[.string ⟨#[]⟩, .string ⟨#[45]⟩] W fun e w' => e = .returned (.bool false) ∧ w' = W := fun W => strings_HasPrefix ⟨#[]⟩ ⟨#[45]⟩ W
  replace hP := Far.mk hP
  have hnx : ∀ ty, (Instr.next (.pointer (some ⟨w.heap.size, 0, none⟩)) true ty).run Tryz.prog (w.iter ⟨#[]⟩ 0) = .ok (.tuple #[.bool false]) (w.iter ⟨#[]⟩ 0) := fun ty => run_next_end w ⟨#[]⟩ 0 ty (by decide)
  go_enter Tryz.func109, Tryz.ntmps109
  go_wp2_with fail
  with_reducible refine (hT.out _).mono ?_
  rintro e w' ⟨rfl, hw⟩
  replace hw := hw.symm
  subst hw
  go_wp2_with fail
  refine wp_loop_once ?_
  go_wp2_with fail
  with_reducible refine (hP.out _).mono ?_
  rintro e w' ⟨rfl, hw⟩
  replace hw := hw.symm
  subst hw
  go_wp2_with fail
  go_ret
  exact ⟨rfl, rfl⟩
theorem ascii {l : List UInt8} (h : (l.all fun b => decide (b.toNat < 128)) = true) : ∀ (j : Nat) b, l[j]? = some b → b.toNat < 128 := fun j b hj => by
  have := List.all_eq_true.1 h b (List.mem_of_getElem? hj)
  simpa using this
set_option maxRecDepth 100000 in
theorem nt_float1 {w : World} (hR : Rds w) (hT : Tabs w) : Calls Tryz.prog 51 #[.string ⟨#[48, 46, 49]⟩] w fun e w' => e = .returned (.float .f64 4591870180066957722) ∧ Below w.heap.size w w' := by
  have hI : ∀ W, Calls Tryz.prog 107 #[.string ⟨#[48, 46, 49]⟩, .string ⟨#[101, 69]⟩] W fun e w' => e = .returned (.int .i64 (-1)) ∧ Below W.heap.size W w' := fun W => strings_IndexAny_laid ⟨#[48, 46, 49]⟩ ⟨#[101, 69]⟩ W (by decide) (by decide) (ascii (by decide)) (ascii (by decide))
  have hC : ∀ (m : Int) W, W.cell? ⟨2, 0, none⟩ = some (.int .i64 m) → Calls Tryz.prog 108 #[.string ⟨#[48, 46, 49]⟩, .string ⟨#[46]⟩] W fun e w' => e = .returned (.tuple #[.string ⟨#[48]⟩, .string ⟨#[49]⟩, .bool true]) ∧ ∃ n, w' = W.drewN n := fun m W hm => strings_Cut ⟨#[48, 46, 49]⟩ ⟨#[46]⟩ m W (by decide) hm
  have hL : ∀ W, Calls Tryz.prog 103 #[.string ⟨#[48, 49]⟩, .string ⟨#[48]⟩] W fun e w' => e = .returned (.string ⟨#[49]⟩) ∧ w' = W := fun W => strings_TrimLeft_one ⟨#[48, 49]⟩ 48 (by decide) W
  have hP := nt_power0
  have hO : ∀ W, Calls Tryz.prog 111 #[.int .i64 0] W fun e w' => e = .returned (.string ⟨#[48]⟩) ∧ w' = W := fun W => by
    have h := strconv_Itoa_small 0 (by decide) W
    rw [show Lib.decDigits 0 = [48] by unfold Lib.decDigits; rfl] at h
    exact h
  have hF : ∀ W, Below w.heap.size w W → Calls Tryz.prog 110 #[.string ⟨#[48, 46, 49, 101, 48]⟩, .int .i64 64] W fun e w' => e = .returned (.tuple #[.float .f64 4591870180066957722, .nilIface]) ∧ w' = W := fun W hb => sc_Parse5 (hR.keep hb)
  obtain ⟨m, hm⟩ := hT.len
  replace hm := Far.mk hm
  replace hI := Far.mk hI
  replace hC := Far.mk hC
  replace hL := Far.mk hL
  replace hP := Far.mk hP
  replace hO := Far.mk hO
  replace hF := Far.mk hF
  clear hR hT
  go_enter Tryz.func51, Tryz.ntmps51
  go_wp2_with fail
  with_reducible refine (hI.out _).mono ?_
  rintro e w1 ⟨rfl, hb1⟩
  go_wp2_with fail
  with_reducible refine (hC.out m _ (below_keep hb1 hm.out)).mono ?_
  rintro e w2 ⟨rfl, n, rfl⟩
  replace hb1 := Go.below_drewN hb1 n
  generalize w1.drewN n = w2 at *
  go_wp2_with fail
  rw [show (⟨#[48]⟩ : ByteArray) ++ ⟨#[49]⟩ = ⟨#[48, 49]⟩ by decide]
  with_reducible refine (hL.out _).mono ?_
  rintro e w' ⟨rfl, hw⟩
  replace hw := hw.symm
  subst hw
  go_wp2_with fail
  with_reducible refine (hP.out _).mono ?_
  rintro e w3 ⟨rfl, hw⟩
  have hb3 : Below w2.heap.size w2 w3 := by
    rw [hw]
    exact (Below.refl _ _).alloc (Nat.le_refl _) _
  replace hb3 := hb1.trans (hb3.mono hb1.size)
  clear hw hb1
  go_wp2_with fail
  with_reducible refine (hO.out _).mono ?_
  rintro e w' ⟨rfl, hw⟩
  replace hw := hw.symm
  subst hw
  go_wp2_with fail
  rw [show (⟨#[48, 46]⟩ : ByteArray) ++ ⟨#[49]⟩ ++ ⟨#[101]⟩ ++ ⟨#[48]⟩ = ⟨#[48, 46, 49, 101, 48]⟩ by decide]
  with_reducible refine (hF.out _ hb3).mono ?_
  rintro e w' ⟨rfl, hw⟩
  replace hw := hw.symm
  subst hw
  go_wp2_with fail
  go_ret
  exact ⟨rfl, hb3⟩
theorem once (W : World) : (binOp .mul 24 (.float .f64 4607182418800017408) (.float .f64 4591870180066957722)).run Tryz.prog W = .ok (.float .f64 4591870180066957722) W := by kernel_rfl
attribute [local go_sem] once
set_option maxRecDepth 100000 in
theorem nt_Number1 {w : World} (hR : Rds w) (hT : Tabs w) : Calls Tryz.prog 13 #[.string ⟨#[0, 48, 0, 46, 0, 49]⟩] w fun e w' => e = .returned (.float .f64 4591870180066957722) ∧ Below w.heap.size w w' := by
  have hTr : ∀ W, Calls Tryz.prog 45 #[.string ⟨#[0, 48, 0, 46, 0, 49]⟩] W fun e w' => e = .returned (.string ⟨#[0, 48, 0, 46, 0, 49]⟩) ∧ Below W.heap.size W w' := fun W => ustr_Trim (l := [48, 46, 49]) ⟨by decide, by decide⟩ W
  have hNa : ∀ W, Calls Tryz.prog 44 #[.string ⟨#[0, 48, 0, 46, 0, 49]⟩] W fun e w' => e = .returned (.string ⟨#[48, 46, 49]⟩) ∧ Below W.heap.size W w' := fun W => nt_narrow (l := [48, 46, 49]) (by decide) (by decide) (by decide) W
  have hH := Far.mk nt_hex1
  have hS := Far.mk nt_signed1
  have hD := Far.mk nt_decimal1
  have hF : ∀ W, Below w.heap.size w W → Calls Tryz.prog 51 #[.string ⟨#[48, 46, 49]⟩] W fun e w' => e = .returned (.float .f64 4591870180066957722) ∧ Below W.heap.size W w' := fun W hb => nt_float1 (hR.keep hb) (hT.keep hb)
  replace hTr := Far.mk hTr
  replace hNa := Far.mk hNa
  replace hF := Far.mk hF
  clear hR hT
  go_enter Tryz.func13, Tryz.ntmps13
  go_wp2_with fail
  with_reducible refine (hTr.out _).mono ?_
  rintro e w1 ⟨rfl, hb1⟩
  go_wp2_with fail
  with_reducible refine (hNa.out _).mono ?_
  rintro e w2 ⟨rfl, hb2⟩
  replace hb2 := hb1.trans (hb2.mono hb1.size)
  clear hb1
  go_wp2_with fail
  with_reducible refine (hH.out _).mono ?_
  rintro e w' ⟨rfl, hw⟩
  replace hw := hw.symm
  subst hw
  go_wp2_with fail
  with_reducible refine (hS.out _).mono ?_
  rintro e w' ⟨rfl, hw⟩
  replace hw := hw.symm
  subst hw
  go_wp2_with fail
  with_reducible refine (hD.out _).mono ?_
  rintro e w' ⟨rfl, hw⟩
  replace hw := hw.symm
  subst hw
  go_wp2_with fail
  with_reducible refine (hF.out _ hb2).mono ?_
  rintro e w3 ⟨rfl, hb3⟩
  replace hb3 := hb2.trans (hb3.mono hb2.size)
  go_wp2_with fail
  go_ret
  exact ⟨rfl, hb3⟩
end Us
end Go.Proofs.YtdpbpdhamekcdaaGreatDoor
namespace Go.Proofs.YtdpbpdhamekcdaaGreatDoor
open Go.RowKit
namespace Us
open Nv

theorem short_tenth : Short 4591870180066957722 1 (-1) := by
  refine dig_low (r := 4591870180066957722) (q := 1) (n := 0) (k := 1) (by decide) ?_ ?_ (fun k' h1 h2 => by omega) (by decide) ?_ ?_ ?_ (.inl ?_)
  · unfold Le; decide +kernel
  · unfold Le; decide +kernel
  · unfold Le; decide +kernel
  · unfold Le; decide +kernel
  · unfold In; decide +kernel
  · unfold In; decide +kernel
theorem txt_tenth {s : List UInt8} (h : TxtW 4591870180066957722 s) : s = [48, 46, 49] := by
  refine h.one (.inr (.inl ⟨by decide +kernel, by decide, .inr (.inr ⟨by decide, by decide +kernel, 1, -1, short_tenth, ?_⟩)⟩))
  unfold txt
  rw [digs_1]
  rfl
theorem S_big {l : List UInt8} {n : Nat} (h : l.length ≤ n) : (S l).size ≤ n := by rw [S_size]; exact h
set_option maxRecDepth 100000 in
theorem nt_awake {w : World} (hR : Rds w) (hT : Tabs w) : Calls Tryz.prog 15 #[] w fun e w' => e = .returned (.bool true) ∧ Below w.heap.size w w' := by
  have h1 : Calls Tryz.prog 18 #[.float .f64 4591870180066957722] w fun e w' => e = .returned (.string ⟨#[0, 48, 0, 46, 0, 49]⟩) ∧ Below w.heap.size w w' := (nt_Text_float (by decide) hT).mono fun e w' ⟨s, hs, _, he, hb⟩ => by
    rw [txt_tenth hs] at he
    exact ⟨he, hb⟩
  have h2 : ∀ W, Calls Tryz.prog 14 #[.string ⟨#[48, 46, 49]⟩] W fun e w' => e = .returned (.string ⟨#[0, 48, 0, 46, 0, 49]⟩) ∧ Below W.heap.size W w' := fun W => ref01_Wide ⟨#[48, 46, 49]⟩ W (by decide)
  have h3 : ∀ W, Below w.heap.size w W → Calls Tryz.prog 13 #[.string ⟨#[0, 48, 0, 46, 0, 49]⟩] W fun e w' => e = .returned (.float .f64 4591870180066957722) ∧ Below W.heap.size W w' := fun W hb => nt_Number1 (hR.keep hb) (hT.keep hb)
  have h4 : FloatKind.f64.format.order 4591870180066957722 4591870180066957722 = some .eq := by decide +kernel
  replace h1 := Far.mk h1
  replace h2 := Far.mk h2
  replace h3 := Far.mk h3
  clear hR hT
  go_enter Tryz.func15, Tryz.ntmps15
  go_wp2_with fail
  with_reducible refine h1.out.mono ?_
  rintro e w1 ⟨rfl, hb1⟩
  go_wp2_with fail
  with_reducible refine (h2.out _).mono ?_
  rintro e w2 ⟨rfl, hb2⟩
  replace hb2 := hb1.trans (hb2.mono hb1.size)
  clear hb1
  go_wp2_with fail
  with_reducible refine (h2.out _).mono ?_
  rintro e w3 ⟨rfl, hb3⟩
  replace hb3 := hb2.trans (hb3.mono hb2.size)
  clear hb2
  go_wp2_with fail
  with_reducible refine (h3.out _ hb3).mono ?_
  rintro e w4 ⟨rfl, hb4⟩
  replace hb4 := hb3.trans (hb4.mono hb3.size)
  clear hb3
  go_wp2_with fail
  go_ret
  exact ⟨rfl, hb4⟩
set_option maxRecDepth 100000 in
theorem law_Texts {f : Nat} (hf : f < 18446744073709551616) {w : World} (hR : Rds w) (hT : Tabs w) : Calls Tryz.prog 4 #[.float .f64 f] w fun e w' => e = .returned (.bool true) ∧ Below w.heap.size w w' := by
  have h1 := Far.mk (nt_Shortest hf hT)
  have h2 := fun W => Far.mk (ref_Shortest hf (w := W))
  have h3 := fun W (hb : Below w.heap.size w W) => Far.mk (nt_Text_float hf (hT.keep hb))
  have h4 := fun W => Far.mk (ref_Text_float hf W)
  have h5 := fun W (hb : Below w.heap.size w W) => Far.mk (nt_awake (hR.keep hb) (hT.keep hb))
  clear hR hT hf
  go_enter Tryz.func4, Tryz.ntmps4
  go_wp2_with fail
  with_reducible refine h1.out.mono ?_
  rintro e w1 ⟨s, n, c, rfl, hs, hb1⟩
  replace hs := Far.mk hs
  go_wp2_with fail
  with_reducible refine (h2 _).out.mono ?_
  rintro e w2 ⟨s', n', c', rfl, hs', hb2⟩
  obtain ⟨rfl, rfl, rfl⟩ := hs.out.one hs'
  replace hb2 := hb1.trans (hb2.mono hb1.size)
  clear hb1 hs hs'
  go_wp2_with fail
  with_reducible refine (h3 _ hb2).out.mono ?_
  rintro e w3 ⟨t, ht, hl, rfl, hb3⟩
  replace hb3 := hb2.trans (hb3.mono hb2.size)
  replace ht := Far.mk ht
  clear hb2 hl
  go_wp2_with fail
  with_reducible refine (h4 _).out.mono ?_
  rintro e w4 ⟨t', ht', hl, rfl, hb4⟩
  obtain rfl := ht.out.one ht'
  replace hb4 := hb3.trans (hb4.mono hb3.size)
  clear hb3 ht ht' hl
  go_wp2_with fail
  with_reducible refine (h5 _ hb4).out.mono ?_
  rintro e w5 ⟨rfl, hb5⟩
  replace hb5 := hb4.trans (hb5.mono hb4.size)
  clear hb4
  go_wp2_with fail
  go_ret
  exact ⟨rfl, hb5⟩
end Us
end Go.Proofs.YtdpbpdhamekcdaaGreatDoor
