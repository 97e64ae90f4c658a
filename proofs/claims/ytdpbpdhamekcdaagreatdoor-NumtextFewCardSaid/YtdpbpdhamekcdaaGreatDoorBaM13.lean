/-
  Contracts of strconv.FormatFloat(x, 'e', -1, 64) and what it calls: the shortest digits with an exponent. Conditions: the float is a number above nought; the tables of powers of ten lie where they lie. Plain laws: a number with an exponent taken apart again. No program in sight; no condition. Contracts of strconv.FormatFloat(x, 'e', -1, 64) and of numtext.shortest. Conditions: the float is a number above nought; the tables of powers of ten lie where they lie. Contracts of numtext.noughts, pointed, text and Text: a float's text. Conditions: the float is a float of 64 bits; the tables of powers of ten lie where they lie. Contracts of numtext.Shortest and quillref03.Shortest: a float's shortest digits. Conditions: the float is a float of 64 bits; the tables of powers of ten lie where they lie.
-/
import Derived.Test.YtdpbpdhamekcdaaGreatDoorBaM12
import Derived.Lib.IndexMore
import Derived.Lib.Replace
import Derived.Lib.Atoi
import Derived.Lib.AtoiErrMem
import Derived.Deep.AppendLies
import Derived.Test.YtdpbpdhamekcdaaGreatDoorBaM9
import Derived.Lib.AppendIntMem
namespace Go.Proofs.YtdpbpdhamekcdaaGreatDoor
open Go.RowKit
namespace Us
open Nv

/-- What the program's numbers need of the world. -/
structure Tabs (w : World) : Prop where
  p10 : P10 w
  u10 : Lib.TabIs Tryz.prog w "internal/strconv.uint64pow10" .u64 Lib.pow10Tab
  len : ∃ m : Int, w.cell? ⟨2, 0, none⟩ = some (.int .i64 m)
theorem var_keep {w w' : World} (hb : Below w.heap.size w w') {n : String} {cs : Array Value} (h : w.var? Tryz.prog n = some cs) : w'.var? Tryz.prog n = some cs := by
  unfold World.var? at h ⊢
  obtain ⟨g, hg, h2⟩ := Option.bind_eq_some_iff.1 h
  rw [hg]
  simp only [Option.bind_some]
  have hlt : g < w.heap.size := by
    rcases Nat.lt_or_ge g w.heap.size with k | k
    · exact k
    · simp [Array.getElem?_eq_none k] at h2
  rw [hb.block g hlt]
  exact h2
theorem Tabs.keep {w w' : World} (h : Tabs w) (hb : Below w.heap.size w w') : Tabs w' := ⟨h.p10.keep hb, var_keep hb h.u10, by
  obtain ⟨m, hm⟩ := h.len
  exact ⟨m, below_keep hb hm⟩⟩
/-- What Go's shortest digits are. -/
theorem go_parts {r : Nat} (h1 : 1 ≤ r) (h2 : r < infR) : ∃ (c t : Nat) (j : Int), (goShort r).1 = c * 10 ^ t ∧ (goShort r).2 = j - t ∧ Short r c j ∧ c * 10 ^ t < 18446744073709551616 ∧ 1 ≤ c ∧ c % 10 ≠ 0 ∧ -400 ≤ (goShort r).2 ∧ (goShort r).2 ≤ 400 := by
  obtain ⟨c, t, hc, hs⟩ := go_short h1 h2
  obtain ⟨i, s, hR⟩ := go_rng h1 h2
  obtain ⟨v1, v2⟩ := goU_rng (x := minOf r) hR hR.mn (by have := hR.mn2; have := hR.mx; have := hR.mx2; omega)
  obtain ⟨v3, v4⟩ := goU_rng (x := maxOf r) hR (by have := hR.mx; have := hR.m63; omega) hR.mx2
  obtain ⟨v5, v6⟩ := goU_rng (x := mOf r) hR (by have := hR.m63; omega) (by have := hR.mx; have := hR.mx2; omega)
  have hp := hR.hp
  have hi := hR.hi0
  have hb : (goShort r).1 < 18446744073709551616 ∧ -400 ≤ (goShort r).2 ∧ (goShort r).2 ≤ 400 := by
    unfold goShort dminOf dmaxOf d3Of
    split
    · refine ⟨?_, ?_, ?_⟩ <;> simp only <;> omega
    · refine ⟨?_, ?_, ?_⟩
      · simp only
        split <;> omega
      · simp only; omega
      · simp only; omega
  exact ⟨c, t, _, hc, by omega, hs, by rw [← hc]; exact hb.1, hs.pos, hs.odd10, hb.2.1, hb.2.2⟩
theorem run_f64bits (b : Nat) (w : World) : (callFunc 256 #[.float .f64 b]).run Tryz.prog w = .ok (.value (.int .u64 b)) w := by
  rw [run_callFunc_extern Tryz.func256 (by kernel_rfl) (by kernel_rfl) (by kernel_rfl) (e := Extern.MathFloatBits.float64bits) (by kernel_rfl)]; rfl
attribute [local go_sem] run_f64bits
theorem bitLenAux_eq (f : Nat) : ∀ x, 0 < x → x < 2 ^ f → Lib.bitLenAux f x = x.log2 + 1 := by
  induction f with
  | zero => intro x h1 h2; simp at h2; omega
  | succ f ih =>
    intro x h1 h2
    rw [Lib.bitLenAux, if_neg (by omega)]
    rcases Nat.lt_or_ge x 2 with h | h
    · have : x = 1 := by omega
      subst this
      cases f with
      | zero => rfl
      | succ f => rw [Lib.bitLenAux, if_pos (by decide)]; decide
    · rw [ih (x / 2) (by omega) (by rw [Nat.pow_succ] at h2; omega), Nat.log2_def x, if_pos h]
      omega
/-- What ftoa64 tells. -/
def FtoaQ (r base : Nat) (w : World) (x : Ending) (w' : World) : Prop := ∃ v c j, x = .returned v ∧ Short r c j ∧ (digs 10 c).length ≤ 20 ∧ -500 ≤ j ∧ j ≤ 500 ∧ B8 w' base v (eS (digs 10 c) (j + ((digs 10 c).length : Int) - 1)) ∧ Below base w w'
set_option maxRecDepth 100000 in
set_option maxHeartbeats 4000000 in
theorem sc_ftoa64 {r g base : Nat} (h1 : 1 ≤ r) (h2 : r < infR) {w : World} (hT : Tabs w) (hown : B8 w base (.slice (some ⟨g, 0, none⟩) 0 24) []) (hbase : base ≤ w.heap.size) :
    Calls Tryz.prog 220 #[.slice (some ⟨g, 0, none⟩) 0 24, .float .f64 r, .int .u8 101, .int .i64 (-1)] w (FtoaQ r base w) := by
  obtain ⟨c, t, j, hd, hp, hsh, hd64, hc1, hc10, hp1, hp2⟩ := go_parts h1 h2
  obtain ⟨z1, z2, -, -, e1, e2⟩ := sf_z h1 h2
  obtain ⟨ma, mb, mc⟩ := sf_mant h1
  have hml := mant_lt r
  obtain ⟨_, _, hR⟩ := go_rng h1 h2
  have hm64 : mOf r < 18446744073709551616 := by have := hR.mx; have := hR.mx2; omega
  have hmd : mOf r = mantOf r * 2 ^ zOf r := rfl
  have hzd : zOf r = 63 - (mantOf r).log2 := rfl
  have hed : eOf r = (kOf r : Int) - zOf r - 1074 := rfl
  have hbl : Lib.bitLen (mantOf r) = (mantOf r).log2 + 1 := bitLenAux_eq 64 _ (by omega) (by rw [show (2 : Nat) ^ 64 = 18446744073709551616 by decide]; omega)
  have hS : Far (∀ (W : World) (M E : Int), P10 W → M = (mOf r : Nat) → E = eOf r → Calls Tryz.prog 268 #[.int .u64 M, .int .i64 E] W (ShortQ r W)) := ⟨fun W M E hP hM hE => by
    subst hM
    subst hE
    exact sc_short h1 h2 hP⟩
  have hL64 : Far (∀ (W : World) (X : Int), X = (mantOf r : Nat) → Calls Tryz.prog 260 #[.int .u64 X] W fun e w' => e = .returned (.int .i64 (64 - (zOf r : Int))) ∧ w' = W) := ⟨fun W X hX => by
    subst hX
    refine (bits_Len64 ((mantOf r : Nat) : Int) W (by omega) (by omega)).mono ?_
    rintro e w' ⟨rfl, hw⟩
    refine ⟨?_, hw⟩
    rw [Int.toNat_natCast, hbl]
    congr 2
    omega⟩
  have hr : r < 9218868437227405312 := h2
  have hand : bits .and .u64 (r : Int) 4503599627370495 = ((r % 4503599627370496 : Nat) : Int) := by
    have h := bits_mask .u64 64 (by decide) (fun n h1 h2 => wrapU64_eq h1 (by omega)) 52 (by decide) (r : Int) (by omega) (by omega)
    rw [show ((2 : Int) ^ 52 - 1) = 4503599627370495 by decide, show ((2 : Int) ^ 52) = 4503599627370496 by decide] at h
    rw [h]
    omega
  have hand2 : bits .and .i64 ((r : Int) / 4503599627370496) 2047 = ((r / 4503599627370496 : Nat) : Int) := by
    have h := bits_mask .i64 63 (by decide) (fun n h1 h2 => by rw [IntKind.wrap_i64]; omega) 11 (by decide) ((r : Int) / 4503599627370496) (by omega) (by omega)
    rw [show ((2 : Int) ^ 11 - 1) = 2047 by decide, show ((2 : Int) ^ 11) = 2048 by decide] at h
    rw [h]
    omega
  have hor := or_bit (a := ((r % 4503599627370496 : Nat) : Int)) (by omega) (by omega)
  obtain ⟨f, hf⟩ : ∃ f, r % 4503599627370496 = f := ⟨_, rfl⟩
  obtain ⟨b, hb⟩ : ∃ b, r / 4503599627370496 = b := ⟨_, rfl⟩
  have hneg : (r : Int) / 9223372036854775808 = 0 := by omega
  rw [hf] at hand hor
  rw [hb] at hand2
  have hf2 : f < 4503599627370496 := by omega
  have hb2 : b ≤ 2046 := by omega
  by_cases hb0 : b = 0
  · have hmt : mantOf r = f := by unfold mantOf; rw [if_pos (by omega)]; omega
    have hk : ((kOf r : Nat) : Int) = 0 := by unfold kOf; omega
    subst hb0
    rw [hmt] at hmd hL64
    obtain ⟨z, hz⟩ : ∃ z, zOf r = z := ⟨_, rfl⟩
    rw [hz] at hmd hL64 z1 z2 hed
    have hsh2 : IntKind.u64.wrap ((f : Int) * 2 ^ z) = (mOf r : Nat) := by
      have e : (f : Int) * 2 ^ z = ((mOf r : Nat) : Int) := by
        rw [hmd, Int.natCast_mul, Int.natCast_pow]
        rfl
      rw [e, wrapU64_eq (by omega) (by omega)]
    obtain ⟨M, hM⟩ : ∃ M, mOf r = M := ⟨_, rfl⟩
    rw [hM] at hsh2 hS hm64
    clear hmd hzd hbl hml ma mb mc hR hM hz
    go_enter Tryz.func220, Tryz.ntmps220
    go_wp2_with fail
    go_quiet (fail)
    go_wp2_with (first
      | (go_at_call 260; with_reducible refine (hL64.out _ _ (by omega)).mono ?_; rintro e w' ⟨rfl, hw⟩; replace hw := hw.symm; subst hw))
    with_reducible refine (hS.out _ _ _ ((hT.keep (below_drawn (Below.refl _ _))).p10.keep ((Below.refl _ _).alloc (Nat.le_refl _) _)) (by rw [show 64 - (64 - z) = z by omega]; exact hsh2) (by omega)).mono ?_
    rintro x w4 ⟨rfl, hb4⟩
    rw [hd, hp]
    have hbW4 : Below w.heap.size w w4 := ((below_drawn (Below.refl _ _)).alloc (Nat.le_refl _) _).trans (hb4.mono (by simp))
    have hB4 : HasB w4 w.heap.size (Array.replicate 32 (.int .u8 0)) 209 := HasB.below (HasB.new (w.drewN nq) _ _) hb4
    have hs4 : w.heap.size < w4.heap.size := by have := hb4.size; simp at this; omega
    obtain ⟨d, hdd⟩ : ∃ d, c * 10 ^ t = d := ⟨_, rfl⟩
    have hdt : d = c * 10 ^ t := hdd.symm
    rw [hdd] at hd64 ⊢
    have hd1 : 1 ≤ d := by rw [hdt]; exact Nat.mul_pos hc1 (Nat.pow_pos (by decide))
    have hLd : (digs 10 d).length = (digs 10 c).length + t := by rw [hdt, digs_ten c hc1, List.length_append, List.length_replicate]
    have hL20 := Lib.nDigits_le20 d hd64
    rw [dec_len] at hL20
    have hND : Far (∀ W, Below w.heap.size w W → Calls Tryz.prog 252 #[.int .u64 (d : Nat)] W fun e w' => e = .returned (.int .i64 ((digs 10 d).length : Nat)) ∧ w' = W) := ⟨fun W hb => by
      refine (internal_strconv_numDigits d hd1 hd64 W (hT.keep hb).u10).mono ?_
      rintro e w' ⟨rfl, hw⟩
      exact ⟨by rw [dec_len], hw⟩⟩
    have hSD : Far (∀ W, HasB W w.heap.size (Array.replicate 32 (.int .u8 0)) 209 → Calls Tryz.prog 262 #[.slice (some ⟨w.heap.size, 0, none⟩) 32 32, .int .u64 (d : Nat), .int .i64 (j - t), .int .i64 ((digs 10 d).length : Nat)] W fun x w' => x = .returned (.tuple #[.int .i64 (((digs 10 d).length : Int) + (j - t)), .int .i64 ((digs 10 c).length : Nat)]) ∧ Bt w' w.heap.size (digs 10 d) ∧ Below w.heap.size W w') := ⟨fun W hB => sc_setDigits hdt hc10 hd64 hB (by omega)⟩
    have hdd2 := hdd
    have hjt : -400 ≤ j - t ∧ j - t ≤ 400 := by omega
    clear hb4 hd64 hdt hdd hd hp hS hsh2 hL64 hand hand2 hor hneg
    obtain ⟨Ld, hLdv⟩ : ∃ L, (digs 10 d).length = L := ⟨_, rfl⟩
    rw [hLdv] at hND hSD hLd hL20
    obtain ⟨Lc, hLcv⟩ : ∃ L, (digs 10 c).length = L := ⟨_, rfl⟩
    rw [hLcv] at hSD hLd
    have hLt : t ≤ Ld := by omega
    have hLc20 : Lc ≤ 20 := by omega
    have hLc1 : 1 ≤ Lc := by
      obtain ⟨y, l, e, -⟩ := digs_head hc1
      rw [← hLcv, e]
      simp
    have htk : (digs 10 d).take Lc = digs 10 c := by
      have e := digs_ten c hc1 t
      rw [hdd2] at e
      rw [e, ← hLcv, List.take_append_of_le_length (Nat.le_refl _), List.take_of_length_le (Nat.le_refl _)]
    replace hLd := Far.mk hLd
    go_wp2_with fail
    go_region_with (first
      | (go_at_call 252; with_reducible refine (hND.out _ (by first | exact hbW4 | exact below_drew hbW4)).mono ?_; rintro e w' ⟨rfl, hw⟩; replace hw := hw.symm; subst hw)
      | (go_at_call 262; with_reducible refine (hSD.out _ (by first | exact hB4 | exact HasB.drew hB4)).mono ?_; rintro x w5 ⟨rfl, hbt, hb5⟩))
    all_goals
      have hbW5 : Below w.heap.size w w5 := by first | exact hbW4.trans (hb5.mono (Nat.le_refl _)) | exact (below_drew hbW4).trans (hb5.mono (Nat.le_refl _))
      have hs5 := hbW5.size
      have hown5 := hown.keep hbW5
      have hs6 : w.heap.size < w5.heap.size := by have := hb5.size; first | omega | (simp at this; omega)
      have hF := sc_fmtE (b := w.heap.size) (g := g) (base := base) (L := digs 10 d) (nd := Lc) (dp := (Ld : Int) + (j - t)) (PR := (Lc : Int) - 1) hown5 (by omega) (Nat.ne_of_lt (World.ownsRow.lt hown g rfl).2) hs6 hbt hLc1 (by rw [hLdv]; have := hLd.out; omega) (by omega) (by have := hLd.out; omega) rfl
      rw [htk, show (Ld : Int) + (j - t) - 1 = j + (Lc : Int) - 1 by have := hLd.out; omega] at hF
      replace hF := Far.mk hF
      have hmx : max ((Lc : Int) - 1) 0 = (Lc : Int) - 1 := by omega
      clear hND hSD hb5 hB4 hbW4 hT hown5 hown hbt htk
      go_wp2_with fail
      with_reducible refine hF.out.mono ?_
      rintro x w7 ⟨v7, rfl, hown7, hb7⟩
      go_wp2_with fail
      go_ret
      exact ⟨v7, c, j, rfl, hsh, by rw [hLcv]; have := hLd.out; omega, by omega, by omega, by rw [hLcv]; exact hown7, (hbW5.mono hbase).trans hb7⟩
  · have hmt : mantOf r = 4503599627370496 + f := by unfold mantOf; rw [if_neg (by omega)]; omega
    have hk : ((kOf r : Nat) : Int) = (b : Int) - 1 := by unfold kOf; omega
    rw [hmt] at hmd hL64
    obtain ⟨z, hz⟩ : ∃ z, zOf r = z := ⟨_, rfl⟩
    rw [hz] at hmd hL64 z1 z2 hed
    have hsh2 : IntKind.u64.wrap ((4503599627370496 + (f : Int)) * 2 ^ z) = (mOf r : Nat) := by
      have e : (4503599627370496 + (f : Int)) * 2 ^ z = ((mOf r : Nat) : Int) := by
        rw [hmd, Int.natCast_mul, Int.natCast_add, Int.natCast_pow]
        rfl
      rw [e, wrapU64_eq (by omega) (by omega)]
    obtain ⟨M, hM⟩ : ∃ M, mOf r = M := ⟨_, rfl⟩
    rw [hM] at hsh2 hS hm64
    clear hmd hzd hbl hml ma mb mc hR hM hz
    go_enter Tryz.func220, Tryz.ntmps220
    go_wp2_with fail
    go_quiet (fail)
    go_wp2_with (first
      | (go_at_call 260; with_reducible refine (hL64.out _ _ (by omega)).mono ?_; rintro e w' ⟨rfl, hw⟩; replace hw := hw.symm; subst hw))
    with_reducible refine (hS.out _ _ _ ((hT.keep (below_drawn (Below.refl _ _))).p10.keep ((Below.refl _ _).alloc (Nat.le_refl _) _)) (by rw [show 64 - (64 - z) = z by omega]; exact hsh2) (by omega)).mono ?_
    rintro x w4 ⟨rfl, hb4⟩
    rw [hd, hp]
    have hbW4 : Below w.heap.size w w4 := ((below_drawn (Below.refl _ _)).alloc (Nat.le_refl _) _).trans (hb4.mono (by simp))
    have hB4 : HasB w4 w.heap.size (Array.replicate 32 (.int .u8 0)) 209 := HasB.below (HasB.new (w.drewN nq) _ _) hb4
    have hs4 : w.heap.size < w4.heap.size := by have := hb4.size; simp at this; omega
    obtain ⟨d, hdd⟩ : ∃ d, c * 10 ^ t = d := ⟨_, rfl⟩
    have hdt : d = c * 10 ^ t := hdd.symm
    rw [hdd] at hd64 ⊢
    have hd1 : 1 ≤ d := by rw [hdt]; exact Nat.mul_pos hc1 (Nat.pow_pos (by decide))
    have hLd : (digs 10 d).length = (digs 10 c).length + t := by rw [hdt, digs_ten c hc1, List.length_append, List.length_replicate]
    have hL20 := Lib.nDigits_le20 d hd64
    rw [dec_len] at hL20
    have hND : Far (∀ W, Below w.heap.size w W → Calls Tryz.prog 252 #[.int .u64 (d : Nat)] W fun e w' => e = .returned (.int .i64 ((digs 10 d).length : Nat)) ∧ w' = W) := ⟨fun W hb => by
      refine (internal_strconv_numDigits d hd1 hd64 W (hT.keep hb).u10).mono ?_
      rintro e w' ⟨rfl, hw⟩
      exact ⟨by rw [dec_len], hw⟩⟩
    have hSD : Far (∀ W, HasB W w.heap.size (Array.replicate 32 (.int .u8 0)) 209 → Calls Tryz.prog 262 #[.slice (some ⟨w.heap.size, 0, none⟩) 32 32, .int .u64 (d : Nat), .int .i64 (j - t), .int .i64 ((digs 10 d).length : Nat)] W fun x w' => x = .returned (.tuple #[.int .i64 (((digs 10 d).length : Int) + (j - t)), .int .i64 ((digs 10 c).length : Nat)]) ∧ Bt w' w.heap.size (digs 10 d) ∧ Below w.heap.size W w') := ⟨fun W hB => sc_setDigits hdt hc10 hd64 hB (by omega)⟩
    have hdd2 := hdd
    have hjt : -400 ≤ j - t ∧ j - t ≤ 400 := by omega
    clear hb4 hd64 hdt hdd hd hp hS hsh2 hL64 hand hand2 hor hneg
    obtain ⟨Ld, hLdv⟩ : ∃ L, (digs 10 d).length = L := ⟨_, rfl⟩
    rw [hLdv] at hND hSD hLd hL20
    obtain ⟨Lc, hLcv⟩ : ∃ L, (digs 10 c).length = L := ⟨_, rfl⟩
    rw [hLcv] at hSD hLd
    have hLt : t ≤ Ld := by omega
    have hLc20 : Lc ≤ 20 := by omega
    have hLc1 : 1 ≤ Lc := by
      obtain ⟨y, l, e, -⟩ := digs_head hc1
      rw [← hLcv, e]
      simp
    have htk : (digs 10 d).take Lc = digs 10 c := by
      have e := digs_ten c hc1 t
      rw [hdd2] at e
      rw [e, ← hLcv, List.take_append_of_le_length (Nat.le_refl _), List.take_of_length_le (Nat.le_refl _)]
    replace hLd := Far.mk hLd
    go_wp2_with fail
    go_region_with (first
      | (go_at_call 252; with_reducible refine (hND.out _ (by first | exact hbW4 | exact below_drew hbW4)).mono ?_; rintro e w' ⟨rfl, hw⟩; replace hw := hw.symm; subst hw)
      | (go_at_call 262; with_reducible refine (hSD.out _ (by first | exact hB4 | exact HasB.drew hB4)).mono ?_; rintro x w5 ⟨rfl, hbt, hb5⟩))
    all_goals
      have hbW5 : Below w.heap.size w w5 := by first | exact hbW4.trans (hb5.mono (Nat.le_refl _)) | exact (below_drew hbW4).trans (hb5.mono (Nat.le_refl _))
      have hs5 := hbW5.size
      have hown5 := hown.keep hbW5
      have hs6 : w.heap.size < w5.heap.size := by have := hb5.size; first | omega | (simp at this; omega)
      have hF := sc_fmtE (b := w.heap.size) (g := g) (base := base) (L := digs 10 d) (nd := Lc) (dp := (Ld : Int) + (j - t)) (PR := (Lc : Int) - 1) hown5 (by omega) (Nat.ne_of_lt (World.ownsRow.lt hown g rfl).2) hs6 hbt hLc1 (by rw [hLdv]; have := hLd.out; omega) (by omega) (by have := hLd.out; omega) rfl
      rw [htk, show (Ld : Int) + (j - t) - 1 = j + (Lc : Int) - 1 by have := hLd.out; omega] at hF
      replace hF := Far.mk hF
      have hmx : max ((Lc : Int) - 1) 0 = (Lc : Int) - 1 := by omega
      clear hND hSD hb5 hB4 hbW4 hT hown5 hown hbt htk
      go_wp2_with fail
      with_reducible refine hF.out.mono ?_
      rintro x w7 ⟨v7, rfl, hown7, hb7⟩
      go_wp2_with fail
      go_ret
      exact ⟨v7, c, j, rfl, hsh, by rw [hLcv]; have := hLd.out; omega, by omega, by omega, by rw [hLcv]; exact hown7, (hbW5.mono hbase).trans hb7⟩
end Us
end Go.Proofs.YtdpbpdhamekcdaaGreatDoor
namespace Go.Proofs.YtdpbpdhamekcdaaGreatDoor
open Go.RowKit
namespace Us
open Nv

theorem ix_here (c : UInt8) (B : List UInt8) : ∀ A : List UInt8, (∀ x ∈ A, x ≠ c) → Lib.indexByte (A ++ c :: B) c = A.length
  | [], _ => by simp [Lib.indexByte]
  | a :: A, h => by
    have h1 : (a == c) = false := beq_eq_false_iff_ne.2 (h a (List.mem_cons_self ..))
    have ih := ix_here c B A (fun x hx => h x (List.mem_cons_of_mem _ hx))
    rw [List.cons_append, Lib.indexByte, h1, ih]
    have h2 : ((A.length : Int) == -1) = false := beq_eq_false_iff_ne.2 (by omega)
    rw [h2, if_neg (by decide), if_neg (by decide), List.length_cons]
    omega
theorem ix_none (c : UInt8) : ∀ A : List UInt8, (∀ x ∈ A, x ≠ c) → Lib.indexByte A c = -1
  | [], _ => rfl
  | a :: A, h => by
    have h1 : (a == c) = false := beq_eq_false_iff_ne.2 (h a (List.mem_cons_self ..))
    rw [Lib.indexByte, h1, ix_none c A (fun x hx => h x (List.mem_cons_of_mem _ hx))]
    rfl
/-- The digits with their point. -/
def headS (l : List UInt8) : List UInt8 := l.take 1 ++ (if 1 < l.length then [46] ++ l.drop 1 else [])
def tailS (e : Int) : List UInt8 := (if e < 0 then 45 else 43) :: dd e.natAbs
theorem eS_parts (l : List UInt8) (e : Int) : eS l e = headS l ++ 101 :: tailS e := by
  unfold eS headS tailS
  simp
theorem head_mem {l : List UInt8} {x : UInt8} (h : x ∈ headS l) : x ∈ l ∨ x = 46 := by
  unfold headS at h
  rcases List.mem_append.1 h with h | h
  · exact .inl (List.mem_of_mem_take h)
  · split at h
    · rcases List.mem_append.1 h with h | h
      · exact .inr (List.mem_singleton.1 h)
      · exact .inl (List.mem_of_mem_drop h)
    · cases h
theorem cut_eS {l : List UInt8} (e : Int) (hl : ∀ x ∈ l, 48 ≤ x.toNat ∧ x.toNat ≤ 57) : Lib.cut (eS l e) [101] = (headS l, tailS e, true) := by
  have hi : Lib.index (eS l e) [101] = (headS l).length := by
    rw [Lib.index_one, eS_parts]
    refine ix_here 101 _ _ fun x hx => ?_
    rintro rfl
    rcases head_mem hx with h | h
    · have := (hl _ h).2
      have e : (101 : UInt8).toNat = 101 := rfl
      omega
    · cases h
  unfold Lib.cut
  rw [hi, if_pos (by omega), Int.toNat_natCast, eS_parts, List.take_left, List.length_singleton, List.drop_append, List.drop_eq_nil_of_le (by omega), Nat.add_sub_cancel_left]
  rfl
theorem digit_val {k : Nat} (h : k < 10) : Lib.digitVal (UInt8.ofNat (48 + k)) = some k := by
  have := byte_of h
  have e : (UInt8.ofNat (48 + k)).toNat = 48 + k := by omega
  unfold Lib.digitVal
  rw [e, if_pos (by omega)]
  congr 1
  omega
theorem dec_dd {k : Nat} (h : k < 1000) : Lib.decNat (dd k) = some k := by
  have d0 : Lib.digitVal 48 = some 0 := rfl
  unfold dd
  split
  · rename_i g
    show Lib.decFrom 0 [48, UInt8.ofNat (48 + k)] = _
    simp only [Lib.decFrom, d0, digit_val g]
    congr 1
    omega
  · split
    · rename_i g
      show Lib.decFrom 0 [UInt8.ofNat (48 + k / 10), UInt8.ofNat (48 + k % 10)] = _
      simp only [Lib.decFrom, digit_val (show k / 10 < 10 by omega), digit_val (show k % 10 < 10 by omega)]
      congr 1
      omega
    · show Lib.decFrom 0 [UInt8.ofNat (48 + k / 100), UInt8.ofNat (48 + k / 10 % 10), UInt8.ofNat (48 + k % 10)] = _
      simp only [Lib.decFrom, digit_val (show k / 100 < 10 by omega), digit_val (show k / 10 % 10 < 10 by omega), digit_val (show k % 10 < 10 by omega)]
      congr 1
      omega
theorem atoi_tail {e : Int} (h : -1000 < e ∧ e < 1000) : Lib.atoi (tailS e) = some e := by
  have hd := dec_dd (k := e.natAbs) (by omega)
  unfold tailS
  by_cases g : e < 0
  · rw [if_pos g]
    unfold Lib.atoi
    simp only [show ((45 : UInt8) == 45) = true by decide, if_true, hd]
    show some (-(e.natAbs : Int)) = some e
    congr 1
    omega
  · rw [if_neg g]
    unfold Lib.atoi
    simp only [show ((43 : UInt8) == 45) = false by decide, show ((43 : UInt8) == 43) = true by decide, Bool.false_eq_true, if_false, if_true, hd]
    show some (e.natAbs : Int) = some e
    congr 1
    omega
theorem replace_head {l : List UInt8} (hl : ∀ x ∈ l, 48 ≤ x.toNat ∧ x.toNat ≤ 57) (h1 : 1 ≤ l.length) : Lib.replace (headS l) [46] [] 1 = l := by
  have hno : ∀ x ∈ l, x ≠ 46 := fun x hx => by
    rintro rfl
    have := (hl _ hx).1
    have e : (46 : UInt8).toNat = 46 := rfl
    omega
  unfold Lib.replace
  rw [if_neg (by decide)]
  cases l with
  | nil => simp at h1
  | cons a t =>
    cases t with
    | nil =>
      have hi : Lib.index (headS [a]) [46] = -1 := by rw [Lib.index_one]; exact ix_none 46 _ (fun x hx => hno x (by simpa [headS] using hx))
      have hc : Lib.count (headS [a]) [46] = 0 := by
        unfold Lib.count Lib.countFrom
        rw [hi]
        rfl
      have hn : Lib.replaceNum (headS [a]) [46] 1 = 0 := by
        unfold Lib.replaceNum
        rw [hc]
        rfl
      rw [hn]
      rfl
    | cons b t =>
      have hi : Lib.index (headS (a :: b :: t)) [46] = 1 := by
        rw [Lib.index_one]
        have := ix_here 46 (b :: t) [a] (fun x hx => hno x (by rw [List.mem_singleton.1 hx]; exact List.mem_cons_self ..))
        simpa [headS] using this
      have hc : ¬ ((Lib.count (headS (a :: b :: t)) [46] : Nat) : Int) < 1 := by
        unfold Lib.count Lib.countFrom
        rw [hi, if_neg (by decide)]
        omega
      have hn : Lib.replaceNum (headS (a :: b :: t)) [46] 1 = 1 := by
        unfold Lib.replaceNum
        rw [if_neg (by rintro (h | h); exact absurd h (by decide); exact hc h)]
        rfl
      rw [hn]
      rw [Lib.replaceK_hit [46] [] 0 _ 1 hi]
      simp [headS, Lib.replaceK]
end Us
end Go.Proofs.YtdpbpdhamekcdaaGreatDoor
namespace Go.Proofs.YtdpbpdhamekcdaaGreatDoor
open Go.RowKit
namespace Us
open Nv

/-- What FormatFloat tells. -/
def FmtQ (r : Nat) (w : World) (x : Ending) (w' : World) : Prop := ∃ c j, x = .returned (.string (S (eS (digs 10 c) (j + ((digs 10 c).length : Int) - 1)))) ∧ Short r c j ∧ (digs 10 c).length ≤ 20 ∧ -500 ≤ j ∧ j ≤ 500 ∧ Below w.heap.size w w'
set_option maxRecDepth 100000 in
theorem isc_FormatFloat {r : Nat} (h1 : 1 ≤ r) (h2 : r < infR) {w : World} (hT : Tabs w) : Calls Tryz.prog 174 #[.float .f64 r, .int .u8 101, .int .i64 (-1), .int .i64 64] w (FmtQ r w) := by
  obtain ⟨i0, hi, hz0, hz1, hz2⟩ := info_parts info_byte
  have hF := fun (W : World) (hb : Below w.heap.size w W) (g base : Nat) (ho : B8 W base (.slice (some ⟨g, 0, none⟩) 0 24) []) (hbs : base ≤ W.heap.size) => Far.mk (sc_ftoa64 h1 h2 (hT.keep hb) ho hbs)
  go_enter Tryz.func174, Tryz.ntmps174
  go_wp2_with (at_make; go_must (refine wpList_make_own _ rfl _ _ 51 rfl w.heap.size 5 i0 (.int .u8 0) 1 Tryz.underlying51 hi hz0 hz1 _ _ _ 24 rfl rfl rfl (by rw [hz2]; omega) (by unfold maxLen; omega) (by omega) ?_))
  intro w1 hown hg
  have hb1 : Below w.heap.size w w1 := (Below.refl _ _).grown hg (Nat.le_refl _) (by simp)
  have hF1 := hF w1 hb1 w.heap.size w.heap.size hown hb1.size
  clear hF hown hg
  go_wp2_with fail
  with_reducible refine hF1.out.mono ?_
  rintro x w2 ⟨v, c, j, rfl, hs, hl, hj1, hj2, hown2, hb2⟩
  have hcv := run_string_own (P := Tryz.prog) w2 51 9 5 _ hown2 Tryz.underlying51 Tryz.underlying5 Tryz.underlying9
  clear hF1 hown2
  go_wp2
  go_ret
  exact ⟨c, j, rfl, hs, hl, hj1, hj2, hb1.trans hb2⟩
theorem sc_FormatFloat {r : Nat} (h1 : 1 ≤ r) (h2 : r < infR) {w : World} (hT : Tabs w) : Calls Tryz.prog 112 #[.float .f64 r, .int .u8 101, .int .i64 (-1), .int .i64 64] w (FmtQ r w) := by
  have hF := Far.mk (isc_FormatFloat h1 h2 hT)
  go_enter Tryz.func112, Tryz.ntmps112
  go_wp2_with fail
  with_reducible refine hF.out.mono ?_
  rintro x w2 ⟨c, j, rfl, hr⟩
  go_wp2_with fail
  go_ret
  exact ⟨c, j, rfl, hr⟩
/-- What shortest tells. -/
def ShQ (r : Nat) (w : World) (x : Ending) (w' : World) : Prop := ∃ c j, x = .returned (.tuple #[.string (S (digs 10 c)), .int .i64 (j + ((digs 10 c).length : Int))]) ∧ Short r c j ∧ (digs 10 c).length ≤ 20 ∧ -500 ≤ j ∧ j ≤ 500 ∧ Below w.heap.size w w'
theorem S_list (l : List UInt8) : (S l).data.toList = l := rfl
theorem eS_len (l : List UInt8) (e : Int) (hl : l.length ≤ 20) : (eS l e).length ≤ 30 ∧ (tailS e).length ≤ 5 ∧ (headS l).length ≤ 25 := by
  have hd := dd_len e.natAbs
  have h1 : (dd e.natAbs).length ≤ 3 := by
    by_cases g : e.natAbs < 100
    · have := hd.1 g
      omega
    · have := hd.2 g
      omega
  have h2 : (headS l).length ≤ 22 := by
    unfold headS
    split <;> simp <;> omega
  have h3 : (tailS e).length ≤ 4 := by
    unfold tailS
    simp
    omega
  rw [eS_parts, List.length_append, List.length_cons]
  omega
set_option maxRecDepth 100000 in
theorem nt_shortest {r : Nat} (h1 : 1 ≤ r) (h2 : r < infR) {w : World} (hT : Tabs w) : Calls Tryz.prog 54 #[.float .f64 r] w (ShQ r w) := by
  have hF := Far.mk (sc_FormatFloat h1 h2 hT)
  go_enter Tryz.func54, Tryz.ntmps54
  go_wp2_with fail
  with_reducible refine hF.out.mono ?_
  rintro x w2 ⟨c, j, rfl, hsh, hl, hj1, hj2, hb2⟩
  have hT2 := hT.keep hb2
  obtain ⟨m, hm⟩ := hT2.len
  have hdg := digs_digit c
  have hl1 : 1 ≤ (digs 10 c).length := by
    obtain ⟨c0, l0, e, -⟩ := digs_head (q := c) hsh.pos
    rw [e]
    simp
  have hQ : ∀ w', Below w.heap.size w w' → ShQ r w (.returned (.tuple #[.string (S (digs 10 c)), .int .i64 (j + ((digs 10 c).length : Int))])) w' := fun w' hb => ⟨c, j, rfl, hsh, hl, hj1, hj2, hb⟩
  generalize digs 10 c = l at *
  obtain ⟨e, he⟩ : ∃ e, j + (l.length : Int) - 1 = e := ⟨_, rfl⟩
  have he2 : j + (l.length : Int) = e + 1 := by omega
  rw [he2] at hQ
  rw [he]
  have heb : -1000 < e ∧ e < 1000 := by omega
  obtain ⟨n1, n2, n3⟩ := eS_len l e hl
  have hcut := cut_eS e hdg
  have b101 : (⟨#[101]⟩ : ByteArray).data.toList = [101] := rfl
  have hC := Far.mk (strings_Cut (S (eS l e)) ⟨#[101]⟩ m w2 (by rw [S_size]; omega) hm)
  have hSS : ∀ x : List UInt8, (⟨x.toArray⟩ : ByteArray) = S x := fun _ => rfl
  rw [S_list, b101, hcut] at hC
  simp only [hSS (headS l), hSS (tailS e)] at hC
  have hA := fun W => Far.mk (strconv_Atoi (S (tailS e)) e (by rw [S_size]; omega) (by rw [S_list]; exact atoi_tail heb) W)
  have hR := fun W (hb : Below w2.heap.size w2 W) => Far.mk (strings_Replace (S (headS l)) ⟨#[46]⟩ ⟨#[]⟩ 1 m W (by rw [S_size]; omega) (below_keep hb hm) (by decide) (by rw [show (⟨#[]⟩ : ByteArray).size = 0 from rfl, Nat.mul_zero, S_size]; omega))
  simp only [S_list, replace_head hdg hl1, hSS l] at hR
  replace hQ := Far.mk hQ
  clear hsh hF hcut hdg he he2 b101 hSS
  go_wp2_with fail
  with_reducible refine hC.out.mono ?_
  rintro x w3 ⟨rfl, n, rfl⟩
  clear hC
  go_wp2_with fail
  with_reducible refine (hA _).out.mono ?_
  rintro x w4 ⟨rfl, tt, rfl⟩
  have hb4 : Below w2.heap.size w2 (Lib.bytesWorld (w2.drewN n) 5 tt) := (below_drawn (Below.refl _ _)).trans ((Lib.bytesWorld_below _ _ _).mono (Nat.le_refl _))
  generalize Lib.bytesWorld (w2.drewN n) 5 tt = w4 at *
  go_wp2_with fail
  with_reducible refine (hR _ hb4).out.mono ?_
  rintro x w5 ⟨rfl, hb5⟩
  go_wp2_with fail
  go_ret2
  exact hQ.out _ (hb2.trans ((hb4.trans (hb5.mono hb4.size)).mono hb2.size))
end Us
end Go.Proofs.YtdpbpdhamekcdaaGreatDoor
namespace Go.Proofs.YtdpbpdhamekcdaaGreatDoor
open Go.RowKit
namespace Us
open Nv
attribute [local go_sem] S_append S_dot S_size S_zd

theorem S_c101 (a : List UInt8) : S a ++ (⟨#[101]⟩ : ByteArray) = S (a ++ [101]) := S_append a [101]
theorem S_c43 (a : List UInt8) : S a ++ (⟨#[43]⟩ : ByteArray) = S (a ++ [43]) := S_append a [43]
theorem S_c45 (a : List UInt8) : S a ++ (⟨#[45]⟩ : ByteArray) = S (a ++ [45]) := S_append a [45]
attribute [local go_sem] S_c101 S_c43 S_c45
theorem repeat_S (c : Nat) : (⟨(Lib.repeatL [48] c).toArray⟩ : ByteArray) = S (List.replicate c 48) := by
  have : Lib.repeatL [48] c = List.replicate c 48 := by
    induction c with
    | zero => rfl
    | succ c ih => rw [Lib.repeatL, ih]; rfl
  rw [this]
  rfl
theorem nt_noughts {k : Int} (hk : -100000 ≤ k ∧ k ≤ 100000) (w : World) : Calls Tryz.prog 89 #[.int .i64 k] w fun x w' => x = .returned (.string (S (List.replicate k.toNat 48))) ∧ Below w.heap.size w w' := by
  have hm : max k 0 = ((k.toNat : Nat) : Int) := by omega
  have hR := strings_Repeat ⟨#[48]⟩ k.toNat w (by omega) (by rw [show (⟨#[48]⟩ : ByteArray).size = 1 from rfl]; omega)
  rw [show (⟨#[48]⟩ : ByteArray).data.toList = [48] from rfl, repeat_S, ← hm] at hR
  replace hR := Far.mk hR
  clear hm
  go_enter Tryz.func89, Tryz.ntmps89
  go_wp2_with fail
  with_reducible refine hR.out.mono ?_
  rintro x w3 ⟨rfl, hb3⟩
  go_wp2_with fail
  go_ret
  exact ⟨rfl, hb3⟩
theorem itoa_S {k : Nat} : (⟨(Lib.itoa (k : Int)).toArray⟩ : ByteArray) = S (digs 10 k) := by
  unfold Lib.itoa
  rw [if_neg (by omega), Int.toNat_natCast, dec_eq]
  rfl
set_option maxRecDepth 100000 in
theorem nt_pointed {l : List UInt8} {e : Int} {w : World} (h1 : 1 ≤ l.length) (h2 : l.length ≤ 100000) (he : -100000 ≤ e ∧ e ≤ 100000) (hT : Tabs w) :
    Calls Tryz.prog 92 #[.string (S l), .int .i64 e] w fun x w' => x = .returned (.string (S (expS l e))) ∧ Below w.heap.size w w' := by
  have hsz := S_size l
  have x1 : (S l).extract 0 1 = S (l.take 1) := by rw [S_extract, List.drop_zero]
  have x2 : (S l).extract 1 l.length = S (l.drop 1) := by rw [S_extract, List.take_of_length_le (Nat.le_refl _)]
  obtain ⟨l1, hl1⟩ : ∃ x, l.take 1 = x := ⟨_, rfl⟩
  obtain ⟨l2, hl2⟩ : ∃ x, l.drop 1 = x := ⟨_, rfl⟩
  have hone : ¬ 1 < l.length → l1 = l := fun h => by rw [← hl1, List.take_of_length_le (by omega)]
  have n1 : l1.length = 1 := by rw [← hl1, List.length_take]; omega
  have n2 : l2.length = l.length - 1 := by rw [← hl2, List.length_drop]
  rw [hl1] at x1
  rw [hl2] at x2
  obtain ⟨k, hk⟩ : ∃ k : Nat, k = e.natAbs := ⟨_, rfl⟩
  have hI : Far (∀ W, Below w.heap.size w W → Calls Tryz.prog 111 #[.int .i64 (k : Nat)] W fun x w' => x = .returned (.string (S (digs 10 k))) ∧ Below W.heap.size W w') := ⟨fun W hb => by
    refine (strconv_Itoa (k : Int) (by omega) (by omega) W (hT.keep hb).u10).mono ?_
    rintro x w' ⟨rfl, n, os, rfl⟩
    exact ⟨by rw [itoa_S], Lib.below_grow _ W (Nat.le_refl _) n os⟩⟩
  have hx : expS l e = (if 1 < l.length then l1 ++ [46] ++ l2 else l1) ++ (if e < 0 then [101, 45] ++ digs 10 (-e).toNat else [101, 43] ++ digs 10 e.toNat) := by unfold expS; rw [hl1, hl2]
  clear hl1 hl2
  by_cases hl : 1 < l.length <;> by_cases hn : e < 0
  all_goals
    first | rw [if_pos hl] at hx | rw [if_neg hl, hone hl] at hx
    first
      | (rw [if_pos hn] at hx; obtain rfl : e = -(k : Int) := by omega
         rw [show (- -(k : Int)).toNat = k by omega] at hx)
      | (rw [if_neg hn] at hx; obtain rfl : e = (k : Int) := by omega
         rw [Int.toNat_natCast] at hx)
    rw [hx]
    clear hx hk hone
    have d1 := digs_len (k := k) (by omega)
    generalize digs 10 k = gk at *
    replace hI := Far.mk hI
    go_enter Tryz.func92, Tryz.ntmps92
    go_wp2_with fail
    try (go_quiet (fail); go_wp2_with fail)
    with_reducible refine (hI.out.out _ (by first | exact Below.refl _ _ | exact below_drawn (Below.refl _ _))).mono ?_
    rintro x w4 ⟨rfl, hb4⟩
    go_wp2_with fail
    go_ret
    first | exact ⟨by simp, hb4⟩ | exact ⟨by simp, (below_drawn (Below.refl _ _)).trans hb4⟩
set_option maxRecDepth 100000 in
set_option maxHeartbeats 1600000 in
theorem nt_text_pos {r : Nat} (h1 : 1 ≤ r) (h2 : r < infR) {w : World} (hTb : Tabs w) : Calls Tryz.prog 57 #[.float .f64 r] w (PosQ r w) := by
  have hD := Far.mk (nt_shortest h1 h2 hTb)
  have o1 : FloatKind.f64.format.order r 0 = some .gt := (order_rung h2 (by decide)).trans (by rw [Nat.compare_eq_gt.2 (by omega)])
  have o2 : (FloatKind.f64.format.order r 9218868437227405311 == some .gt) = false := by
    rw [show FloatKind.f64.format.order r 9218868437227405311 = _ from order_rung h2 (show 9218868437227405311 < infR by decide)]
    rcases Nat.lt_or_ge r 9218868437227405311 with g | g
    · rw [Nat.compare_eq_lt.2 g]; rfl
    · rw [show r = 9218868437227405311 by unfold infR at h2; omega, Nat.compare_eq_eq.2 rfl]; rfl
  have o3 : FloatKind.f64.format.order r r = some .eq := (order_rung h2 h2).trans (by rw [Nat.compare_eq_eq.2 rfl])
  have hnan : nanB r = false := by unfold nanB; rw [o3]; rfl
  go_enter Tryz.func57, Tryz.ntmps57
  go_wp2_with (first
    | (go_at_call 23; refine (math_IsInf1 o2 _).mono ?_; rintro e w' ⟨rfl, hw⟩; replace hw := hw.symm; subst hw)
    | (go_at_call 20; refine (math_IsNaN r _).mono ?_; rintro e w' ⟨rfl, rfl⟩; rw [hnan]))
  with_reducible refine hD.out.mono ?_
  rintro x w3 ⟨c, j, rfl, hsh, hl, hj1, hj2, hb3⟩
  have hc := hsh.pos
  obtain ⟨c0, l0, hl0, -⟩ := digs_head (q := c) hc
  have hl1 : 1 ≤ (digs 10 c).length := by rw [hl0]; simp
  have hT : ∀ t, txt c j = t → t.length ≤ 2000 → ∀ w', Below w3.heap.size w3 w' → PosQ r w (.returned (.string (S t))) w' := fun t h h2 w' hb => ⟨c, j, by rw [h], hsh, by rw [h]; exact h2, hb3.trans (hb.mono hb3.size)⟩
  have hx : txt c j = (let n := j + ((digs 10 c).length : Int); if ((digs 10 c).length : Int) ≤ n ∧ n ≤ 21 then digs 10 c ++ List.replicate (n - ((digs 10 c).length : Int)).toNat 48
    else if 0 < n ∧ n ≤ 21 then (digs 10 c).take n.toNat ++ [46] ++ (digs 10 c).drop n.toNat
    else if -6 < n ∧ n ≤ 0 then [48, 46] ++ List.replicate (-n).toNat 48 ++ digs 10 c
    else expS (digs 10 c) (n - 1)) := rfl
  generalize txt c j = T at *
  generalize digs 10 c = l at *
  obtain ⟨n, hn⟩ : ∃ n, j + (l.length : Int) = n := ⟨_, rfl⟩
  rw [hn] at hx ⊢
  simp only at hx
  have hnb : -600 ≤ n ∧ n ≤ 600 := by omega
  have hsz := S_size l
  clear hl0 hsh hD o1 o2 o3 hnan hn hj1 hj2 hc h1 h2
  replace hT := Far.mk hT
  by_cases a1 : (l.length : Int) ≤ n ∧ n ≤ 21
  · rw [if_pos a1] at hx
    obtain ⟨a1, a2⟩ := a1
    replace hx := Far.mk hx
    go_wp2_with (go_at_call 89; go_must (with_reducible refine (nt_noughts (by omega) _).mono ?_); rintro x w4 ⟨rfl, hb4⟩)
    go_ret
    exact hT.out _ (hx.out.trans (by simp)) (by simp; omega) _ hb4
  · rw [if_neg a1] at hx
    by_cases a2 : 0 < n ∧ n ≤ 21
    · rw [if_pos a2] at hx
      obtain ⟨a2, a3⟩ := a2
      have a4 : ¬ (l.length : Int) ≤ n := by omega
      have x1 : (S l).extract 0 n.toNat = S (l.take n.toNat) := by rw [S_extract, List.drop_zero]
      have x2 : (S l).extract n.toNat l.length = S (l.drop n.toNat) := by rw [S_extract, List.take_of_length_le (Nat.le_refl _)]
      replace hx := Far.mk hx
      clear a1
      go_wp2_with fail
      go_quiet (fail)
      go_wp2_with fail
      go_ret
      exact hT.out _ (hx.out.trans (by simp)) (by simp; omega) _ (below_drawn (Below.refl _ _))
    · rw [if_neg a2] at hx
      by_cases a3 : -6 < n ∧ n ≤ 0
      · rw [if_pos a3] at hx
        obtain ⟨a3, a4⟩ := a3
        have a5 : ¬ (l.length : Int) ≤ n := by omega
        replace hx := Far.mk hx
        clear a1 a2
        go_wp2_with (go_at_call 89; go_must (with_reducible refine (nt_noughts (by omega) _).mono ?_); rintro x w4 ⟨rfl, hb4⟩)
        go_ret
        exact hT.out _ hx.out (by simp; omega) _ hb4
      · rw [if_neg a3] at hx
        replace hx := Far.mk hx
        have hE := Far.mk (nt_pointed (w := w3) (l := l) (e := n - 1) hl1 (by omega) (by omega) (hTb.keep hb3))
        by_cases b1 : (l.length : Int) ≤ n <;> by_cases b2 : 0 < n
        all_goals
          first | (exfalso; omega) | skip
        all_goals
          have b3 : ¬ n ≤ 21 ∨ ¬ -6 < n := by omega
          rcases b3 with b3 | b3
        all_goals
          first | (exfalso; omega) | skip
        all_goals
          clear a1 a2 a3
          go_wp2_with (go_at_call 92; go_must (with_reducible refine hE.out.mono ?_); rintro x w4 ⟨rfl, hb4⟩)
          go_ret
          exact hT.out _ hx.out (by have := expS_len l (n - 1) (by omega) (by omega); omega) _ hb4
theorem nt_text_nn {r : Nat} (h2 : r ≤ infR) {w : World} (hTb : Tabs w) : Calls Tryz.prog 57 #[.float .f64 r] w (TextQ 2000 (TxtR r) w) := by
  obtain ⟨i1, i2, i3, i4, i5⟩ := inf_orders
  rcases Nat.eq_zero_or_pos r with rfl | h1
  · go_enter Tryz.func57, Tryz.ntmps57
    go_wp2_with (go_at_call 20; refine (math_IsNaN 0 _).mono ?_; rintro e w' ⟨rfl, rfl⟩; rw [i5])
    go_ret
    exact ⟨[48], rfl, .inl ⟨rfl, rfl⟩, by decide, Below.refl _ _⟩
  · rcases Nat.lt_or_ge r infR with g | g
    · refine (nt_text_pos h1 g hTb).mono ?_
      rintro x w' ⟨c, j, rfl, hs, hl, hb⟩
      exact ⟨_, rfl, .inr (.inr ⟨h1, g, c, j, hs, rfl⟩), by omega, hb⟩
    · have : r = infR := Nat.le_antisymm h2 g
      subst this
      have hq : ∃ q, infR = q := ⟨_, rfl⟩
      have hT : TxtR infR [73, 110, 102, 105, 110, 105, 116, 121] := .inr (.inl ⟨rfl, rfl⟩)
      obtain ⟨q, hq⟩ := hq
      rw [hq] at i1 i2 i3 hT ⊢
      go_enter Tryz.func57, Tryz.ntmps57
      go_wp2_with (first
        | (go_at_call 23; refine (math_IsInf1 i2 _).mono ?_; rintro e w' ⟨rfl, hw⟩; replace hw := hw.symm; subst hw)
        | (go_at_call 20; refine (math_IsNaN q _).mono ?_; rintro e w' ⟨rfl, rfl⟩; rw [i3]))
      go_ret
      exact ⟨_, rfl, hT, by decide, Below.refl _ _⟩
theorem nt_text {f : Nat} (hf : f < 18446744073709551616) {w : World} (hTb : Tabs w) : Calls Tryz.prog 57 #[.float .f64 f] w (TextQ 2001 (TxtW f) w) := by
  obtain ⟨b, hb⟩ : ∃ b, nanB f = b := ⟨_, rfl⟩
  cases b with
  | true =>
    go_enter Tryz.func57, Tryz.ntmps57
    go_wp2_with (go_at_call 20; refine (math_IsNaN f _).mono ?_; rintro e w' ⟨rfl, rfl⟩; rw [hb])
    go_ret
    exact ⟨_, rfl, .inl ⟨hb, rfl⟩, by decide, Below.refl _ _⟩
  | false =>
    have hm : f % 9223372036854775808 ≤ infR := by
      rcases Nat.lt_or_ge infR (f % 9223372036854775808) with g | g
      · rw [nan_big g] at hb
        cases hb
      · exact g
    rcases Nat.lt_or_ge f 9223372036854775808 with g | g
    · rw [Nat.mod_eq_of_lt g] at hm
      refine (nt_text_nn hm hTb).mono ?_
      rintro x w' ⟨s, rfl, hs, hl, hbw⟩
      exact ⟨s, rfl, .inr (.inl ⟨hb, g, hs⟩), by omega, hbw⟩
    · obtain ⟨r, rfl⟩ : ∃ r, f = 9223372036854775808 + r := ⟨f - 9223372036854775808, by omega⟩
      rw [show (9223372036854775808 + r) % 9223372036854775808 = r by omega] at hm
      obtain ⟨ho, -⟩ := order_neg hm
      have hneg := neg_bits (r := r) (by omega)
      rcases Nat.eq_zero_or_pos r with rfl | h1
      · rw [if_pos rfl] at ho
        have hT : TxtW (9223372036854775808 + 0) [48] := .inr (.inr ⟨hb, by omega, [48], .inl ⟨by omega, rfl⟩, by rw [if_pos rfl]⟩)
        clear hneg hm g hf
        obtain ⟨F, hF⟩ : ∃ F, 9223372036854775808 + 0 = F := ⟨_, rfl⟩
        rw [hF] at ho hb hT ⊢
        clear hF
        go_enter Tryz.func57, Tryz.ntmps57
        go_wp2_with (go_at_call 20; refine (math_IsNaN F _).mono ?_; rintro e w' ⟨rfl, rfl⟩; rw [hb])
        go_ret
        exact ⟨_, rfl, hT, by decide, Below.refl _ _⟩
      · rw [if_neg (by omega)] at ho
        have hR := Far.mk (nt_text_nn hm hTb)
        have hT : ∀ t, TxtR r t → TxtW (9223372036854775808 + r) (45 :: t) := fun t h => .inr (.inr ⟨hb, by omega, t, by rw [show 9223372036854775808 + r - 9223372036854775808 = r by omega]; exact h, by rw [if_neg (by omega)]⟩)
        replace hT := Far.mk hT
        obtain ⟨F, hF⟩ : ∃ F, 9223372036854775808 + r = F := ⟨_, rfl⟩
        have hn2 : ∀ W, (Op.unary .neg (.float .f64 F)).run Tryz.prog W = .ok (.float .f64 r) W := fun W => by
          rw [← hF]
          show Result.ok (Value.float .f64 ((9223372036854775808 + r) ^^^ 9223372036854775808)) W = _
          rw [hneg]
        rw [hF] at ho hb hT ⊢
        clear hF hneg hm hf g
        go_enter Tryz.func57, Tryz.ntmps57
        go_wp2_with (go_at_call 20; refine (math_IsNaN F _).mono ?_; rintro e w' ⟨rfl, rfl⟩; rw [hb])
        with_reducible refine hR.out.mono ?_
        rintro x w3 ⟨s, rfl, hs, hl, hb3⟩
        have hcat : (⟨#[45]⟩ : ByteArray) ++ S s = S (45 :: s) := S_append [45] s
        go_wp2_with fail
        go_ret
        exact ⟨_, rfl, hT.out _ hs, by simp; omega, hb3⟩
theorem nt_Text_float {f : Nat} (hf : f < 18446744073709551616) {w : World} (hTb : Tabs w) : Calls Tryz.prog 18 #[.float .f64 f] w fun x w' => ∃ s, TxtW f s ∧ s.length ≤ 2001 ∧ x = .returned (.string (S (wide s))) ∧ Below w.heap.size w w' := by
  have hT := Far.mk (nt_text hf hTb)
  go_enter Tryz.func18, Tryz.ntmps18
  go_wp2_with fail
  with_reducible refine hT.out.mono ?_
  rintro x w3 ⟨s, rfl, hs, hl, hb3⟩
  have hW := Far.mk (ustr_Wide (S s) w3 (by rw [S_size]; omega))
  go_wp2_with fail
  with_reducible refine hW.out.mono ?_
  rintro x w4 ⟨rfl, hb4⟩
  go_wp2_with fail
  go_ret
  exact ⟨s, hs, hl, rfl, hb3.trans (hb4.mono hb3.size)⟩
end Us
end Go.Proofs.YtdpbpdhamekcdaaGreatDoor
namespace Go.Proofs.YtdpbpdhamekcdaaGreatDoor
open Go.RowKit
namespace Us
open Nv

attribute [local go_sem] run_Float64bits run_frombits
theorem andnot_sign2 {f : Nat} (h : f < 18446744073709551616) : bits .andNot .u64 (f : Int) 9223372036854775808 = ((f % 9223372036854775808 : Nat) : Int) := by
  have hm := Nat.and_two_pow_sub_one_eq_mod f 63
  rw [show (2 : Nat) ^ 63 = 9223372036854775808 by decide] at hm
  have e : (BitVec.ofInt 64 (f : Int) &&& ~~~ BitVec.ofInt 64 9223372036854775808).toNat = f % 9223372036854775808 := by
    rw [BitVec.toNat_and, BitVec.ofInt_natCast, BitVec.toNat_ofNat, show (~~~ BitVec.ofInt 64 9223372036854775808).toNat = 9223372036854775807 by decide, Nat.mod_eq_of_lt (by omega)]
    exact hm
  show IntKind.u64.wrap ((BitVec.ofInt 64 (f : Int) &&& ~~~ BitVec.ofInt 64 9223372036854775808).toNat : Int) = _
  rw [e, Nv.wu64]
  omega
theorem math_Abs2 {f : Nat} {w : World} (h : f < 18446744073709551616) : Calls Tryz.prog 61 #[.float .f64 f] w fun e w' => e = .returned (.float .f64 (f % 9223372036854775808)) ∧ w' = w := by
  have ha := andnot_sign2 h
  obtain ⟨r, hr⟩ : ∃ r, f % 9223372036854775808 = r := ⟨_, rfl⟩
  rw [hr] at ha ⊢
  clear hr
  go_enter Tryz.func61, Tryz.ntmps61
  go_wp2
  go_ret
  exact ⟨rfl, rfl⟩
theorem math_IsInf0 {f : Nat} {b : Bool} (h : f < 18446744073709551616) (hb : (FloatKind.f64.format.order (f % 9223372036854775808) 9218868437227405311 == some .gt) = b) (w : World) : Calls Tryz.prog 23 #[.float .f64 f, .int .i64 0] w fun e w' => e = .returned (.bool b) ∧ w' = w := by
  obtain ⟨r, hr⟩ : ∃ r, f % 9223372036854775808 = r := ⟨_, rfl⟩
  have hA := fun W => Far.mk (math_Abs2 (w := W) h)
  rw [hr] at hb hA
  clear hr
  go_enter Tryz.func23, Tryz.ntmps23
  go_wp2_with fail
  with_reducible refine (hA _).out.mono ?_
  rintro e w' ⟨rfl, hw⟩
  replace hw := hw.symm
  subst hw
  go_wp2_with fail
  go_ret
  exact ⟨rfl, rfl⟩
/-- How a float stands to nought and to the greatest number. -/
theorem order_all {f : Nat} (hf : f < 18446744073709551616) : nanB f = true ∨ (nanB f = false ∧ f < 9223372036854775808 ∧ f ≤ infR ∧ FloatKind.f64.format.order f 0 = some (if f = 0 then .eq else .gt)) ∨ (nanB f = false ∧ ∃ r, f = 9223372036854775808 + r ∧ r ≤ infR ∧ FloatKind.f64.format.order f 0 = some (if r = 0 then .eq else .lt)) := by
  obtain ⟨b, hb⟩ : ∃ b, nanB f = b := ⟨_, rfl⟩
  cases b with
  | true => exact .inl hb
  | false =>
    right
    have hm : f % 9223372036854775808 ≤ infR := by
      rcases Nat.lt_or_ge infR (f % 9223372036854775808) with g | g
      · rw [nan_big g] at hb
        cases hb
      · exact g
    rcases Nat.lt_or_ge f 9223372036854775808 with g | g
    · left
      rw [Nat.mod_eq_of_lt g] at hm
      refine ⟨hb, g, hm, ?_⟩
      rcases Nat.lt_or_ge f infR with g2 | g2
      · refine (order_rung g2 (by decide)).trans ?_
        congr 1
      · have : f = infR := Nat.le_antisymm hm g2
        subst this
        exact inf_orders.1
    · right
      refine ⟨hb, f - 9223372036854775808, by omega, by omega, ?_⟩
      obtain ⟨r, rfl⟩ : ∃ r, f = 9223372036854775808 + r := ⟨f - 9223372036854775808, by omega⟩
      rw [show (9223372036854775808 + r) % 9223372036854775808 = r by omega] at hm
      rw [show 9223372036854775808 + r - 9223372036854775808 = r by omega]
      exact (order_neg hm).1
theorem max_order {r : Nat} (h : r ≤ infR) : (FloatKind.f64.format.order r 9218868437227405311 == some .gt) = decide (r = infR) := by
  rcases Nat.lt_or_ge r infR with g | g
  · rw [show FloatKind.f64.format.order r 9218868437227405311 = _ from order_rung g (show 9218868437227405311 < infR by decide), decide_eq_false (by omega)]
    rcases Nat.lt_or_ge r 9218868437227405311 with k | k
    · rw [Nat.compare_eq_lt.2 k]; rfl
    · rw [show r = 9218868437227405311 by unfold infR at g; omega, Nat.compare_eq_eq.2 rfl]; rfl
  · have : r = infR := Nat.le_antisymm h g
    subst this
    rw [decide_eq_true rfl]
    exact inf_orders.2.1
/-- What Shortest tells. -/
def ShW (f : Nat) (s : List UInt8) (n e : Int) : Prop := (1 ≤ f ∧ f < infR ∧ ∃ c j, Short f c j ∧ s = wide (digs 10 c) ∧ n = j + ((digs 10 c).length : Int) ∧ e = 0) ∨ ((f = 0 ∨ infR ≤ f) ∧ s = [] ∧ n = 0 ∧ e = 1)
theorem ShW.one {f : Nat} {s s' : List UInt8} {n n' e e' : Int} (h : ShW f s n e) (h' : ShW f s' n' e') : s = s' ∧ n = n' ∧ e = e' := by
  rcases h with ⟨a, b, c, j, k, rfl, rfl, rfl⟩ | ⟨a, rfl, rfl, rfl⟩
  · rcases h' with ⟨-, -, c', j', k', rfl, rfl, rfl⟩ | ⟨a', -⟩
    · obtain ⟨rfl, rfl⟩ := k.one k'
      exact ⟨rfl, rfl, rfl⟩
    · omega
  · rcases h' with ⟨a', b', -⟩ | ⟨-, rfl, rfl, rfl⟩
    · omega
    · exact ⟨rfl, rfl, rfl⟩
def ShWQ (f : Nat) (w : World) (x : Ending) (w' : World) : Prop := ∃ s n e, x = .returned (.tuple #[.string (S s), .int .i64 n, .int .i64 e]) ∧ ShW f s n e ∧ Below w.heap.size w w'
theorem nan_none {f : Nat} (h : nanB f = true) : FloatKind.f64.format.order f 0 = none := by
  unfold nanB at h
  change (((Ieee.double.read f).order (Ieee.double.read f)) != some .eq) = true at h
  change ((Ieee.double.read f).order (Ieee.double.read 0)) = none
  cases hd : Ieee.double.read f with
  | nan => rfl
  | infinity s =>
    rw [hd] at h
    simp [Ieee.Datum.order] at h
  | number s m i =>
    rw [hd] at h
    simp [Ieee.Datum.order] at h
theorem ShW.none {f : Nat} (h : f = 0 ∨ infR ≤ f) : ShW f [] 0 1 := .inr ⟨h, rfl, rfl, rfl⟩
theorem S_nil : (⟨#[]⟩ : ByteArray) = S [] := rfl
theorem nt_Shortest_no {f : Nat} {w : World} {o : Option Ordering} (ho : FloatKind.f64.format.order f 0 = o) (hg : (o == some .gt) = false) (hq : f = 0 ∨ infR ≤ f) : Calls Tryz.prog 16 #[.float .f64 f] w (ShWQ f w) := by
  have hR : ShWQ f w (.returned (.tuple #[.string ⟨#[]⟩, .int .i64 0, .int .i64 1])) w := ⟨[], 0, 1, rfl, .none hq, Below.refl _ _⟩
  have hR := Far.mk hR
  clear hq
  go_enter Tryz.func16, Tryz.ntmps16
  go_wp2_with fail
  go_ret3
  exact hR.out
theorem nt_Shortest_inf {w : World} : Calls Tryz.prog 16 #[.float .f64 infR] w (ShWQ infR w) := by
  have hR : ShWQ infR w (.returned (.tuple #[.string ⟨#[]⟩, .int .i64 0, .int .i64 1])) w := ⟨[], 0, 1, rfl, .none (.inr (Nat.le_refl _)), Below.refl _ _⟩
  have hI := fun W => Far.mk (math_IsInf0 (f := infR) (b := true) (by decide) (by decide +kernel) W)
  obtain ⟨ho, -⟩ := inf_orders
  obtain ⟨F, hF⟩ : ∃ F, infR = F := ⟨_, rfl⟩
  rw [hF] at hR hI ho ⊢
  clear hF
  have hR := Far.mk hR
  go_enter Tryz.func16, Tryz.ntmps16
  go_wp2_with fail
  with_reducible refine (hI _).out.mono ?_
  rintro x w3 ⟨rfl, hw⟩
  replace hw := hw.symm
  subst hw
  go_wp2_with fail
  go_ret3
  exact hR.out
theorem nt_Shortest_pos {r : Nat} (h1 : 1 ≤ r) (h2 : r < infR) {w : World} (hT : Tabs w) : Calls Tryz.prog 16 #[.float .f64 r] w (ShWQ r w) := by
  have hr : r % 9223372036854775808 = r := Nat.mod_eq_of_lt (by unfold infR at h2; omega)
  have hI := fun W => Far.mk (math_IsInf0 (f := r) (b := false) (by unfold infR at h2; omega) (by rw [hr, max_order (by omega), decide_eq_false (by omega)]) W)
  have ho : FloatKind.f64.format.order r 0 = some .gt := by
    refine (order_rung h2 (by decide)).trans ?_
    rw [Nat.compare_eq_gt.2 (by omega)]
  have hS := Far.mk (nt_shortest h1 h2 hT)
  replace h1 := Far.mk h1
  replace h2 := Far.mk h2
  clear hr
  go_enter Tryz.func16, Tryz.ntmps16
  go_wp2_with fail
  with_reducible refine (hI _).out.mono ?_
  rintro x w3 ⟨rfl, hw⟩
  replace hw := hw.symm
  subst hw
  go_wp2_with fail
  with_reducible refine hS.out.mono ?_
  rintro x w3 ⟨c, j, rfl, hs, hl, hj1, hj2, hb3⟩
  have hW := Far.mk (ustr_Wide (S (digs 10 c)) w3 (by rw [S_size]; omega))
  obtain ⟨n, hn⟩ : ∃ n, j + ((digs 10 c).length : Int) = n := ⟨_, rfl⟩
  have hR : ∀ W, Below w.heap.size w W → ShWQ r w (.returned (.tuple #[.string (S (wide (digs 10 c))), .int .i64 n, .int .i64 0])) W := fun W hb => ⟨_, _, _, rfl, .inl ⟨h1.out, h2.out, c, j, hs, rfl, hn.symm, rfl⟩, hb⟩
  replace hR := Far.mk hR
  rw [hn]
  clear hn hs
  generalize digs 10 c = l at *
  go_wp2_with fail
  with_reducible refine hW.out.mono ?_
  rintro x w4 ⟨rfl, hb4⟩
  go_wp2_with fail
  go_ret3
  exact hR.out _ (hb3.trans (hb4.mono hb3.size))
theorem nt_Shortest {f : Nat} (hf : f < 18446744073709551616) {w : World} (hT : Tabs w) : Calls Tryz.prog 16 #[.float .f64 f] w (ShWQ f w) := by
  rcases order_all hf with h | ⟨h, g, hi, ho⟩ | ⟨h, r, rfl, hr, ho⟩
  · refine nt_Shortest_no (nan_none h) rfl ?_
    rcases Nat.lt_or_ge f infR with g | g
    · exfalso
      have := order_rung g g
      unfold nanB at h
      rw [show FloatKind.f64.format.order f f = _ from this, Nat.compare_eq_eq.2 rfl] at h
      cases h
    · exact .inr g
  · rcases Nat.eq_zero_or_pos f with rfl | h1
    · exact nt_Shortest_no ho rfl (.inl rfl)
    · rcases Nat.lt_or_ge f infR with g2 | g2
      · exact nt_Shortest_pos h1 g2 hT
      · have : f = infR := Nat.le_antisymm hi g2
        subst this
        exact nt_Shortest_inf
  · refine nt_Shortest_no ho ?_ (.inr (by unfold infR; omega))
    split <;> rfl
theorem ref_Shortest_nan {f : Nat} {w : World} (ho : nanB f = true) (hq : f = 0 ∨ infR ≤ f) : Calls Tryz.prog 17 #[.float .f64 f] w (ShWQ f w) := by
  have hR : ShWQ f w (.returned (.tuple #[.string ⟨#[]⟩, .int .i64 0, .int .i64 1])) w := ⟨[], 0, 1, rfl, .none hq, Below.refl _ _⟩
  have hR := Far.mk hR
  clear hq
  go_enter Tryz.func17, Tryz.ntmps17
  go_wp2_with (go_at_call 20; refine (math_IsNaN f _).mono ?_; rintro e w' ⟨rfl, rfl⟩; rw [ho])
  go_ret3
  exact hR.out
theorem ref_Shortest_no {f : Nat} {w : World} {b : Bool} (hn : nanB f = false) (hI : ∀ W, Calls Tryz.prog 23 #[.float .f64 f, .int .i64 0] W fun e w' => e = .returned (.bool b) ∧ w' = W) (hb : b = true ∨ ∃ o, FloatKind.f64.format.order f 0 = some o ∧ (o = .eq ∨ o = .lt)) (hq : f = 0 ∨ infR ≤ f) : Calls Tryz.prog 17 #[.float .f64 f] w (ShWQ f w) := by
  have hR : ShWQ f w (.returned (.tuple #[.string ⟨#[]⟩, .int .i64 0, .int .i64 1])) w := ⟨[], 0, 1, rfl, .none hq, Below.refl _ _⟩
  have hR := Far.mk hR
  have hI := Far.mk hI
  clear hq
  cases b with
  | true =>
    clear hb
    go_enter Tryz.func17, Tryz.ntmps17
    go_wp2_with (go_at_call 20; refine (math_IsNaN f _).mono ?_; rintro e w' ⟨rfl, rfl⟩; rw [hn])
    with_reducible refine (hI.out _).mono ?_
    rintro x w3 ⟨rfl, hw⟩
    replace hw := hw.symm
    subst hw
    go_wp2_with fail
    go_ret3
    exact hR.out
  | false =>
    obtain ⟨o, ho, hoo⟩ := hb.resolve_left (by decide)
    clear hb
    rcases hoo with rfl | rfl
    all_goals
      go_enter Tryz.func17, Tryz.ntmps17
      go_wp2_with (go_at_call 20; refine (math_IsNaN f _).mono ?_; rintro e w' ⟨rfl, rfl⟩; rw [hn])
      with_reducible refine (hI.out _).mono ?_
      rintro x w3 ⟨rfl, hw⟩
      replace hw := hw.symm
      subst hw
      go_wp2_with fail
      go_ret3
      exact hR.out
theorem ref_Shortest_pos {r : Nat} (h1 : 1 ≤ r) (h2 : r < infR) {w : World} : Calls Tryz.prog 17 #[.float .f64 r] w (ShWQ r w) := by
  have hr : r % 9223372036854775808 = r := Nat.mod_eq_of_lt (by unfold infR at h2; omega)
  have hI := fun W => Far.mk (math_IsInf0 (f := r) (b := false) (by unfold infR at h2; omega) (by rw [hr, max_order (by omega), decide_eq_false (by omega)]) W)
  have ho : FloatKind.f64.format.order r 0 = some .gt := by
    refine (order_rung h2 (by decide)).trans ?_
    rw [Nat.compare_eq_gt.2 (by omega)]
  have hn : nanB r = false := by
    unfold nanB
    rw [show FloatKind.f64.format.order r r = _ from order_rung h2 h2, Nat.compare_eq_eq.2 rfl]
    rfl
  have hS := Far.mk (ref_Digits h1 h2 w)
  replace h1 := Far.mk h1
  replace h2 := Far.mk h2
  clear hr
  go_enter Tryz.func17, Tryz.ntmps17
  go_wp2_with (go_at_call 20; refine (math_IsNaN r _).mono ?_; rintro e w' ⟨rfl, rfl⟩; rw [hn])
  with_reducible refine (hI _).out.mono ?_
  rintro x w3 ⟨rfl, hw⟩
  replace hw := hw.symm
  subst hw
  go_wp2_with fail
  with_reducible refine hS.out.mono ?_
  rintro x w3 ⟨c, j, rfl, hs, hj1, hj2, hl, hb3⟩
  have hW := Far.mk (ref01_Wide (S (digs 10 c)) w3 (by rw [S_size]; omega))
  obtain ⟨n, hnn⟩ : ∃ n, j + ((digs 10 c).length : Int) = n := ⟨_, rfl⟩
  have hR : ∀ W, Below w.heap.size w W → ShWQ r w (.returned (.tuple #[.string (S (wide (digs 10 c))), .int .i64 n, .int .i64 0])) W := fun W hb => ⟨_, _, _, rfl, .inl ⟨h1.out, h2.out, c, j, hs, rfl, hnn.symm, rfl⟩, hb⟩
  replace hR := Far.mk hR
  rw [hnn]
  clear hnn hs
  generalize digs 10 c = l at *
  go_wp2_with fail
  with_reducible refine hW.out.mono ?_
  rintro x w4 ⟨rfl, hb4⟩
  go_wp2_with fail
  go_ret3
  exact hR.out _ (hb3.trans (hb4.mono hb3.size))
theorem ref_Shortest {f : Nat} (hf : f < 18446744073709551616) {w : World} : Calls Tryz.prog 17 #[.float .f64 f] w (ShWQ f w) := by
  rcases order_all hf with h | ⟨h, g, hi, ho⟩ | ⟨h, r, rfl, hr, ho⟩
  · refine ref_Shortest_nan h ?_
    rcases Nat.lt_or_ge f infR with g | g
    · exfalso
      have := order_rung g g
      unfold nanB at h
      rw [show FloatKind.f64.format.order f f = _ from this, Nat.compare_eq_eq.2 rfl] at h
      cases h
    · exact .inr g
  · rcases Nat.eq_zero_or_pos f with rfl | h1
    · exact ref_Shortest_no h (fun W => math_IsInf0 (f := 0) (b := false) hf (by decide +kernel) W) (.inr ⟨_, ho, .inl rfl⟩) (.inl rfl)
    · rcases Nat.lt_or_ge f infR with g2 | g2
      · exact ref_Shortest_pos h1 g2
      · have : f = infR := Nat.le_antisymm hi g2
        subst this
        exact ref_Shortest_no h (fun W => math_IsInf0 (f := infR) (b := true) hf (by decide +kernel) W) (.inl rfl) (.inr (Nat.le_refl _))
  · refine ref_Shortest_no h (fun W => math_IsInf0 (f := 9223372036854775808 + r) hf rfl W) (.inr ⟨_, ho, ?_⟩) (.inr (by unfold infR; omega))
    split
    · exact .inl rfl
    · exact .inr rfl
end Us
end Go.Proofs.YtdpbpdhamekcdaaGreatDoor
