/-
  Contracts of bignum.cut, at, Of: words in their place. No condition but that the words are words. A contract of bignum.long: of what is not too long. Conditions: each one is no longer than may be. Contracts of bignum.Cmp, sub, Sub. Conditions: the words are words, no longer than may be; what is taken away is no greater. Contracts of bignum.shl, Shl. Conditions: the words are words, no longer than may be; the count is not below 0. A contract of bignum.Mul. Conditions: the words are words, and no longer than may be; so is the product. Contracts of bignum.small and Text, and of slices.Reverse at bytes. Conditions: the words are words, no more than may be; the divisor is no nought; the radix is from 2 to 36.
-/
import Derived.Test.YtdpbpdhamekcdaaGreatDoorBaM7
namespace Go.Proofs.YtdpbpdhamekcdaaGreatDoor
open Go.RowKit
namespace Nv

/-- What a function of the program's words tells: a number's words, in memory that stays. -/
def Gives (w : World) (N : Nat) (x : Ending) (w' : World) : Prop := ∃ A c, x = .returned (.slice A (words N).length c) ∧ Rd w' A c (words N) ∧ Below w.heap.size w w'
/-- The same, with no room behind. -/
def GivesC (w : World) (N : Nat) (x : Ending) (w' : World) : Prop := ∃ A, x = .returned (.slice A (words N).length (words N).length) ∧ Rd w' A (words N).length (words N) ∧ Below w.heap.size w w'
/-- The same, in a block of its own. -/
def GivesF (w : World) (N : Nat) (x : Ending) (w' : World) : Prop := ∃ g c, x = .returned (.slice (some ⟨g, 0, none⟩) (words N).length c) ∧ w.heap.size ≤ g ∧ Rd w' (some ⟨g, 0, none⟩) c (words N) ∧ Below w.heap.size w w'
theorem run_take3 (W : World) (A : Option Addr) (n c k : Nat) (hk : k ≤ c) : (Instr.slice 73 (.slice A n c) none (some (.int .i64 (k : Int))) (some (.int .i64 (k : Int)))).run Tryz.prog W = .ok (.slice A k k) W := by
  obtain ⟨i0, hi, hz0, hz1, hz2⟩ := info_parts info_w
  have hel : Tryz.prog.elem 73 = 22 := by simp [Program.elem, Tryz.underlying73]
  have ha : (A.map fun x => x.add 0) = A := by cases A <;> simp [Addr.add]
  rw [run_slice_hm W 73 A n c (by rw [hel]; exact Tryz.underlying73) .i64 .i64 (k : Int) (k : Int) (by omega) (by omega) (by omega), hel]
  simp [sizeOf, typeInfo, hi, hz1, sliced, Result.andThen, ha]
theorem Rd.cut {w : World} {A : Option Addr} {c : Nat} {l : List Int} (h : Rd w A c l) {N : Nat} (hN : words N = l.take (words N).length) : Rd w A (words N).length (words N) := by
  refine ⟨Nat.le_refl _, fun ha => ?_, ?_⟩
  · have h1 := h.1
    have h2 := h.2.1 ha
    have h3 := congrArg List.length hN
    rw [List.length_take] at h3
    omega
  · have := (h.take (words N).length).2.2
    rw [← hN] at this
    exact this
set_option maxRecDepth 100000 in
theorem bn_cut {l : List Int} {A : Option Addr} {n c : Nat} {w : World} (hnl : l.length = n) (hr : Rd w A c l) (hW : IsW l) (hn : l.length ≤ 1000000) :
    Calls Tryz.prog 133 #[.slice A n c] w fun x w' => x = .returned (.slice A (words (nv l)).length (words (nv l)).length) ∧ w' = w ∧ words (nv l) = l.take (words (nv l)).length := by
  subst hnl
  have HR := Lib.hid hr
  have HW := Lib.hid hW
  clear hr hW
  go_enter Tryz.func133, Tryz.ntmps133
  go_wp2
  go_loopw [3] (fun i wr => ∃ k : Nat, k ≤ l.length ∧ i = .int .i64 k ∧ Hid (nv (l.take k) = nv l) ∧ wr = w) (fun i _ => (intOf i).toNat)
  case atStart => exact ⟨l.length, Nat.le_refl _, rfl, Lib.hid (by rw [List.take_length]), rfl⟩
  case round =>
    obtain ⟨k, hk, rfl, hv, rfl⟩ := hrel
    have hR' := HR.out
    have hcut := fun W => run_take3 W A l.length c k (by have := hR'.1; omega)
    have hlt : (l.take k).length = k := by rw [List.length_take]; omega
    have fin : words (nv l) = l.take k → Far ((words (nv l)).length = k ∧ words (nv l) = l.take (words (nv l)).length) := fun hw => by
      refine ⟨by rw [hw, hlt], ?_⟩
      rw [hw, hlt]
    by_cases hk0 : 0 < (k : Int)
    · obtain ⟨ad, rfl, x, hx, hcell⟩ := hR'.get (j := k - 1) (by omega)
      replace hx := Far.mk hx
      by_cases hz : x = 0
      · have hzb : (x == 0) = true := by simp [hz]
        go_wp2
        go_roundw
        case rel =>
          refine ⟨k - 1, by omega, by go_num, Lib.hid ?_, by first | rfl | trivial⟩
          have hv' := hv.out
          have e := nv_take_succ (l := l) (j := k - 1) (by omega)
          rw [Nat.sub_add_cancel (by omega), hv'] at e
          rw [← hx.out, hz] at e
          simp only [Int.toNat_zero, Nat.zero_mul, Nat.add_zero] at e
          exact e.symm
        case measure => simp [intOf]; omega
      · have hzb : (x == 0) = false := by simp [hz]
        have hw := fin (words_take HW.out hk hv.out (.inr (by rw [← hx.out]; exact hz)))
        go_wp2
        go_ret
        exact ⟨by rw [hw.out.1]; rfl, rfl, hw.out.2⟩
    · have hw := fin (words_take HW.out hk hv.out (.inl (by omega)))
      go_wp2
      go_ret
      exact ⟨by rw [hw.out.1]; rfl, rfl, hw.out.2⟩
theorem bn_at {l : List Int} {A : Option Addr} {n c : Nat} {J : Int} {w : World} (j : Nat) (x : Int) (hx : l.getD j 0 = x) (hJ : J = (j : Int)) (hnl : l.length = n) (hr : Rd w A c l) (hW : IsW l) :
    Calls Tryz.prog 140 #[.slice A n c, .int .i64 J] w fun e w' => e = .returned (.int .u64 x) ∧ w' = w := by
  subst hJ
  subst hnl
  have hb := hW.get j
  rw [hx] at hb
  have HR := Far.mk hr
  have HX := Far.mk hx
  clear hr hx
  go_enter Tryz.func140, Tryz.ntmps140
  by_cases hj : j < l.length
  · obtain ⟨ad, rfl, y, hy, hcell⟩ := HR.out.get hj
    have : y = x := hy.trans HX.out
    subst this
    clear hy
    go_wp2
    go_ret
    exact ⟨rfl, rfl⟩
  · have : x = 0 := by
      rw [← HX.out, List.getD_eq_getElem?_getD, List.getElem?_eq_none (by omega)]
      rfl
    subst this
    go_wp2
    go_ret
    exact ⟨rfl, rfl⟩
theorem bcut {w : World} {l : List Int} {A : Option Addr} {n c : Nat} (hnl : l.length = n) (hr : Rd w A c l) (hW : IsW l) (hn : l.length ≤ 1000000) :
    Calls Tryz.prog 133 #[.slice A n c] w fun x w' => x = .returned (.slice A (words (nv l)).length (words (nv l)).length) ∧ w' = w ∧ Rd w A (words (nv l)).length (words (nv l)) :=
  (bn_cut hnl hr hW hn).mono fun _ _ ⟨h1, h2, h3⟩ => ⟨h1, h2, hr.cut h3⟩
set_option maxRecDepth 100000 in
theorem bn_told {l : List Int} {A : Option Addr} {n c : Nat} {w : World} (hnl : l.length = n) (hr : Rd w A c l) (hW : IsW l) (hn : l.length ≤ 1000000) (hmax : (words (nv l)).length ≤ 1024) :
    Calls Tryz.prog 135 #[.slice A n c] w fun x w' => x = .returned (.tuple #[.slice A (words (nv l)).length (words (nv l)).length, .int .i64 0]) ∧ w' = w ∧ Rd w A (words (nv l)).length (words (nv l)) := by
  have hC := Far.mk (bcut hnl hr hW hn)
  clear hr hW hnl hn
  generalize words (nv l) = m at *
  go_enter Tryz.func135, Tryz.ntmps135
  go_wp2_with fail
  with_reducible refine hC.out.mono ?_
  rintro x w3 ⟨rfl, hw, hR⟩
  replace hw := hw.symm
  subst hw
  replace hR := Far.mk hR
  go_wp2_with fail
  go_ret2
  exact ⟨rfl, rfl, hR.out⟩
set_option maxRecDepth 100000 in
theorem bn_Of {x : Int} (h0 : 0 ≤ x) (h1 : x < 18446744073709551616) (w : World) : Calls Tryz.prog 132 #[.int .u64 x] w (Gives w x.toNat) := by
  have hR : Rd (w.alloc (.cells #[.int .u32 (x % 4294967296), .int .u32 (x / 4294967296)] 22)) (some ⟨w.heap.size, 0, none⟩) 2 [x % 4294967296, x / 4294967296] := ⟨Nat.le_refl _, fun h => (by cases h), fun j hj => ⟨_, rfl, by
    have : j = 0 ∨ j = 1 := by simp at hj; omega
    rcases this with rfl | rfl
    · exact HasB.cell (HasB.new w _ _) 0
    · exact HasB.cell (HasB.new w _ _) 1⟩⟩
  have hC := Far.mk (bcut (n := 2) rfl hR (IsW.append (IsW.one (by omega) (by omega)) (IsW.one (by omega) (by omega))) (by simp))
  have e2 : x / 4294967296 % 4294967296 = x / 4294967296 := by omega
  have e3 : nv [x % 4294967296, x / 4294967296] = x.toNat := by simp [nv]; omega
  rw [e3] at hC
  have hB := (Below.refl w.heap.size w).alloc (Nat.le_refl _) (.cells #[.int .u32 (x % 4294967296), .int .u32 (x / 4294967296)] 22)
  replace hB := Far.mk hB
  clear hR e3
  go_enter Tryz.func132, Tryz.ntmps132
  go_wp2_with (go_at_call 133; go_must (with_reducible refine hC.out.mono ?_); rintro e w3 ⟨rfl, hw, hR3⟩; replace hw := hw.symm; subst hw)
  go_ret
  exact ⟨_, _, rfl, hR3, hB.out⟩
end Nv
end Go.Proofs.YtdpbpdhamekcdaaGreatDoor
namespace Go.Proofs.YtdpbpdhamekcdaaGreatDoor
open Go.RowKit
namespace Nv

/-- Words that are not too long. -/
def Sh (w : World) (v : Value) : Prop := ∃ A n c l, v = .slice A n c ∧ l.length = n ∧ Rd w A c l ∧ IsW l ∧ l.length ≤ 1000000 ∧ (words (nv l)).length ≤ 1024
theorem Sh.of {w : World} {A : Option Addr} {n c : Nat} {l : List Int} (h1 : l.length = n) (h2 : Rd w A c l) (h3 : IsW l) (h4 : l.length ≤ 1000000) (h5 : (words (nv l)).length ≤ 1024) : Sh w (.slice A n c) := ⟨A, n, c, l, rfl, h1, h2, h3, h4, h5⟩
theorem Sh.below {w w' : World} {v : Value} (h : Sh w v) (hb : Below w.heap.size w w') : Sh w' v := by
  obtain ⟨A, n, c, l, e, h1, h2, h3⟩ := h
  exact ⟨A, n, c, l, e, h1, h2.below hb, h3⟩
set_option maxRecDepth 100000 in
theorem bn_long_one {v : Value} {w : World} (h : Sh w v) : Calls Tryz.prog 194 #[v] w fun x w' => x = .returned (.bool false) ∧ w' = w := by
  obtain ⟨A, n, c, l, rfl, h1, h2, h3, h4, h5⟩ := h
  have hC := Far.mk (bcut h1 h2 h3 h4)
  clear h1 h2 h3 h4
  generalize words (nv l) = m at *
  go_enter Tryz.func194, Tryz.ntmps194
  go_wp2_with fail
  with_reducible refine hC.out.mono ?_
  rintro x w3 ⟨rfl, hw, -⟩
  replace hw := hw.symm
  subst hw
  go_wp2_with fail
  go_ret
  refine ⟨?_, rfl⟩
  rw [decide_eq_false (by omega)]
  rfl
set_option maxRecDepth 100000 in
theorem sl_IndexFunc {ad : Addr} {n c : Nat} {w : World} (hn : n ≤ 1000) (h : ∀ j, j < n → ∃ v, w.cell? (ad.add j) = some v ∧ Sh w v) : Calls Tryz.prog 238 #[.slice (some ad) n c, .func (.func 194) #[] #[]] w fun x w' => x = .returned (.int .i64 (-1)) ∧ w' = w := by
  replace h := Far.mk h
  go_enter Tryz.func238, Tryz.ntmps238
  go_wp2_with fail
  go_loopw [8] (fun i wr => ∃ k : Nat, k ≤ n ∧ i = .int .i64 k ∧ wr = w) (fun i _ => n - (intOf i).toNat)
  case atStart => exact ⟨0, Nat.zero_le _, rfl, rfl⟩
  case round =>
    obtain ⟨k, hk, rfl, rfl⟩ := hrel
    by_cases hkn : k < n
    · obtain ⟨v, hv, hs⟩ := h.out k hkn
      have hO := Far.mk (bn_long_one hs)
      clear hs
      go_wp2_with fail
      with_reducible refine hO.out.mono ?_
      rintro x w3 ⟨rfl, hw⟩
      replace hw := hw.symm
      subst hw
      go_wp2_with fail
      go_roundw
      case rel => exact ⟨k + 1, by omega, by go_num, by first | rfl | trivial⟩
      case measure => simp [intOf] <;> omega
    · go_wp2_with fail
      go_ret
      exact ⟨rfl, rfl⟩
set_option maxRecDepth 100000 in
theorem sl_ContainsFunc {ad : Addr} {n c : Nat} {w : World} (hn : n ≤ 1000) (h : ∀ j, j < n → ∃ v, w.cell? (ad.add j) = some v ∧ Sh w v) : Calls Tryz.prog 193 #[.slice (some ad) n c, .func (.func 194) #[] #[]] w fun x w' => x = .returned (.bool false) ∧ w' = w := by
  replace h := Far.mk (sl_IndexFunc (c := c) hn h)
  go_enter Tryz.func193, Tryz.ntmps193
  go_wp2_with fail
  with_reducible refine h.out.mono ?_
  rintro x w3 ⟨rfl, hw⟩
  replace hw := hw.symm
  subst hw
  go_wp2_with fail
  go_ret
  exact ⟨rfl, rfl⟩
set_option maxRecDepth 100000 in
theorem bn_long {ad : Addr} {n c : Nat} {w : World} (hn : n ≤ 1000) (h : ∀ j, j < n → ∃ v, w.cell? (ad.add j) = some v ∧ Sh w v) : Calls Tryz.prog 134 #[.slice (some ad) n c] w fun x w' => x = .returned (.bool false) ∧ w' = w := by
  replace h := Far.mk (sl_ContainsFunc (c := c) hn h)
  go_enter Tryz.func134, Tryz.ntmps134
  go_wp2_with fail
  with_reducible refine h.out.mono ?_
  rintro x w3 ⟨rfl, hw⟩
  replace hw := hw.symm
  subst hw
  go_wp2_with fail
  go_ret
  exact ⟨rfl, rfl⟩
/-- Of one. -/
theorem bn_long1 {v : Value} {t : TypeId} {w : World} (h : Sh w v) : Calls Tryz.prog 134 #[.slice (some ⟨w.heap.size, 0, none⟩) 1 1] (w.alloc (.cells #[v] t)) fun x w' => x = .returned (.bool false) ∧ w' = w.alloc (.cells #[v] t) :=
  bn_long (by decide) (fun j hj => ⟨v, by obtain rfl : j = 0 := by omega
                                          exact HasB.cell (HasB.new w _ _) 0, h.below ((Below.refl _ _).alloc (Nat.le_refl _) _)⟩)
/-- Of two. -/
theorem bn_long2 {u v : Value} {t : TypeId} {w : World} (h : Sh w u) (k : Sh w v) : Calls Tryz.prog 134 #[.slice (some ⟨w.heap.size, 0, none⟩) 2 2] (w.alloc (.cells #[u, v] t)) fun x w' => x = .returned (.bool false) ∧ w' = w.alloc (.cells #[u, v] t) :=
  bn_long (by decide) (fun j hj => by
    have hb : Below w.heap.size w (w.alloc (.cells #[u, v] t)) := (Below.refl _ _).alloc (Nat.le_refl _) _
    have : j = 0 ∨ j = 1 := by omega
    rcases this with rfl | rfl
    · exact ⟨u, HasB.cell (HasB.new w _ _) 0, h.below hb⟩
    · exact ⟨v, HasB.cell (HasB.new w _ _) 1, k.below hb⟩)
end Nv
end Go.Proofs.YtdpbpdhamekcdaaGreatDoor
namespace Go.Proofs.YtdpbpdhamekcdaaGreatDoor
open Go.RowKit
namespace Nv

theorem words_short {a b : Nat} (h : (words a).length < (words b).length) : a < b := by
  have h1 := lt_len a
  have h2 : 4294967296 ^ (words a).length ≤ 4294967296 ^ ((words b).length - 1) := Nat.pow_le_pow_right (by decide) (by omega)
  rcases Nat.lt_or_ge b (4294967296 ^ ((words b).length - 1)) with g | g
  · have := words_len g
    omega
  · omega
theorem drew_two (w : World) (a b : Nat) : (w.drewN a).drewN b = w.drewN (a + b) := by simp [World.drewN, Nat.add_assoc]
theorem drew_more {w wr : World} (n : Nat) (h : ∃ q, wr = w.drewN q) : ∃ q, wr.drewN n = w.drewN q := by
  obtain ⟨q, rfl⟩ := h
  exact ⟨_, drew_two w q n⟩
set_option maxRecDepth 100000 in
theorem bn_Cmp {l m : List Int} {A B : Option Addr} {n p c d : Nat} {w : World} (hnl : l.length = n) (hpm : m.length = p) (hr : Rd w A c l) (hW : IsW l) (hn : l.length ≤ 100000) (hr2 : Rd w B d m) (hW2 : IsW m) (hn2 : m.length ≤ 100000) :
    Calls Tryz.prog 141 #[.slice A n c, .slice B p d] w fun e w' => e = .returned (.int .i64 (cmpN (nv l) (nv m))) ∧ ∃ q, w' = w.drewN q := by
  have hC1 := Far.mk (bcut hnl hr hW (by omega))
  have hC2 := Far.mk (bcut hpm hr2 hW2 (by omega))
  have hl1 : (words (nv l)).length ≤ 100000 := Nat.le_trans (words_len (nv_lt hW)) hn
  have hl2 : (words (nv m)).length ≤ 100000 := Nat.le_trans (words_len (nv_lt hW2)) hn2
  clear hr hW hr2 hW2 hnl hpm hn hn2
  generalize nv l = a at *
  generalize nv m = b at *
  obtain ⟨z, hz⟩ : ∃ z, cmpN a b = z := ⟨_, rfl⟩
  rw [hz]
  replace hz := Far.mk hz
  obtain ⟨L, hL⟩ : ∃ L, (words a).length = L := ⟨_, rfl⟩
  obtain ⟨M, hM⟩ : ∃ L, (words b).length = L := ⟨_, rfl⟩
  have hLM := fun h => words_short (a := a) (b := b) h
  have hML := fun h => words_short (a := b) (b := a) h
  rw [hL, hM] at hLM hML
  rw [hL] at hC1 hl1
  rw [hM] at hC2 hl2
  replace hLM := Far.mk hLM
  replace hML := Far.mk hML
  go_enter Tryz.func141, Tryz.ntmps141
  go_wp2_with fail
  with_reducible refine hC1.out.mono ?_
  rintro x w3 ⟨rfl, hw, hR1⟩
  replace hw := hw.symm
  subst hw
  replace hR1 := Far.mk hR1
  go_wp2_with fail
  with_reducible refine hC2.out.mono ?_
  rintro x w3 ⟨rfl, hw, hR2⟩
  replace hw := hw.symm
  subst hw
  replace hR2 := Far.mk hR2
  by_cases hne : L = M
  · subst hne
    clear hLM hML
    go_wp2_with fail
    go_loopw [5] (fun i wr => ∃ (k : Nat), k ≤ L ∧ i = .int .i64 ((k : Int) - 1) ∧ Far (a + nv ((words b).take k) = b + nv ((words a).take k)) ∧ Far (∃ q, wr = w.drewN q))
      (fun i _ => (intOf i + 1).toNat)
    case atStart => exact ⟨L, Nat.le_refl _, by go_num, ⟨by rw [List.take_of_length_le (by omega), List.take_of_length_le (by omega), nv_words, nv_words, Nat.add_comm]⟩, ⟨0, rfl⟩⟩
    case round =>
      obtain ⟨k, hk, rfl, hv, hq⟩ := hrel
      have hR1 : Far (Rd wr A L (words a)) := ⟨by obtain ⟨q, rfl⟩ := hq.out; exact hR1.out⟩
      have hR2 : Far (Rd wr B L (words b)) := ⟨by obtain ⟨q, rfl⟩ := hq.out; exact hR2.out⟩
      by_cases hk0 : 0 < k
      · obtain ⟨j, rfl⟩ : ∃ j, k = j + 1 := ⟨k - 1, by omega⟩
        obtain ⟨ad1, rfl, x1, hx1, hc1⟩ := hR1.out.get (j := j) (by omega)
        obtain ⟨ad2, rfl, x2, hx2, hc2⟩ := hR2.out.get (j := j) (by omega)
        have b1 := (isW_words a).get j
        have b2 := (isW_words b).get j
        rw [← hx1] at b1
        rw [← hx2] at b2
        have st := cmp_step (l := words a) (m := words b) (isW_words _) (isW_words _) (by rw [nv_words, nv_words]; exact hv.out) hx1.symm hx2.symm b1 b2
        rw [nv_words, nv_words] at st
        replace st := Far.mk st
        replace hx1 := Far.mk hx1
        replace hx2 := Far.mk hx2
        have ej : ((j + 1 : Nat) : Int) - 1 = (j : Int) := by omega
        rw [ej]
        by_cases g1 : x1 < x2
        · have : z = -1 := by rw [← hz.out]; unfold cmpN; rw [if_pos (st.out.1 g1)]
          subst this
          go_wp2_with fail
          go_quiet (fail)
          go_wp2_with fail
          go_quiet (fail)
          go_wp2_with fail
          go_ret
          exact ⟨rfl, drew_more _ (drew_more _ hq.out)⟩
        · by_cases g2 : x2 < x1
          · have : z = 1 := by rw [← hz.out]; unfold cmpN; rw [if_neg (by have := st.out.2.1 g2; omega), if_pos (st.out.2.1 g2)]
            subst this
            go_wp2_with fail
            go_quiet (fail)
            go_wp2_with fail
            go_quiet (fail)
            go_wp2_with fail
            go_ret
            exact ⟨rfl, drew_more _ (drew_more _ hq.out)⟩
          · obtain rfl : x1 = x2 := by omega
            go_wp2_with fail
            go_quiet (fail)
            go_wp2_with fail
            go_roundw
            case rel => exact ⟨j, by omega, by go_num, ⟨st.out.2.2 trivial⟩, ⟨drew_more _ hq.out⟩⟩
            case measure => first | omega | (simp [intOf]; omega) | simp [intOf]
      · have hk0' : k = 0 := by omega
        subst hk0'
        have : z = 0 := by
          have e := hv.out
          simp [nv] at e
          rw [← hz.out]
          unfold cmpN
          rw [e, if_neg (Nat.lt_irrefl _), if_neg (Nat.lt_irrefl _)]
        subst this
        go_wp2_with fail
        go_ret
        exact ⟨rfl, hq.out⟩
  · by_cases g : L < M
    · have : z = -1 := by rw [← hz.out]; unfold cmpN; rw [if_pos (hLM.out g)]
      subst this
      go_wp2_with fail
      go_ret
      exact ⟨rfl, 0, rfl⟩
    · have : z = 1 := by
        have := hML.out (by omega)
        rw [← hz.out]
        unfold cmpN
        rw [if_neg (by omega), if_pos this]
      subst this
      go_wp2_with fail
      go_ret
      exact ⟨rfl, 0, rfl⟩
theorem take_set_same (l : List Int) (k : Nat) (d : Int) : (l.set k d).take k = l.take k := by
  apply List.ext_getElem?
  intro i
  by_cases hi : i < k
  · rw [List.getElem?_take_of_lt hi, List.getElem?_take_of_lt hi, List.getElem?_set_ne (by omega)]
  · rw [List.getElem?_take_eq_none (by omega), List.getElem?_take_eq_none (by omega)]
theorem take_set_succ {l : List Int} {k : Nat} (h : k < l.length) (d : Int) : (l.set k d).take (k + 1) = l.take k ++ [d] := by
  rw [List.take_succ_eq_append_getElem (by rw [List.length_set]; exact h), List.getElem_set_self, take_set_same]
theorem sub_word {x1 x2 y : Int} (b1 : 0 ≤ x1 ∧ x1 < 4294967296) (b2 : 0 ≤ x2 ∧ x2 < 4294967296) (hy : 0 ≤ y ∧ y ≤ 1) : ∃ D, IntKind.u64.wrap (IntKind.u64.wrap (x1 - x2) - y) = D ∧ (0 ≤ D ∧ D < 18446744073709551616) ∧ D % 4294967296 = (x1 - x2 - y) % 4294967296 ∧ D / 9223372036854775808 = (if x1 - x2 - y < 0 then 1 else 0) := by
  refine ⟨_, rfl, ?_, ?_, ?_⟩
  · rw [wu64, wu64]; omega
  · rw [wu64, wu64]; omega
  · rw [wu64, wu64]; split <;> omega
set_option maxRecDepth 100000 in
theorem bn_sub {l m : List Int} {A B : Option Addr} {n p c d : Nat} {w : World} (hnl : l.length = n) (hpm : m.length = p) (hr : Rd w A c l) (hW : IsW l) (hn : l.length ≤ 100000) (hr2 : Rd w B d m) (hW2 : IsW m) (hle : nv m ≤ nv l) :
    Calls Tryz.prog 142 #[.slice A n c, .slice B p d] w (GivesF w (nv l - nv m)) := by
  subst hnl
  subst hpm
  have HR := Far.mk hr
  have HW := Far.mk hW
  have HR2 := Far.mk hr2
  have HW2 := Far.mk hW2
  clear hr hW hr2 hW2
  go_enter Tryz.func142, Tryz.ntmps142
  go_wp2_with (at_make; go_must (refine make_words rfl _ _ rfl w.heap.size _ _ l.length rfl rfl (by omega) (by omega) (by omega) (Nat.le_refl _) ?_))
  intro w1 hu1 hg1
  have hb1 : Below w.heap.size w w1 := (Below.refl _ _).grown hg1 (Nat.le_refl _) (by simp)
  clear hg1
  go_wp2_with fail
  go_loopw [6, 14] (fun cy i wr => ∃ (k : Nat) (out : List Int) (y : Int), k ≤ l.length ∧ cy = .int .u64 y ∧ i = .int .i64 k ∧ U wr w.heap.size (.slice (some ⟨w.heap.size, 0, none⟩) l.length l.length) out ∧ (0 ≤ y ∧ y ≤ 1) ∧ out.length = l.length ∧ Far (IsW out ∧ nv (out.take k) + nv (m.take k) = nv (l.take k) + y.toNat * 4294967296 ^ k) ∧ Far (Below w.heap.size w wr))
    (fun _ i _ => l.length - (intOf i).toNat)
  case atStart => exact ⟨0, _, 0, Nat.zero_le _, rfl, rfl, hu1, by omega, by simp, ⟨IsW.zeros _, by simp [nv]⟩, ⟨hb1⟩⟩
  case round =>
    clear hu1 hb1
    obtain ⟨k, out, y, hk, rfl, rfl, hu, hy, hlen, hv, hb⟩ := hrel
    have hsz := hb.out.size
    by_cases hlt : k < l.length
    · obtain ⟨ad1, rfl, x1, hx1, hc1⟩ := (HR.out.below hb.out).get hlt
      obtain ⟨x2, hx2⟩ : ∃ x, m.getD k 0 = x := ⟨_, rfl⟩
      have b1 := HW.out.get k
      have b2 := HW2.out.get k
      rw [← hx1] at b1
      rw [hx2] at b2
      obtain ⟨o, ho, hco, hfo⟩ := hu.cell hlen (j := k) hlt
      clear ho
      have hAt := Far.mk (fun W (h : Below w.heap.size w W) => bn_at (w := W) k x2 hx2 rfl rfl (HR2.out.below h) HW2.out)
      replace hx1 := Far.mk hx1
      replace hx2 := Far.mk hx2
      go_wp2_with fail
      go_quiet (exact Calls.quiet_of_same (hAt.out _ (by first | exact hb.out | exact below_drawn hb.out)))
      have hu2 := hu.drewN nq
      have hb2 : Far (Below w.heap.size w (wr.drewN nq)) := ⟨below_drawn hb.out⟩
      replace hco : (wr.drewN nq).cell? { block := w.heap.size, off := k } = some (.int .u32 o) := hco
      replace hfo : (wr.drewN nq).frozen? { block := w.heap.size, off := k } = false := hfo
      obtain ⟨D, hD, hD0, hD1, hD2⟩ := sub_word b1 b2 hy
      have hl2 := less_step (out := out.take k) (d := D % 4294967296) (b := D / 9223372036854775808) (by rw [List.length_take]; omega) (hv.out.1.take k) hv.out.2 hx1.out.symm hx2.out b1 b2 hy hD1 hD2
      rw [← take_set_succ (by omega)] at hl2
      have hlen2 : (out.set k (D % 4294967296)).length = l.length := by rw [List.length_set]; exact hlen
      have hW3 : IsW (out.set k (D % 4294967296)) := hv.out.1.set _ (by omega) (by omega)
      have hset := hu2.set hlen k (D % 4294967296)
      replace hl2 := Far.mk hl2
      replace hW3 := Far.mk hW3
      have hDb : 0 ≤ D / 9223372036854775808 ∧ D / 9223372036854775808 ≤ 1 := by omega
      rw [hD]
      clear hD1 hD2 hD hu hb hc1 hAt hu2
      generalize wr.drewN nq = w5 at *
      go_wp2_with fail
      go_roundw
      case rel => exact ⟨k + 1, _, D / 9223372036854775808, by omega, by first | rfl | go_num, by go_num, hset, hDb, hlen2, ⟨hW3.out, hl2.out.2⟩, ⟨hb2.out.setCell (Nat.le_refl _) _⟩⟩
      case measure => simp [intOf] <;> omega
    · have hke : k = l.length := by omega
      subst hke
      obtain ⟨A', c', e', hR2⟩ := hu.rd
      simp only [Value.slice.injEq] at e'
      obtain ⟨rfl, -, rfl⟩ := e'
      have hC := bcut (n := l.length) hlen hR2 hv.out.1 (by omega)
      have hval := hv.out.2
      rw [List.take_of_length_le (by omega)] at hval
      rw [less_end hlen hv.out.1 HW.out hval hle hy] at hC
      replace hC := Far.mk hC
      go_wp2_with fail
      with_reducible refine hC.out.mono ?_
      rintro x w3 ⟨rfl, hw, hR3⟩
      replace hw := hw.symm
      subst hw
      go_wp2_with fail
      go_ret
      exact ⟨_, _, rfl, Nat.le_refl _, hR3, hb.out⟩
set_option maxRecDepth 100000 in
/-- Sub of what is no less. -/
theorem bn_Sub {l m : List Int} {A B : Option Addr} {n p c d : Nat} {w : World} (hnl : l.length = n) (hpm : m.length = p) (hr : Rd w A c l) (hW : IsW l) (hn : l.length ≤ 1024) (hr2 : Rd w B d m) (hW2 : IsW m) (hn2 : m.length ≤ 1024) (hle : nv m ≤ nv l) :
    Calls Tryz.prog 81 #[.slice A n c, .slice B p d] w fun x w' => ∃ g c', x = .returned (.tuple #[.slice (some ⟨g, 0, none⟩) (words (nv l - nv m)).length c', .int .i64 0]) ∧ w.heap.size ≤ g ∧ Rd w' (some ⟨g, 0, none⟩) c' (words (nv l - nv m)) ∧ Below w.heap.size w w' := by
  have hl1 : (words (nv l)).length ≤ 1024 := Nat.le_trans (words_len (nv_lt hW)) hn
  have hl2 : (words (nv m)).length ≤ 1024 := Nat.le_trans (words_len (nv_lt hW2)) hn2
  have hS1 := Sh.of hnl hr hW (by omega) hl1
  have hS2 := Sh.of hpm hr2 hW2 (by omega) hl2
  have hL := Far.mk (bn_long2 (t := 73) hS1 hS2)
  have hC := Far.mk (fun W (h : Below w.heap.size w W) => bn_Cmp (w := W) hnl hpm (hr.below h) hW (by omega) (hr2.below h) hW2 (by omega))
  have hC1 := Far.mk (fun W (h : Below w.heap.size w W) => bcut (w := W) hnl (hr.below h) hW (by omega))
  have hC2 := Far.mk (fun W (h : Below w.heap.size w W) => bcut (w := W) hpm (hr2.below h) hW2 (by omega))
  have hc0 : ¬ cmpN (nv l) (nv m) < 0 := by
    unfold cmpN
    rw [if_neg (by omega)]
    split <;> omega
  clear hS1 hS2 hr hr2 hW hW2 hn hn2
  generalize nv l = a at *
  generalize nv m = b at *
  obtain ⟨cc, hcc⟩ : ∃ cc, cmpN a b = cc := ⟨_, rfl⟩
  rw [hcc] at hc0 hC
  clear hcc
  have hB0 := (Below.refl w.heap.size w).alloc (Nat.le_refl _) (.cells #[.slice A n c, .slice B p d] 73)
  replace hB0 := Far.mk hB0
  go_enter Tryz.func81, Tryz.ntmps81
  go_wp2_with fail
  with_reducible refine hL.out.mono ?_
  rintro x w3 ⟨rfl, hw⟩
  replace hB0 : Far (Below w.heap.size w w3) := ⟨by rw [hw]; exact hB0.out⟩
  clear hw hL
  go_wp2_with fail
  with_reducible refine (hC.out _ hB0.out).mono ?_
  rintro x w4 ⟨rfl, q, hw⟩
  replace hB0 : Far (Below w.heap.size w w4) := ⟨by rw [hw]; exact below_drawn hB0.out⟩
  clear hw hC
  go_wp2_with fail
  with_reducible refine (hC1.out _ hB0.out).mono ?_
  rintro x w5 ⟨rfl, hw, hR1⟩
  replace hw := hw.symm
  subst hw
  replace hR1 := Far.mk hR1
  go_wp2_with fail
  with_reducible refine (hC2.out _ hB0.out).mono ?_
  rintro x w5 ⟨rfl, hw, hR2⟩
  replace hw := hw.symm
  subst hw
  have hX := bn_sub rfl rfl hR1.out (isW_words a) (by omega) hR2 (isW_words b) (by rw [nv_words, nv_words]; exact hle)
  rw [nv_words, nv_words] at hX
  replace hX := Far.mk hX
  clear hR1 hR2 hC1 hC2
  go_wp2_with fail
  with_reducible refine hX.out.mono ?_
  rintro x w6 ⟨g6, c6, rfl, hg6, hR6, hb6⟩
  replace hR6 := Far.mk hR6
  have hs0 := hB0.out.size
  go_wp2_with fail
  go_ret2
  exact ⟨g6, c6, rfl, Nat.le_trans hs0 hg6, hR6.out, hB0.out.trans (hb6.mono hB0.out.size)⟩
end Nv
end Go.Proofs.YtdpbpdhamekcdaaGreatDoor
namespace Go.Proofs.YtdpbpdhamekcdaaGreatDoor
open Go.RowKit
namespace Nv

/-- What holds of a moved row of full length in the middle: q whole words, s bits, y what is carried. -/
structure Put (l out : List Int) (q s i : Nat) (y : Int) : Prop where
  len : out.length = q + l.length + 1
  isW : IsW out
  zero : ∀ j, q + i < j → out.getD j 0 = 0
  here : out.getD (q + i) 0 = y
  val : nv (out.take (q + i)) + y.toNat * 4294967296 ^ (q + i) = nv (l.take i) * (4294967296 ^ q * 2 ^ s)
theorem getD_set_self' {l : List Int} {i : Nat} (h : i < l.length) (x : Int) : (l.set i x).getD i 0 = x := by
  rw [List.getD_eq_getElem?_getD, List.getElem?_set_self h]; rfl
theorem Put.step {l out : List Int} {q s i : Nat} {x y p : Int} (h : Put l out q s i y) (hi : i < l.length) (hx : l.getD i 0 = x) (bx : 0 ≤ x ∧ x < 4294967296) (by' : 0 ≤ y) (hp : p = x * 2 ^ s + y) (hp2 : p / 4294967296 < 4294967296) :
    Put l ((out.set (q + i) (p % 4294967296)).set (q + i + 1) (p / 4294967296)) q s (i + 1) (p / 4294967296) := by
  have h2 : (0 : Int) < 2 ^ s := Int.pow_pos (by decide)
  have hxs : 0 ≤ x * 2 ^ s := Int.mul_nonneg bx.1 (Int.le_of_lt h2)
  have hl := h.len
  refine ⟨by rw [List.length_set, List.length_set, hl], (h.isW.set _ (by omega) (by omega)).set _ (by omega) hp2, fun j hj => ?_, ?_, ?_⟩
  · rw [getD_set_ne (by omega), getD_set_ne (by omega)]
    exact h.zero j (by omega)
  · rw [show q + (i + 1) = q + i + 1 by omega, getD_set_self' (by rw [List.length_set]; omega)]
  · have m : Moved l (out.take (q + i)) q s i y := ⟨by rw [List.length_take]; omega, h.isW.take _, h.val⟩
    have st := (m.step hx bx by' hp).val
    rw [show q + (i + 1) = q + i + 1 by omega, take_set_same, take_set_succ (by omega)]
    rw [show q + (i + 1) = q + i + 1 by omega] at st
    exact st
theorem or_low32 {x y : Int} {s : Nat} (hs : s < 32) (bx : 0 ≤ x ∧ x < 4294967296) (by' : 0 ≤ y ∧ y < 2 ^ s) : bits .or .u32 y (x * 2 ^ s % 4294967296) = (x * 2 ^ s + y) % 4294967296 ∧ x * 2 ^ s / 4294967296 = (x * 2 ^ s + y) / 4294967296 := by
  have h2 : (0 : Int) < 2 ^ s := Int.pow_pos (by decide)
  have hs31 := pow31 s hs
  have hxs : 0 ≤ x * 2 ^ s := Int.mul_nonneg bx.1 (Int.le_of_lt h2)
  have e : (4294967296 : Int) = 2 ^ s * 2 ^ (32 - s) := by
    rw [← Int.pow_add, show s + (32 - s) = 32 by omega]
    rfl
  obtain ⟨P, hP⟩ : ∃ P : Int, (2 : Int) ^ s = P := ⟨_, rfl⟩
  obtain ⟨Q, hQ⟩ : ∃ P : Int, (2 : Int) ^ (32 - s) = P := ⟨_, rfl⟩
  have hQ0 : 0 < Q := by rw [← hQ]; exact Int.pow_pos (by decide)
  rw [hP, hQ] at e
  have e1 : x * P % 4294967296 = (x % Q) * P := by
    rw [e, Int.mul_comm x P, Int.mul_emod_mul_of_pos _ _ (by rw [← hP]; exact h2), Int.mul_comm]
  have e2 : x * P / 4294967296 = x / Q := by
    rw [e, Int.mul_comm P Q, Int.mul_ediv_mul_of_pos_left _ _ (by rw [← hP]; exact h2)]
  have q0 : 0 ≤ x % Q := Int.emod_nonneg _ (by omega)
  have q1 : x % Q < Q := Int.emod_lt_of_pos _ hQ0
  rw [hP] at by' hs31 ⊢
  have hsum : x * P + y = 4294967296 * (x / Q) + ((x % Q) * P + y) := by
    have := Int.mul_ediv_add_emod x Q
    have e3 : (Q * (x / Q) + x % Q) * P = x * P := by rw [this]
    rw [Int.add_mul] at e3
    have e4 : Q * (x / Q) * P = 4294967296 * (x / Q) := by rw [e]; ac_rfl
    omega
  have hlt : (x % Q) * P + y < 4294967296 := by
    have := Int.mul_le_mul_of_nonneg_right (show x % Q + 1 ≤ Q by omega) (show 0 ≤ P by omega)
    rw [Int.add_mul, Int.one_mul, Int.mul_comm Q P, ← e] at this
    omega
  have hge : 0 ≤ (x % Q) * P := Int.mul_nonneg q0 (by omega)
  have m1 : (x * P + y) % 4294967296 = (x % Q) * P + y := by rw [hsum]; omega
  have d1 : (x * P + y) / 4294967296 = x / Q := by rw [hsum]; omega
  refine ⟨?_, by rw [e2, d1]⟩
  rw [e1, m1]
  have hc : bits .or .u32 y ((x % Q) * P) = bits .or .u32 ((x % Q) * P) y := by simp [bits, BitVec.or_comm]
  rw [hc]
  exact bits_join .u32 32 (by decide) (fun n h1 h2 => by simp [IntKind.wrap, IntKind.bits, IntKind.signed]; omega) s _ _ hge (by rw [hP]; exact Int.mul_emod_left _ _) (by omega) by'.1 (by rw [hP]; exact by'.2) (by omega)
theorem or_zero32 {x : Int} (h0 : 0 ≤ x) (h1 : x < 4294967296) : bits .or .u32 0 x = x := by
  obtain ⟨n, rfl⟩ := Int.eq_ofNat_of_zero_le h0
  show IntKind.u32.wrap ((BitVec.ofInt 32 0 ||| BitVec.ofInt 32 (n : Int)).toNat : Int) = (n : Int)
  rw [show BitVec.ofInt 32 0 = 0#32 from rfl, BitVec.zero_or, BitVec.ofInt_natCast, BitVec.toNat_ofNat, Nat.mod_eq_of_lt (by omega)]
  simp [IntKind.wrap, IntKind.bits, IntKind.signed]
  omega
set_option maxRecDepth 100000 in
theorem bn_shl {l : List Int} {A : Option Addr} {n c k : Nat} {K : Int} {w : World} (hK : K = (k : Int)) (hnl : l.length = n) (hr : Rd w A c l) (hW : IsW l) (hn : l.length ≤ 100000) (hk : k ≤ 1000000) :
    Calls Tryz.prog 136 #[.slice A n c, .int .i64 K] w (GivesC w (nv l * 2 ^ k)) := by
  subst hK
  have hC := Far.mk (bcut hnl hr hW (by omega))
  have hL0 : (words (nv l)).length ≤ 100000 := Nat.le_trans (words_len (nv_lt hW)) hn
  clear hr hW hnl hn
  generalize nv l = N at *
  obtain ⟨L, hL⟩ : ∃ L, (words N).length = L := ⟨_, rfl⟩
  rw [hL] at hC hL0
  go_enter Tryz.func136, Tryz.ntmps136
  go_wp2_with fail
  with_reducible refine hC.out.mono ?_
  rintro x w3 ⟨rfl, hw, hR⟩
  replace hw := hw.symm
  subst hw
  replace hR := Far.mk hR
  clear hC
  go_wp2_with (at_make; go_must (refine make_words rfl _ _ rfl w.heap.size _ _ (k / 32 + L + 1) rfl rfl (by omega) (by omega) (by omega) (Nat.le_refl _) ?_))
  intro w1 hu1 hg1
  have hb1 : Below w.heap.size w w1 := (Below.refl _ _).grown hg1 (Nat.le_refl _) (by simp)
  clear hg1
  go_wp2_with fail
  go_loopw [19] (fun i wr => ∃ (j : Nat) (out : List Int) (y : Int), j ≤ L ∧ i = .int .i64 j ∧ U wr w.heap.size (.slice (some ⟨w.heap.size, 0, none⟩) (k / 32 + L + 1) (k / 32 + L + 1)) out ∧ out.length = k / 32 + L + 1 ∧ (0 ≤ y ∧ y < 2 ^ (k % 32)) ∧ Far (Put (words N) out (k / 32) (k % 32) j y) ∧ Far (Below w.heap.size w wr))
    (fun i _ => L - (intOf i).toNat)
  case atStart => exact ⟨0, _, 0, Nat.zero_le _, rfl, hu1, by simp, ⟨by omega, Int.pow_pos (by decide)⟩, ⟨by simp [hL], IsW.zeros _, fun j _ => by simp [List.getD_eq_getElem?_getD, List.getElem?_replicate]; split <;> rfl, by simp [List.getD_eq_getElem?_getD, List.getElem?_replicate]; split <;> rfl, by rw [List.take_replicate, nv_zeros]; simp [nv]⟩, ⟨hb1⟩⟩
  case round =>
    clear hu1 hb1
    obtain ⟨j, out, y, hj, rfl, hu, hlen, hy, hm, hb⟩ := hrel
    have hsz := hb.out.size
    by_cases hlt : j < L
    · obtain ⟨ad, rfl, x, hx, hc1⟩ := (hR.out.below hb.out).get (j := j) (by omega)
      have bx := (isW_words N).get j
      rw [← hx] at bx
      obtain ⟨o, ho, hco, hfo⟩ := hu.cell hlen (j := k / 32 + j) (by omega)
      obtain rfl : y = o := hm.out.here.symm.trans ho
      obtain ⟨o2, ho2, hco2, hfo2⟩ := hu.cell hlen (j := k / 32 + j + 1) (by omega)
      obtain rfl : 0 = o2 := (hm.out.zero _ (by omega)).symm.trans ho2
      clear ho ho2
      obtain ⟨hor1, hor2⟩ := or_low32 (s := k % 32) (by omega) bx hy
      have h2 : (0 : Int) < 2 ^ (k % 32) := Int.pow_pos (by decide)
      have hs31 := pow31 (k % 32) (by omega)
      have hxs0 : 0 ≤ x * 2 ^ (k % 32) := Int.mul_nonneg bx.1 (Int.le_of_lt h2)
      have hxs1 : x * 2 ^ (k % 32) ≤ 4294967295 * 2147483648 := Int.mul_le_mul (by omega) hs31 (Int.le_of_lt h2) (by decide)
      have hp2 : (x * 2 ^ (k % 32) + y) / 4294967296 < 2 ^ (k % 32) := by
        rw [Int.ediv_lt_iff_lt_mul (by decide)]
        have := Int.mul_le_mul_of_nonneg_right (show x ≤ 4294967295 by omega) (Int.le_of_lt h2)
        omega
      have st := hm.out.step (by omega) hx.symm bx hy.1 rfl (by omega)
      have hor3 := or_zero32 (x := (x * 2 ^ (k % 32) + y) / 4294967296) (by omega) (by omega)
      rw [← hor2] at hor3 st hp2
      have hwr : IntKind.u64.wrap (x * 2 ^ (k % 32)) = x * 2 ^ (k % 32) := wrapU64_eq hxs0 (by omega)
      obtain ⟨D1, hD1⟩ : ∃ D, (x * 2 ^ (k % 32) + y) % 4294967296 = D := ⟨_, rfl⟩
      have hD0 : 0 ≤ D1 ∧ D1 < 4294967296 := by omega
      rw [hD1] at hor1 st
      clear hor2 hD1
      obtain ⟨p, hp⟩ : ∃ p, x * 2 ^ (k % 32) = p := ⟨_, rfl⟩
      have hE1 : bits .or .u32 y (IntKind.u64.wrap (x * 2 ^ (k % 32)) % 4294967296) = D1 := by rw [hwr]; exact hor1
      have hE2 : bits .or .u32 0 (IntKind.u64.wrap (x * 2 ^ (k % 32)) / 4294967296 % 4294967296) = p / 4294967296 := by
        rw [hwr, ← hp, Int.emod_eq_of_lt (by omega) (by omega)]
        exact hor3
      rw [hp] at hxs0 hxs1 st hor3 hp2
      replace hE1 := Far.mk hE1
      replace hE2 := Far.mk hE2
      clear hwr hor1 hor3 hp
      have hlen1 : (out.set (k / 32 + j) D1).length = k / 32 + L + 1 := by rw [List.length_set]; exact hlen
      have hset := (hu.set hlen (k / 32 + j) D1).set hlen1 (k / 32 + j + 1) (p / 4294967296)
      have hlen2 : ((out.set (k / 32 + j) D1).set (k / 32 + j + 1) (p / 4294967296)).length = k / 32 + L + 1 := by rw [List.length_set]; exact hlen1
      have hp0 : 0 ≤ p / 4294967296 := by omega
      replace st := Far.mk st
      replace hx := Far.mk hx
      clear hxs1 h2 hs31
      go_wp2_with fail
      go_roundw
      case rel => exact ⟨j + 1, _, _, by omega, by go_num, by rw [hE1.out, hE2.out]; exact hset, hlen2, ⟨hp0, hp2⟩, st, ⟨(hb.out.setCell (Nat.le_refl _) _).setCell (Nat.le_refl _) _⟩⟩
      case measure => simp [intOf] <;> omega
    · have hke : j = L := by omega
      subst hke
      obtain ⟨A', c', e', hR2⟩ := hu.rd
      simp only [Value.slice.injEq] at e'
      obtain ⟨rfl, -, rfl⟩ := e'
      have hs31 := pow31 (k % 32) (by omega)
      have hv : nv out = N * 2 ^ k := by
        have e := hm.out.val
        have h3 := nv_take_succ (l := out) (j := k / 32 + j) (by omega)
        rw [List.take_of_length_le (by omega), hm.out.here] at h3
        rw [h3, e, List.take_of_length_le (by omega), nv_words, show (4294967296 : Nat) = 2 ^ 32 by decide, ← Nat.pow_mul, ← Nat.pow_add]
        congr 2
        omega
      have hC := bcut (n := k / 32 + j + 1) hlen hR2 hm.out.isW (by omega)
      rw [hv] at hC
      replace hC := Far.mk hC
      go_wp2_with fail
      with_reducible refine hC.out.mono ?_
      rintro x w3 ⟨rfl, hw, hR3⟩
      replace hw := hw.symm
      subst hw
      go_wp2_with fail
      go_ret
      exact ⟨_, rfl, hR3, hb.out⟩
set_option maxRecDepth 100000 in
theorem bn_Shl {l : List Int} {A : Option Addr} {n c k : Nat} {K : Int} {w : World} (hK : K = (k : Int)) (hnl : l.length = n) (hr : Rd w A c l) (hW : IsW l) (hn : l.length ≤ 1024) (hk : k ≤ 32768) (hmax : (words (nv l * 2 ^ k)).length ≤ 1024) :
    Calls Tryz.prog 79 #[.slice A n c, .int .i64 K] w fun x w' => ∃ A' c', x = .returned (.tuple #[.slice A' (words (nv l * 2 ^ k)).length c', .int .i64 0]) ∧ Rd w' A' c' (words (nv l * 2 ^ k)) ∧ Below w.heap.size w w' := by
  subst hK
  have hL0 : (words (nv l)).length ≤ 1024 := Nat.le_trans (words_len (nv_lt hW)) hn
  have hC := Far.mk (bcut hnl hr hW (by omega))
  clear hr hW hnl hn
  generalize nv l = N at *
  obtain ⟨L, hL⟩ : ∃ L, (words N).length = L := ⟨_, rfl⟩
  rw [hL] at hC hL0
  have hB0 := (Below.refl w.heap.size w).alloc (Nat.le_refl _) (.cells #[.slice A L L] 73)
  replace hB0 := Far.mk hB0
  go_enter Tryz.func79, Tryz.ntmps79
  go_wp2_with fail
  with_reducible refine hC.out.mono ?_
  rintro x w3 ⟨rfl, hw, hR⟩
  replace hw := hw.symm
  subst hw
  have hLg := Far.mk (bn_long1 (t := 73) (Sh.of hL hR (isW_words N) (by omega) (by rw [nv_words]; omega)))
  replace hR := Far.mk hR
  clear hC
  go_wp2_with fail
  with_reducible refine hLg.out.mono ?_
  rintro x w3 ⟨rfl, hw⟩
  replace hB0 : Far (Below w.heap.size w w3) := ⟨by rw [hw]; exact hB0.out⟩
  clear hw hLg
  by_cases h0 : L = 0
  · have e0 : words (N * 2 ^ k) = [] := by rw [words_len_zero.1 (hL.trans h0), Nat.zero_mul, words_zero]
    subst h0
    go_wp2_with fail
    go_ret2
    rw [e0]
    exact ⟨none, 0, rfl, Rd.nil _, hB0.out⟩
  · have hX := bn_shl (K := (k : Int)) rfl hL (hR.out.below hB0.out) (isW_words N) (by omega) (by omega)
    rw [nv_words] at hX
    replace hX := Far.mk hX
    clear hR
    go_wp2_with fail
    with_reducible refine hX.out.mono ?_
    rintro x w4 ⟨A4, rfl, hR4, hb4⟩
    have hT := bn_told rfl hR4 (isW_words _) (by omega) (by rw [nv_words]; exact hmax)
    rw [nv_words] at hT
    replace hT := Far.mk hT
    have hBw := Far.mk (hB0.out.trans (hb4.mono hB0.out.size))
    clear hX hR4 hb4
    go_wp2_with fail
    with_reducible refine hT.out.mono ?_
    rintro x w5 ⟨rfl, hw, hR5⟩
    replace hw := hw.symm
    subst hw
    replace hR5 := Far.mk hR5
    go_wp2_with fail
    go_ret2
    exact ⟨_, _, rfl, hR5.out, hBw.out⟩
end Nv
end Go.Proofs.YtdpbpdhamekcdaaGreatDoor
namespace Go.Proofs.YtdpbpdhamekcdaaGreatDoor
open Go.RowKit
namespace Nv

/-- A product's row without the last word that is not needed. -/
structure MidP (l m out : List Int) (i k : Nat) (x y : Int) : Prop where
  mid : Mid l m (out ++ [0]) i k x y
  len : out.length = l.length + m.length
theorem MidP.isW {l m out : List Int} {i k : Nat} {x y : Int} (h : MidP l m out i k x y) : IsW out := fun a ha => h.mid.isW a (List.mem_append_left _ ha)
theorem MidP.step {l m out : List Int} {i k : Nat} {x y z o p : Int} (h : MidP l m out i k x y) (hi : i < l.length) (hk : k < m.length) (hz : m.getD k 0 = z) (ho : out.getD (i + k) 0 = o) (bx : 0 ≤ x ∧ x < 4294967296) (bz : 0 ≤ z ∧ z < 4294967296)
    (bo : 0 ≤ o ∧ o < 4294967296) (by' : 0 ≤ y ∧ y < 4294967296) (hp : p = x * z + o + y) : MidP l m (out.set (i + k) (p % 4294967296)) i (k + 1) x (p / 4294967296) := by
  have hl := h.len
  refine ⟨?_, by rw [List.length_set, hl]⟩
  have := h.mid.step hi hk hz (by rw [List.getD_eq_getElem?_getD, List.getElem?_append_left (by omega), ← List.getD_eq_getElem?_getD]; exact ho) bx bz bo by' hp
  rwa [List.set_append_left _ _ (by omega)] at this
theorem MidP.shut {l m out : List Int} {i : Nat} {x y : Int} (h : MidP l m out i m.length x y) (hi : i < l.length) (hx : l.getD i 0 = x) (by' : 0 ≤ y ∧ y < 4294967296) : MidP l m (out.set (i + m.length) y) (i + 1) 0 0 0 := by
  have hl := h.len
  refine ⟨?_, by rw [List.length_set, hl]⟩
  have := h.mid.shut hi hx by'
  rwa [List.set_append_left _ _ (by omega)] at this
theorem MidP.open {l m out : List Int} {i : Nat} (h : MidP l m out i 0 0 0) (x : Int) : MidP l m out i 0 x 0 := ⟨h.mid.open x, h.len⟩
theorem MidP.last {l m out : List Int} (h : MidP l m out l.length 0 0 0) : nv out = nv l * nv m := by
  have e := h.mid.val
  rw [List.take_length, nv_append] at e
  simpa [nv] using e
set_option maxRecDepth 100000 in
theorem bn_Mul {l m : List Int} {A B : Option Addr} {n p c d : Nat} {w : World} (hnl : l.length = n) (hpm : m.length = p) (hr : Rd w A c l) (hW : IsW l) (hn : l.length ≤ 1024) (hr2 : Rd w B d m) (hW2 : IsW m) (hn2 : m.length ≤ 1024) (hmax : (words (nv l * nv m)).length ≤ 1024) :
    Calls Tryz.prog 145 #[.slice A n c, .slice B p d] w fun x w' => ∃ A' c', x = .returned (.tuple #[.slice A' (words (nv l * nv m)).length c', .int .i64 0]) ∧ Rd w' A' c' (words (nv l * nv m)) ∧ Below w.heap.size w w' := by
  have hl1 : (words (nv l)).length ≤ 1024 := Nat.le_trans (words_len (nv_lt hW)) hn
  have hl2 : (words (nv m)).length ≤ 1024 := Nat.le_trans (words_len (nv_lt hW2)) hn2
  have hL := Far.mk (bn_long2 (t := 73) (Sh.of hnl hr hW (by omega) hl1) (Sh.of hpm hr2 hW2 (by omega) hl2))
  have hC1 := Far.mk (fun W (h : Below w.heap.size w W) => bcut (w := W) hnl (hr.below h) hW (by omega))
  have hC2 := Far.mk (fun W (h : Below w.heap.size w W) => bcut (w := W) hpm (hr2.below h) hW2 (by omega))
  clear hr hr2 hW hW2 hn hn2
  generalize nv l = a at *
  generalize nv m = b at *
  have hB0 := (Below.refl w.heap.size w).alloc (Nat.le_refl _) (.cells #[.slice A n c, .slice B p d] 73)
  replace hB0 := Far.mk hB0
  obtain ⟨L, hLL⟩ : ∃ L, (words a).length = L := ⟨_, rfl⟩
  obtain ⟨M, hMM⟩ : ∃ L, (words b).length = L := ⟨_, rfl⟩
  rw [hLL] at hC1 hl1
  rw [hMM] at hC2 hl2
  go_enter Tryz.func145, Tryz.ntmps145
  go_wp2_with fail
  with_reducible refine hL.out.mono ?_
  rintro x w3 ⟨rfl, hw⟩
  replace hB0 : Far (Below w.heap.size w w3) := ⟨by rw [hw]; exact hB0.out⟩
  clear hw hL
  go_wp2_with fail
  with_reducible refine (hC1.out _ hB0.out).mono ?_
  rintro x w5 ⟨rfl, hw, hR1⟩
  replace hw := hw.symm
  subst hw
  replace hR1 := Far.mk hR1
  go_wp2_with fail
  with_reducible refine (hC2.out _ hB0.out).mono ?_
  rintro x w5 ⟨rfl, hw, hR2⟩
  replace hw := hw.symm
  subst hw
  replace hR2 := Far.mk hR2
  have hs3 := hB0.out.size
  clear hC1 hC2 hnl hpm
  go_wp2_with (at_make; go_must (refine make_words rfl _ _ rfl w3.heap.size _ _ (L + M) rfl rfl (by omega) (by omega) (by omega) (Nat.le_refl _) ?_))
  intro w1 hu1 hg1
  have hb1 : Below w3.heap.size w3 w1 := (Below.refl _ _).grown hg1 (Nat.le_refl _) (by simp)
  clear hg1
  go_wp2_with fail
  go_loopw [27] (fun i wr => ∃ (k : Nat) (out : List Int), k ≤ L ∧ i = .int .i64 k ∧ U wr w3.heap.size (.slice (some ⟨w3.heap.size, 0, none⟩) (L + M) (L + M)) out ∧ Far (MidP (words a) (words b) out k 0 0 0) ∧ Far (Below w3.heap.size w3 wr))
    (fun i _ => L - (intOf i).toNat)
  case atStart =>
    refine ⟨0, _, Nat.zero_le _, rfl, hu1, ⟨⟨?_, by simp [hLL, hMM]⟩⟩, ⟨hb1⟩⟩
    have e : List.replicate (L + M) (0 : Int) ++ [0] = List.replicate (L + M + 1) 0 := by rw [List.replicate_succ']
    rw [e]
    exact ⟨by simp [hLL, hMM], IsW.zeros _, fun j _ => by simp [List.getD_eq_getElem?_getD, List.getElem?_replicate]; split <;> rfl, by simp [nv, nv_zeros]⟩
  case round =>
    clear hu1 hb1
    obtain ⟨i, out, hi, rfl, hu, hm, hb⟩ := hrel
    have hsz := hb.out.size
    by_cases hlt : i < L
    · obtain ⟨x, hx⟩ : ∃ x, (words a).getD i 0 = x := ⟨_, rfl⟩
      have bx := (isW_words a).get i
      rw [hx] at bx
      replace hx := Far.mk hx
      replace hm := Far.mk (hm.out.open x)
      go_wp2_with fail
      go_loopw [8, 32] (fun cy j wr => ∃ (k : Nat) (out : List Int) (y : Int), k ≤ M ∧ cy = .int .u64 y ∧ j = .int .i64 k ∧ (0 ≤ y ∧ y < 4294967296) ∧ U wr w3.heap.size (.slice (some ⟨w3.heap.size, 0, none⟩) (L + M) (L + M)) out ∧ Far (MidP (words a) (words b) out i k x y) ∧ Far (Below w3.heap.size w3 wr))
        (fun _ j _ => M - (intOf j).toNat)
      case atStart => exact ⟨0, out, 0, Nat.zero_le _, rfl, rfl, by omega, hu, hm, hb⟩
      case round =>
        clear hu hm hb hsz
        obtain ⟨k, out, y, hk, rfl, rfl, hy, hu, hm, hb⟩ := hrel
        have hsz := hb.out.size
        have hlen : out.length = L + M := by rw [hm.out.len, hLL, hMM]
        by_cases hkl : k < M
        · obtain ⟨z, hz⟩ : ∃ x, (words b).getD k 0 = x := ⟨_, rfl⟩
          have bz := (isW_words b).get k
          rw [hz] at bz
          obtain ⟨o, ho, hco, hfo⟩ := hu.cell hlen (j := i + k) (by omega)
          have bo := hm.out.isW.get (i + k)
          rw [ho] at bo
          obtain ⟨ad, rfl, x', hx', hc1⟩ := (hR1.out.below hb.out).get (j := i) (by omega)
          obtain rfl := hx'.trans hx.out
          obtain ⟨ad2, rfl, z', hz', hc2⟩ := (hR2.out.below hb.out).get (j := k) (by omega)
          obtain rfl := hz'.trans hz
          have hxz0 : 0 ≤ x' * z' := Int.mul_nonneg bx.1 bz.1
          have hxz1 : x' * z' ≤ 18446744065119617025 := by
            have h1 := Int.mul_le_mul (show x' ≤ 4294967295 by omega) (show z' ≤ 4294967295 by omega) bz.1 (by decide)
            omega
          have st := Far.mk (hm.out.step (by omega) (by omega) hz ho bx bz bo hy rfl)
          replace hz := Far.mk hz
          replace ho := Far.mk ho
          clear hx' hz'
          have hset := fun q => (hu.drewN q).set hlen (i + k) ((x' * z' + o + y) % 4294967296)
          go_wp2_with fail
          go_quiet (fail)
          go_wp2_with fail
          go_roundw
          case rel => exact ⟨k + 1, _, (x' * z' + o + y) / 4294967296, by omega, rfl, by go_num, by omega, hset _, st, ⟨(below_drawn hb.out).setCell (Nat.le_refl _) _⟩⟩
          case measure => simp [intOf] <;> omega
        · have hke : k = M := by omega
          subst hke
          obtain ⟨o, ho, hco, hfo⟩ := hu.cell hlen (j := i + k) (by omega)
          have hset := hu.set hlen (i + k) y
          have st := hm.out
          rw [← hMM] at st
          have st2 := st.shut (by omega) hx.out hy
          rw [hMM] at st2
          replace st2 := Far.mk st2
          clear ho st
          go_wp2_with fail
          go_roundw
          case rel => exact ⟨i + 1, _, by omega, by go_num, hset, st2, ⟨hb.out.setCell (Nat.le_refl _) _⟩⟩
          case measure => simp [intOf] <;> omega
    · have hke : i = L := by omega
      subst hke
      obtain ⟨A', c', e', hR3⟩ := hu.rd
      simp only [Value.slice.injEq] at e'
      obtain ⟨rfl, -, rfl⟩ := e'
      have hlen : out.length = i + M := by rw [hm.out.len, hLL, hMM]
      have hv : nv out = a * b := by
        have h := hm.out
        rw [← hLL] at h
        have := h.last
        rwa [nv_words, nv_words] at this
      have hT := bn_told (n := i + M) hlen hR3 hm.out.isW (by omega) (by rw [hv]; exact hmax)
      rw [hv] at hT
      replace hT := Far.mk hT
      go_wp2_with fail
      with_reducible refine hT.out.mono ?_
      rintro x w4 ⟨rfl, hw, hR5⟩
      replace hw := hw.symm
      subst hw
      replace hR5 := Far.mk hR5
      go_wp2_with fail
      go_ret2
      exact ⟨_, _, rfl, hR5.out, hB0.out.trans (hb.out.mono hs3)⟩
end Nv
end Go.Proofs.YtdpbpdhamekcdaaGreatDoor
namespace Go.Proofs.YtdpbpdhamekcdaaGreatDoor
open Go.RowKit
namespace Nv

set_option maxRecDepth 100000 in
theorem bn_small {l : List Int} {A : Option Addr} {n c d : Nat} {D : Int} {w : World} (hnl : l.length = n) (hr : Rd w A c l) (hW : IsW l) (hn : l.length ≤ 100000) (hDd : D = (d : Int)) (hd : 0 < d) (hd2 : d < 4294967296) :
    Calls Tryz.prog 143 #[.slice A n c, .int .u32 D] w fun e w' => ∃ c', e = .returned (.tuple #[.slice (some ⟨w.heap.size, 0, none⟩) (words (nv l / d)).length c', .int .u32 (nv l % d : Nat)]) ∧ Rd w' (some ⟨w.heap.size, 0, none⟩) c' (words (nv l / d)) ∧ Below w.heap.size w w' := by
  subst hnl
  subst hDd
  have HR := Far.mk hr
  have hl := nv_lt hW
  have hg := nv_get hW
  obtain ⟨N, hN⟩ : ∃ N, nv l = N := ⟨_, rfl⟩
  rw [hN] at hg hl ⊢
  have F0 : Part N d l.length l.length 0 (List.replicate l.length 0) := ⟨by simp, IsW.zeros _, by rw [nv_zeros, Nat.div_eq_of_lt hl]; simp, by rw [Nat.div_eq_of_lt hl]; simp⟩
  have HW := Far.mk hW
  clear hr hW
  replace hg := Far.mk hg
  replace hN := Far.mk hN
  replace F0 := Far.mk F0
  replace hl := Far.mk hl
  go_enter Tryz.func143, Tryz.ntmps143
  go_wp2_with (at_make; go_must (refine make_words rfl _ _ rfl w.heap.size _ _ l.length rfl rfl (by omega) (by omega) (by omega) (Nat.le_refl _) ?_))
  intro w1 hu1 hg1
  have hb1 : Below w.heap.size w w1 := (Below.refl _ _).grown hg1 (Nat.le_refl _) (by simp)
  clear hg1
  go_wp2
  go_loopw [7, 8] (fun r i wr => ∃ (t : Nat) (y : Int) (q : List Int), t ≤ l.length ∧ r = .int .u64 y ∧ i = .int .i64 ((t : Int) - 1) ∧ (0 ≤ y ∧ y < d) ∧ U wr w.heap.size (.slice (some ⟨w.heap.size, 0, none⟩) l.length l.length) q ∧ Far (Part N d l.length t y q) ∧ Far (Below w.heap.size w wr))
    (fun _ i _ => (intOf i + 1).toNat)
  case atStart => exact ⟨l.length, 0, _, Nat.le_refl _, rfl, by go_num, by omega, hu1, F0, ⟨hb1⟩⟩
  case round =>
    clear hu1 hb1 F0
    obtain ⟨t, y, q, ht, rfl, rfl, hy, hq, hm, hb⟩ := hrel
    have hsz := hb.out.size
    by_cases ht0 : 0 < t
    · obtain ⟨k, rfl⟩ : ∃ k, t = k + 1 := ⟨t - 1, by omega⟩
      have ek : ((k + 1 : Nat) : Int) - 1 = (k : Int) := by omega
      rw [ek]
      obtain ⟨ad, rfl, x, hx, hc1⟩ := (HR.out.below hb.out).get (j := k) (by omega)
      have bx : 0 ≤ x ∧ x < 4294967296 := by rw [hx]; exact HW.out.get _
      have hor : bits .or .u64 (y * 4294967296) x = y * 4294967296 + x := bits_join .u64 64 (by decide) (fun n h1 h2 => wrapU64_eq h1 (by omega)) 32 _ _ (by omega) (by omega) (by omega) bx.1 (by omega) (by omega)
      obtain ⟨o, ho, hco, hfo⟩ := hq.cell hm.out.len (j := k) (by omega)
      have hpq : (y * 4294967296 + x) / (d : Int) < 4294967296 := Int.ediv_lt_of_lt_mul (by omega) (by
        have := Int.mul_le_mul_of_nonneg_right (show y + 1 ≤ (d : Int) by omega) (show (0 : Int) ≤ 4294967296 by decide)
        rw [Int.add_mul, Int.mul_comm (d : Int)] at this
        omega)
      have hpq0 : 0 ≤ (y * 4294967296 + x) / (d : Int) := Int.ediv_nonneg (by omega) (by omega)
      have hpr := Int.emod_nonneg (y * 4294967296 + x) (show (d : Int) ≠ 0 by omega)
      have hpr2 := Int.emod_lt_of_pos (y * 4294967296 + x) (show (0 : Int) < d by omega)
      have st := Far.mk (hm.out.step hd (by omega) (hx.trans (hg.out k)) rfl hpq)
      have hset := hq.set hm.out.len k ((y * 4294967296 + x) / (d : Int))
      have ht1 : Int.tdiv (y * 4294967296 + x) d = (y * 4294967296 + x) / (d : Int) := Int.tdiv_eq_ediv_of_nonneg (by omega)
      have ht2 : Int.tmod (y * 4294967296 + x) d = (y * 4294967296 + x) % (d : Int) := Int.tmod_eq_emod_of_nonneg (by omega)
      replace hx := Far.mk hx
      clear ho
      go_wp2
      go_roundw
      case rel => exact ⟨k, _, _, by omega, rfl, by go_num, ⟨hpr, hpr2⟩, hset, st, ⟨hb.out.setCell (Nat.le_refl _) _⟩⟩
      case measure => simp [intOf] <;> omega
    · have ht0' : t = 0 := by omega
      subst ht0'
      have hv := hm.out.val
      have hre := hm.out.rest
      rw [Nat.pow_zero, Nat.div_one] at hv hre
      replace hre := Far.mk hre
      rw [Nat.mul_one] at hv
      obtain ⟨A3, c3, e3, hR3⟩ := hq.rd
      simp only [Value.slice.injEq] at e3
      obtain ⟨rfl, -, rfl⟩ := e3
      have hlen := hm.out.len
      have hN' := bcut hlen hR3 hm.out.isW (by omega)
      rw [hv] at hN'
      replace hN' := Far.mk hN'
      have hml : ((N % d : Nat) : Int) % 4294967296 = ((N % d : Nat) : Int) := by
        have := Nat.mod_lt N hd
        omega
      go_wp2_with fail
      with_reducible refine hN'.out.mono ?_
      rintro x w3 ⟨rfl, hw, hR4⟩
      replace hw := hw.symm
      subst hw
      replace hR4 := Far.mk hR4
      go_wp2_with fail
      go_ret2
      rw [← hre.out]
      exact ⟨_, rfl, hR4.out, hb.out⟩
theorem Rd.grown {w w' : World} {g c : Nat} {l : List Int} {row : Option Nat} (h : Rd w (some ⟨g, 0, none⟩) c l) (hg : w.grownBy w' row) (hne : row ≠ some g) : Rd w' (some ⟨g, 0, none⟩) c l := ⟨h.1, h.2.1, fun j hj => by
  obtain ⟨ad, e, hc⟩ := h.2.2 j hj
  cases e
  refine ⟨_, rfl, ?_⟩
  have eb : ((⟨g, 0, none⟩ : Addr).add j).block = g := by simp only [Addr.add]; split <;> rfl
  have hlt := World.block_lt_of_cell? w _ hc
  rw [eb] at hlt
  exact (World.cell?_of_block (w := w) (a := (⟨g, 0, none⟩ : Addr).add j) (by rw [eb]; exact hg.block g hlt (fun e => hne e.symm))).trans hc⟩
set_option maxRecDepth 100000 in
theorem sl_Reverse {L : List UInt8} {g cap : Nat} {w0 w : World} (hg1 : w0.heap.size ≤ g) (hlen : L.length ≤ 100000) (hB : B8 w w0.heap.size (.slice (some ⟨g, 0, none⟩) L.length cap) L) (hb : Below w0.heap.size w0 w) :
    Calls Tryz.prog 144 #[.slice (some ⟨g, 0, none⟩) L.length cap] w fun x w' => x = .returned (.tuple #[]) ∧ B8 w' w0.heap.size (.slice (some ⟨g, 0, none⟩) L.length cap) L.reverse ∧ Below w0.heap.size w0 w' := by
  replace hb := Far.mk hb
  go_enter Tryz.func144, Tryz.ntmps144
  go_wp2_with fail
  go_loopw [2, 3] (fun i j wr => ∃ (k : Nat) (l : List UInt8), k ≤ L.length / 2 ∧ i = .int .i64 k ∧ j = .int .i64 ((L.length : Int) - 1 - k) ∧ B8 wr w0.heap.size (.slice (some ⟨g, 0, none⟩) L.length cap) l ∧ Far (Turn L l k) ∧ Far (Below w0.heap.size w0 wr))
    (fun i _ _ => L.length / 2 - (intOf i).toNat)
  case atStart => exact ⟨0, L, Nat.zero_le _, rfl, by go_num, hB, ⟨rfl, fun j hj => by rw [if_neg (by omega)]⟩, hb⟩
  case round =>
    clear hB hb
    obtain ⟨k, l', hk, rfl, rfl, hB, ht, hb⟩ := hrel
    have hsz := hb.out.size
    by_cases hlt : k < L.length / 2
    · have ej : (L.length : Int) - 1 - k = ((L.length - 1 - k : Nat) : Int) := by omega
      obtain ⟨x, hx, hc1, hf1⟩ := hB.cell ht.out.len (j := k) (by omega)
      obtain ⟨y, hy, hc2, hf2⟩ := hB.cell ht.out.len (j := L.length - 1 - k) (by omega)
      have st := ht.out.step hlt
      rw [hx, hy] at st
      have hset := (hB.set ht.out.len k y).set (by rw [List.length_set]; exact ht.out.len) (L.length - 1 - k) x
      replace st := Far.mk st
      clear hx hy
      rw [ej]
      go_wp2_with fail
      go_region
      go_wp2_with fail
      go_roundw
      case rel => exact ⟨k + 1, _, by omega, by go_num, by go_num, hset, st, ⟨below_drew ((hb.out.setCell hg1 _).setCell hg1 _)⟩⟩
      case measure => simp [intOf] <;> omega
    · have hsh := ht.out.shut (by omega) hk
      subst hsh
      go_wp2_with fail
      go_returns
      exact ⟨rfl, hB, hb.out⟩
set_option maxRecDepth 100000 in
set_option maxHeartbeats 800000 in
theorem bn_Text {l : List Int} {A : Option Addr} {n c r : Nat} {R : Int} {w : World} (hnl : l.length = n) (hr : Rd w A c l) (hW : IsW l) (hn : l.length ≤ 1024) (hRr : R = (r : Int)) (hr2 : 2 ≤ r) (hr36 : r ≤ 36) :
    Calls Tryz.prog 82 #[.slice A n c, .int .i64 R] w fun e w' => e = .returned (.tuple #[.string ⟨(digs r (nv l)).toArray⟩, .int .i64 0]) ∧ Below w.heap.size w w' := by
  subst hRr
  have hmax : (words (nv l)).length ≤ 1024 := Nat.le_trans (words_len (nv_lt hW)) hn
  have hL := Far.mk (bn_long1 (t := 73) (Sh.of hnl hr hW (by omega) hmax))
  have hC := Far.mk (fun W (h : Below w.heap.size w W) => bcut (w := W) hnl (hr.below h) hW (by omega))
  have hlt := lt_len (nv l)
  clear hr hW hnl hn
  generalize nv l = N at *
  have hdl := rdigs_len2 hr2 hlt
  clear hlt
  have hB0 := (Below.refl w.heap.size w).alloc (Nat.le_refl _) (.cells #[.slice A n c] 73)
  replace hB0 := Far.mk hB0
  go_enter Tryz.func82, Tryz.ntmps82
  go_wp2_with fail
  with_reducible refine hL.out.mono ?_
  rintro x w3 ⟨rfl, hw⟩
  replace hB0 : Far (Below w.heap.size w w3) := ⟨by rw [hw]; exact hB0.out⟩
  clear hw hL
  go_wp2_with fail
  with_reducible refine (hC.out _ hB0.out).mono ?_
  rintro x w5 ⟨rfl, hw, hR⟩
  replace hw := hw.symm
  subst hw
  replace hR := Far.mk hR
  have hs3 := hB0.out.size
  clear hC
  by_cases h0 : N = 0
  · subst h0
    rw [words_zero] at *
    go_wp2_with fail
    go_ret2
    exact ⟨rfl, hB0.out⟩
  · have hNl : (words N).length ≠ 0 := fun e => h0 (words_len_zero.1 e)
    have hNz : (((words N).length : Int) == 0) = false := by simp; exact fun e => h0 (words_nil.1 e)
    go_wp2_with fail
    go_loopg [0, 6, 7, 8, 26] N (fun M a v _ _ _ wr => ∃ (A : Option Addr) (c : Nat) (pre : List UInt8), a = .slice A (words M).length c ∧ Far (Rd wr A c (words M)) ∧ B8 wr w.heap.size v pre ∧ pre.length ≤ 32768 ∧ (words M).length ≤ 1024 ∧ Far (pre ++ rdigs r M = rdigs r N) ∧ Far (Below w.heap.size w wr))
    case atStart => exact ⟨A, _, [], rfl, hR, B8.nil _ _, by simp, hmax, ⟨rfl⟩, hB0⟩
    case round =>
      clear hR hB0 hs3
      obtain ⟨A, c, pre, rfl, hR, hB, hpl, hml, hp, hb⟩ := hrel
      have hsz := hb.out.size
      by_cases hM : 0 < gk
      · have hne : (words gk).length ≠ 0 := fun e => by have := words_len_zero.1 e; omega
        have e := rdigs_pos hr2 hM
        have hp' := hp.out
        rw [e] at hp'
        have hS := bn_small (n := (words gk).length) (D := (r : Int)) rfl hR.out (isW_words _) (by omega) rfl (by omega) (by omega)
        rw [nv_words] at hS
        replace hS := Far.mk hS
        have hml2 : (words (gk / r)).length ≤ 1024 := Nat.le_trans (words_len (Nat.lt_of_le_of_lt (Nat.div_le_self _ _) (lt_len gk))) hml
        have hmr : gk % r < r := Nat.mod_lt _ (by omega)
        have hdv : gk / r < gk := Nat.div_lt_self hM (by omega)
        have hplen : pre.length + 1 ≤ 32768 := by
          have h1 := congrArg List.length hp'
          rw [List.length_append, List.length_cons] at h1
          have := hdl
          omega
        replace hp' := Far.mk hp'
        clear e hp
        obtain ⟨z, hz⟩ : ∃ z, gk % r = z := ⟨_, rfl⟩
        rw [hz] at hS hp' hmr
        have hown := fun k hk => (World.ownsRow.lt hB k hk).2
        go_wp2_with fail
        with_reducible refine hS.out.mono ?_
        rintro e w3 ⟨c3, rfl, hR3, hb3⟩
        have hs3 := hb3.size
        replace hB := hB.keep hb3
        have hbw := hb.out.trans (hb3.mono hsz)
        clear hS hb hb3 hR
        go_wp2_with (at_builtin; go_must (refine append_byte rfl _ _ rfl w.heap.size rfl (hB.alloc _) rfl rfl rfl (by omega) (by omega) ?_))
        intro v5 w5 hB5 hg5
        have hb5 := below_grown hbw (by omega) hB (Nat.le_refl _) hg5
        rw [show _ = dg z from abc_dg ⟨z, by omega⟩] at hB5 hg5
        have hR5 := Far.mk (((hR3.below ((Below.refl _ _).alloc (Nat.le_refl _) (.cells #[.int .u8 ((dg z).toNat : Int)] 5)))).grown hg5 (fun e => by have := hown _ e; omega))
        have hpz : Far ((pre ++ [dg z]) ++ rdigs r (gk / r) = rdigs r N) := ⟨by rw [List.append_assoc]; exact hp'.out⟩
        clear hR3 hg5 hB hbw hown
        go_wp2_with fail
        go_roundg (gk / r)
        case measure => exact hdv
        case rel => first | exact ⟨_, _, pre ++ [dg z], rfl, hR5, hB5, by simp; omega, hml2, hpz, ⟨hb5⟩⟩ | ((repeat apply Exists.intro); exact ⟨⟨_, _, pre ++ [dg z], rfl, hR5, hB5, by simp; omega, hml2, hpz, ⟨hb5⟩⟩, rfl⟩)
      · have hM0 : gk = 0 := by omega
        subst hM0
        have hp' := hp.out
        rw [rdigs_zero, List.append_nil] at hp'
        subst hp'
        have hpos : 0 < (rdigs r N).length := by rw [rdigs_pos hr2 (by omega)]; simp
        rw [words_zero] at *
        obtain ⟨g, cap, rfl, hg1, hg2⟩ := hB.form hpos
        have hfin : digs r N = (rdigs r N).reverse := by unfold digs; rw [if_neg h0]
        replace hfin := Far.mk hfin
        clear hR hp
        generalize rdigs r N = L at *
        have hRv := Far.mk (sl_Reverse hg1 (by omega) hB hb.out)
        clear hB hb
        go_wp2_with fail
        with_reducible refine hRv.out.mono ?_
        rintro e w6 ⟨rfl, hB6, hb6⟩
        have hcv := run_string_own (P := Tryz.prog) w6 51 9 5 _ hB6 Tryz.underlying51 Tryz.underlying5 Tryz.underlying9
        have hl6 : L.reverse.length = L.length := List.length_reverse
        go_wp2_with fail
        go_ret2
        rw [hfin.out]
        exact ⟨rfl, hb6⟩
end Nv
end Go.Proofs.YtdpbpdhamekcdaaGreatDoor
