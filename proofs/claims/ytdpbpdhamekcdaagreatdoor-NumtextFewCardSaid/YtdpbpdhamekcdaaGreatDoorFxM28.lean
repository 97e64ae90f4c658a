/-
  A contract of bignum.step: a divisor is taken away so many times, or once less, in a row's window. Conditions: the guess is the digit or one more. Plain laws of long division: the divisor moved so that its first bit stands; what is begun with. No program in sight. The shelf's contracts that this claim's walks use, laid at this program by the kit's own commands (lay-shelf, lay-plain), cut to what is used. No condition of its own.
-/
import Derived.Test.YtdpbpdhamekcdaaGreatDoorFxM27
import Derived.ArgAppend
import Derived.Lib.BitFns
import Derived.Shelf.Strings.Builder1
import Derived.Shelf.Strings.Builder2
import Derived.Shelf.Strings.Trim
import Derived.Shelf.Small.Utf8
import Derived.Shelf.Small.Bits
import Derived.Shelf.Small.Strs
import Derived.Shelf.Strings.BuilderF
import Derived.Shelf.Strconv.Atoi
import Derived.Shelf.Strconv.Itoa0
import Derived.Shelf.Strconv.Itoa1
import Derived.Shelf.LaysM
import Derived.Shelf.Strconv.Itoa2
import Derived.Shelf.Strconv.Itoa3
import Derived.Shelf.Strings.Search1
import Derived.Shelf.Strings.Search2
import Derived.Shelf.Strings.Search3
import Derived.Shelf.Strings.Cut
import Derived.Shelf.Strings.Count
import Derived.Shelf.Strings.Shaped
import Derived.Shelf.Strings.Prefix
import Derived.Shelf.Strings.Split
import Derived.Shelf.Strings.Replace
import Derived.Shelf.Strings.Runes
import Derived.Shelf.Strings.IndexAny
import Derived.Shelf.Strings.AsciiSet
import Derived.Shelf.Strings.IndexAnyAll
import Derived.Shelf.Bits.Mul64
import Derived.Shelf.Strings.Repeat
import Derived.Shelf.Unicode.DecodeSlow
import Derived.Shelf.SlicesE.Clone
import Derived.Test.YtdpbpdhamekcdaaGreatDoorProg
namespace Go.Proofs.YtdpbpdhamekcdaaGreatDoor
open Go.RowKit
namespace Us
open Nv

/-- append(v, words..) where there is no room. -/
theorem append_full {w : World} {ops : Array Oper} {rest : List Oper} {o : Oper} {a : Act} {Q : Exit → Act → World → Prop} (hgd : o.guard = none) (s x : Operand)
    (ho : o.op = .call { callee := .builtin .append, args := #[s, x], argTypes := #[73, 73] }) {A : Option Addr} {ad : Addr} {n m c : Nat} {l news : List Int}
    (hs : a.eval s = .slice A n n) (hR : Rd w A n l) (hn : l.length = n) (hx : a.eval x = .slice (some ad) m c) (hR2 : Rd w (some ad) c news) (hm : news.length = m) (hpos : 0 < m) (hlen : n + m ≤ 4000000)
    (h : ∀ v' w', U w' w.heap.size v' (l ++ news) → w.grownBy w' none → wpList Tryz.prog ops Q rest (a.put o.dst v') w') : wpList Tryz.prog ops Q (o :: rest) a w := by
  obtain ⟨i0, hi, hz0, hz1, hz2⟩ := info_parts info_w
  refine wpList_append_grows w hgd s x 73 ho 22 i0 (.int .u32 0) 1 4 Tryz.underlying73 hi hz0 hz1 hz2 rfl (by decide) A n n (l.map (.int .u32)) hs (fun e => by have := hR.2.1 e; omega) (by simp [hn]) (fun b e => by subst e; exact news_of hR)
    ad m c (news.map (.int .u32)) hx (by simp [hm]) (news_of hR2) (one_cells news) (by omega) (by unfold maxLen; omega) (by omega) fun v' w' h2 h3 => h v' w' ?_ h3
  unfold U
  rw [List.length_append, List.map_append, hn, hm]
  exact h2
/-- All blocks but one are as they were. -/
def Oth (b : Nat) (w w' : World) : Prop := ∀ k, k ≠ b → w'.heap[k]? = w.heap[k]?
theorem Oth.refl (b : Nat) (w : World) : Oth b w w := fun _ _ => rfl
theorem Oth.trans {b : Nat} {w1 w2 w3 : World} (h : Oth b w1 w2) (k : Oth b w2 w3) : Oth b w1 w3 := fun i hi => (k i hi).trans (h i hi)
theorem Oth.set {b k : Nat} {w w' : World} (h : Oth b w w') (v : Value) : Oth b w (w'.setCell ⟨b, k, none⟩ v) := fun i hi => (heap_setCell_other w' ⟨b, k, none⟩ i v hi).trans (h i hi)
theorem Oth.drawn {b n : Nat} {w w' : World} (h : Oth b w w') : Oth b w (w'.drewN n) := h
theorem add_block (ad : Addr) (j : Nat) : (ad.add j).block = ad.block := by simp only [Addr.add]; split <;> rfl
theorem Oth.rd {b c : Nat} {w w' : World} {A : Option Addr} {l : List Int} (h : Oth b w w') (hR : Rd w A c l) (hA : ∀ ad, A = some ad → ad.block ≠ b) : Rd w' A c l := ⟨hR.1, hR.2.1, fun j hj => by
  obtain ⟨ad, e, hc⟩ := hR.2.2 j hj
  exact ⟨ad, e, (World.cell?_of_block (w := w) (a := ad.add j) (by rw [add_block]; exact h _ (hA ad e))).trans hc⟩⟩
set_option maxRecDepth 100000 in
set_option maxHeartbeats 1600000 in
theorem bn_step {l : List Int} {V b j n T g cc cu : Nat} {Av : Option Addr} {cv : Nat} {w0 w : World} (hb0 : w0.heap.size ≤ b) (hU : U w w0.heap.size (.slice (some ⟨b, 0, none⟩) T cu) l) (hT : l.length = T) (hTm : T ≤ 100000) (hj : j + (n + 1) ≤ T) (hW : IsW l)
    (hRv : Rd w Av cv (Nv.words V)) (hn : (Nv.words V).length = n) (hV0 : 0 < V) (hg : g ≤ 4294967296) (hg1 : nv ((l.drop j).take (n + 1)) / V ≤ g) (hg2 : (g - 1) * V ≤ nv ((l.drop j).take (n + 1))) (hb : Below w0.heap.size w0 w) (hbv : ∀ ad, Av = some ad → ad.block ≠ b) :
    Calls Tryz.prog 241 #[.slice (some ⟨b, j, none⟩) (n + 1) cc, .slice Av n cv, .int .u64 (g : Int)] w fun x w' => ∃ (out : List Int) (d : Nat), x = .returned (.int .u64 (d : Int)) ∧ U w' w0.heap.size (.slice (some ⟨b, 0, none⟩) T cu) out ∧ Stepped l out V j n d ∧ Below w0.heap.size w0 w' ∧ Oth b w w' := by
  have hVt : nv ((Nv.words V).take (n + 1)) = V := by rw [List.take_of_length_le (by omega), nv_words]
  have hRv' : Far (∀ W, Oth b w W → Rd W Av cv (Nv.words V)) := ⟨fun W h => h.rd hRv hbv⟩
  replace hb := Far.mk hb
  replace hW := Far.mk hW
  replace hg1 := Far.mk hg1
  replace hg2 := Far.mk hg2
  replace hVt := Far.mk hVt
  clear hRv hbv
  go_enter Tryz.func241, Tryz.ntmps241
  go_wp2_with fail
  go_loopw [7, 8, 16] (fun bo cy i wr => ∃ (k : Nat) (out : List Int) (bb c : Int), k ≤ n + 1 ∧ i = .int .i64 k ∧ bo = .int .u64 bb ∧ cy = .int .u64 c ∧ U wr w0.heap.size (.slice (some ⟨b, 0, none⟩) T cu) out ∧ Far (Taken l (Nv.words V) out g j k bb c) ∧ (0 ≤ bb ∧ bb ≤ 1) ∧ (0 ≤ c ∧ c < 4294967296) ∧ Far (n < k → c = 0) ∧ Far (Below w0.heap.size w0 wr) ∧ Far (Oth b w wr))
    (fun _ _ i _ => n + 1 - (intOf i).toNat)
  case atStart => exact ⟨0, l, 0, 0, Nat.zero_le _, rfl, rfl, rfl, hU, ⟨⟨rfl, hW.out, fun _ _ => rfl, by simp [nv]⟩⟩, by omega, by omega, ⟨fun _ => rfl⟩, hb, ⟨Oth.refl _ _⟩⟩
  case round =>
    clear hU hb
    obtain ⟨k, out, bb, c, hk, rfl, rfl, rfl, hU, hm, hbb, hc, hc0, hb, hO⟩ := hrel
    have hlen : out.length = T := by rw [hm.out.len, hT]
    by_cases hlt : k < n + 1
    · obtain ⟨x, hx, hcx, hfx⟩ := hU.cell hlen (j := j + k) (by omega)
      have hxl := (hm.out.low (j + k) (by omega)).symm.trans hx
      have bx := hm.out.isW.get (j + k)
      rw [hx] at bx
      obtain ⟨y, hy⟩ : ∃ y, (Nv.words V).getD k 0 = y := ⟨_, rfl⟩
      have by' := (isW_words V).get k
      rw [hy] at by'
      have hgy0 : 0 ≤ (g : Int) * y := Int.mul_nonneg (by omega) by'.1
      have hgy1 : (g : Int) * y ≤ 4294967296 * 4294967295 := Int.mul_le_mul (by omega) (by omega) by'.1 (by decide)
      obtain ⟨st, hp0, hp1, hp2, hp3⟩ := hm.out.step (p := (g : Int) * y + c) (d := x - ((g : Int) * y + c) % 4294967296 - bb) (by omega) hxl hy bx by' hbb hc hg rfl rfl
      have hc0' : Far (n < k + 1 → ((g : Int) * y + c) / 4294967296 = 0) := ⟨fun h => by
        have hy0 : y = 0 := by
          rw [← hy, List.getD_eq_getElem?_getD, List.getElem?_eq_none (by omega)]
          rfl
        rw [hy0, Int.mul_zero]
        omega⟩
      have hA := Far.mk (bn_at (w := wr) (J := (k : Int)) k y hy rfl hn (hRv'.out _ hO.out) (isW_words V))
      obtain ⟨D, hD, hD0, hD1, hD2⟩ := sub_word (x1 := x) (x2 := ((g : Int) * y + c) % 4294967296) bx (by omega) hbb
      rw [← hD1, ← hD2] at st
      have hset := hU.set hlen (j + k) (D % 4294967296)
      have hDb : 0 ≤ D / 9223372036854775808 ∧ D / 9223372036854775808 ≤ 1 := by omega
      replace st := Far.mk st
      replace hD := Far.mk hD
      clear hD1 hD2 hx hxl hy hm
      go_wp2_with fail
      with_reducible refine hA.out.mono ?_
      rintro e w5 ⟨rfl, hw⟩
      replace hw := hw.symm
      subst hw
      go_wp2_with fail
      rw [hD.out]
      go_roundw
      case rel => exact ⟨k + 1, _, _, _, by omega, by go_num, rfl, rfl, hset, st, hDb, ⟨hp0, hp1⟩, hc0', ⟨hb.out.setCell hb0 _⟩, ⟨hO.out.set _⟩⟩
      case measure => simp [intOf] <;> omega
    · have hke : k = n + 1 := by omega
      subst hke
      obtain rfl := hc0.out (by omega)
      by_cases hb1 : bb = 0
      · subst hb1
        have hS := Far.mk (hm.out.end0 hVt.out hV0 hg1.out)
        go_wp2_with fail
        go_ret
        exact ⟨out, g, rfl, hU, hS.out, hb.out, hO.out⟩
      · obtain rfl : bb = 1 := by omega
        clear hb1
        go_wp2_with fail
        go_loopw [8, 52] (fun cy i wq => ∃ (k : Nat) (out2 : List Int) (c : Int), k ≤ n + 1 ∧ i = .int .i64 k ∧ cy = .int .u64 c ∧ U wq w0.heap.size (.slice (some ⟨b, 0, none⟩) T cu) out2 ∧ Far (Given out (Nv.words V) out2 j k c) ∧ (0 ≤ c ∧ c ≤ 1) ∧ Far (Below w0.heap.size w0 wq) ∧ Far (Oth b w wq))
          (fun _ i _ => n + 1 - (intOf i).toNat)
        case atStart => exact ⟨0, out, 0, Nat.zero_le _, rfl, rfl, hU, ⟨⟨rfl, hm.out.isW, fun _ _ => rfl, by simp [nv]⟩⟩, by omega, hb, hO⟩
        case round =>
          clear hU hb hO
          obtain ⟨k, out2, c, hk2, rfl, rfl, hU, hm2, hc2, hb, hO⟩ := hrel
          have hlen2 : out2.length = T := by rw [hm2.out.len, hlen]
          by_cases hlt2 : k < n + 1
          · obtain ⟨x, hx, hcx, hfx⟩ := hU.cell hlen2 (j := j + k) (by omega)
            have hxl := (hm2.out.low (j + k) (by omega)).symm.trans hx
            have bx := hm2.out.isW.get (j + k)
            rw [hx] at bx
            obtain ⟨y, hy⟩ : ∃ y, (Nv.words V).getD k 0 = y := ⟨_, rfl⟩
            have by' := (isW_words V).get k
            rw [hy] at by'
            obtain ⟨st, hq0, hq1⟩ := hm2.out.step (p := x + y + c) (by omega) hxl hy bx by' hc2 rfl
            have hA := Far.mk (fun W (h : Oth b w W) => bn_at (w := W) (J := (k : Int)) k y hy rfl hn (hRv'.out _ h) (isW_words V))
            replace st := Far.mk st
            clear hx hxl hy
            have hO2 : ∀ q, Far (Oth b w (Go.World.drewN _ q)) := fun q => ⟨hO.out.drawn (n := q)⟩
            have hset := fun q => (hU.drewN q).set hlen2 (j + k) ((x + y + c) % 4294967296)
            go_wp2_with fail
            go_quiet (exact Calls.quiet_of_same (hA.out _ (by first | exact hO.out | exact hO.out.drawn)))
            go_wp2_with fail
            go_roundw
            case rel => exact ⟨k + 1, _, (x + y + c) / 4294967296, by omega, by go_num, by first | rfl | go_num, hset _, st, ⟨hq0, hq1⟩, ⟨(below_drawn hb.out).setCell hb0 _⟩, ⟨(hO2 _).out.set _⟩⟩
            case measure => simp [intOf] <;> omega
          · have hke : k = n + 1 := by omega
            subst hke
            have hVl : V < 4294967296 ^ n := by have := lt_len V; rwa [hn] at this
            obtain ⟨hg0, hS⟩ := Given.end1 hm.out hm2.out hc2 hW.out hVt.out hg2.out
            have hS' := Far.mk hS
            have hgi : (g : Int) - 1 = ((g - 1 : Nat) : Int) := by omega
            clear hS
            go_wp2_with fail
            go_ret
            exact ⟨out2, g - 1, by rw [← hgi]; rfl, hU, hS'.out, hb.out, hO.out⟩
end Us
end Go.Proofs.YtdpbpdhamekcdaaGreatDoor
namespace Go.Proofs.YtdpbpdhamekcdaaGreatDoor
namespace Us
open Nv
theorem lead0 {t : Nat} (h1 : 1 ≤ t) (h2 : t < 4294967296) : ∃ s : Nat, 32 - (Lib.bitLen t : Int) = (s : Int) ∧ s < 32 ∧ 2147483648 ≤ t * 2 ^ s ∧ (t + 1) * 2 ^ s ≤ 4294967296 := by
  have hL : t.log2 < 32 := (Nat.log2_lt (show t ≠ 0 by omega)).2 (by rw [show (2 : Nat) ^ 32 = 4294967296 by decide]; exact h2)
  have a : 2 ^ t.log2 ≤ t := Nat.log2_self_le (by omega)
  have b : t < 2 ^ (t.log2 + 1) := Nat.lt_log2_self
  have e := Lib.bitLen_shift t.log2 t a (by rw [show (2 : Nat) ^ 64 = 18446744073709551616 by decide]; omega)
  have q : t / 2 ^ t.log2 = 1 := by
    apply Nat.div_eq_of_lt_le
    · rw [Nat.one_mul]; exact a
    · rw [Nat.pow_succ, Nat.mul_comm] at b; exact b
  rw [q, show Lib.bitLen 1 = 1 by decide] at e
  obtain ⟨k, hk⟩ : ∃ k, t.log2 = k := ⟨_, rfl⟩
  rw [hk] at a b e hL
  refine ⟨31 - k, by omega, by omega, ?_, ?_⟩
  · have := Nat.mul_le_mul_right (2 ^ (31 - k)) a
    rw [← Nat.pow_add, show k + (31 - k) = 31 by omega] at this
    exact this
  · have := Nat.mul_le_mul_right (2 ^ (31 - k)) (show t + 1 ≤ 2 ^ (k + 1) by omega)
    rw [← Nat.pow_add, show k + 1 + (31 - k) = 32 by omega] at this
    exact this
/-- The moved divisor: as many words, the first one's first bit stands. -/
theorem normed {b n t s : Nat} (hn : (Nv.words b).length = n + 2) (ht : (Nv.words b).getD (n + 1) 0 = (t : Int)) (h3 : 2147483648 ≤ t * 2 ^ s) (h4 : (t + 1) * 2 ^ s ≤ 4294967296) :
    (Nv.words (b * 2 ^ s)).length = n + 2 ∧ 2147483648 ≤ ((Nv.words (b * 2 ^ s)).getD (n + 1) 0).toNat ∧ 4294967296 ^ n ≤ b * 2 ^ s ∧ b * 2 ^ s < 4294967296 ^ (n + 2) := by
  have hl := lt_len b
  rw [hn] at hl
  have htt : t = b / 4294967296 ^ (n + 1) := by
    rw [words_get] at ht
    have : b / 4294967296 ^ (n + 1) < 4294967296 := by
      apply Nat.div_lt_of_lt_mul
      rw [← Nat.pow_succ]
      exact hl
    rw [Nat.mod_eq_of_lt this] at ht
    omega
  have hP := Nat.pow_pos (n := n + 1) (show 0 < 4294967296 by decide)
  have dm := Nat.div_add_mod b (4294967296 ^ (n + 1))
  have ml := Nat.mod_lt b hP
  rw [← htt] at dm
  have lo : 2147483648 * 4294967296 ^ (n + 1) ≤ b * 2 ^ s := by
    have h5 : t * 4294967296 ^ (n + 1) ≤ b := by rw [Nat.mul_comm]; omega
    have h6 := Nat.mul_le_mul_right (2 ^ s) h5
    have h7 := Nat.mul_le_mul_right (4294967296 ^ (n + 1)) h3
    rw [Nat.mul_right_comm] at h6
    exact Nat.le_trans h7 h6
  have hi : b * 2 ^ s < 4294967296 ^ (n + 2) := by
    have h5 : b < (t + 1) * 4294967296 ^ (n + 1) := by rw [Nat.add_mul, Nat.one_mul, Nat.mul_comm t]; omega
    have h6 := Nat.mul_lt_mul_of_pos_right h5 (Nat.two_pow_pos s)
    rw [Nat.mul_right_comm] at h6
    have h7 := Nat.mul_le_mul_right (4294967296 ^ (n + 1)) h4
    rw [Nat.pow_succ 4294967296 (n + 1), Nat.mul_comm (4294967296 ^ (n + 1))]
    omega
  have hlen : (Nv.words (b * 2 ^ s)).length = n + 2 := by
    apply Nat.le_antisymm (words_len hi)
    rcases Nat.lt_or_ge (Nv.words (b * 2 ^ s)).length (n + 2) with g | g
    · have h5 := lt_len (b * 2 ^ s)
      have h6 : 4294967296 ^ (Nv.words (b * 2 ^ s)).length ≤ 4294967296 ^ (n + 1) := Nat.pow_le_pow_right (by decide) (by omega)
      omega
    · exact g
  refine ⟨hlen, ?_, ?_, hi⟩
  · rw [words_get, Int.toNat_natCast]
    have h5 : b * 2 ^ s / 4294967296 ^ (n + 1) < 4294967296 := by
      apply Nat.div_lt_of_lt_mul
      rw [← Nat.pow_succ]
      exact hi
    rw [Nat.mod_eq_of_lt h5, Nat.le_div_iff_mul_le hP]
    exact lo
  · refine Nat.le_trans ?_ lo
    rw [Nat.pow_succ]
    omega
/-- What the rounds begin with. -/
theorem Divd.first {A V n K : Nat} (hV : 4294967296 ^ n ≤ V) (hK : (Nv.words A).length + 2 = n + 2 + K) : Divd A V (n + 2) K (Nv.words A ++ [0, 0]) (List.replicate K 0) := by
  refine ⟨IsW.append (isW_words A) (by intro a ha; simp at ha; omega), IsW.zeros _, ?_, fun t _ => ?_, ?_, by simp; omega⟩
  · rw [nv_zeros, Nat.zero_mul, Nat.zero_add, nv_append, nv_words]
    simp [nv]
  · rw [List.getD_eq_getElem?_getD, List.getElem?_replicate]
    split <;> rfl
  · rw [List.drop_append_of_le_length (by omega), nv_append]
    have h1 := nv_lt (IsW.drop (isW_words A) K)
    rw [List.length_drop] at h1
    have h2 : 4294967296 ^ ((Nv.words A).length - K) ≤ 4294967296 ^ n := Nat.pow_le_pow_right (by decide) (by omega)
    simp only [nv, Int.toNat_zero, Nat.mul_zero, Nat.add_zero]
    omega
theorem shift_div {a b s : Nat} : a * 2 ^ s / (b * 2 ^ s) = a / b ∧ a * 2 ^ s % (b * 2 ^ s) / 2 ^ s = a % b := by
  have h := Nat.two_pow_pos s
  refine ⟨Nat.mul_div_mul_right _ _ h, ?_⟩
  rw [Nat.mul_mod_mul_right, Nat.mul_div_cancel _ h]
end Us
end Go.Proofs.YtdpbpdhamekcdaaGreatDoor
namespace Go.Proofs.YtdpbpdhamekcdaaGreatDoor
open Go.Shelf Go.Proofs
def lays133_ren : Go.Shelf.Ren := ⟨fun | 133 => 240 | 128 => 206 | n => n, fun | 51 => 22 | 3 => 3 | 4 => 4 | 46 => 108 | 5 => 5 | 9 => 9 | n => n, fun | n => n⟩
theorem lays133 : Go.Proofs.Lays.n133 Tryz.prog lays133_ren := {
  mixed := by kernel_rfl
  f128 := Tryz.func206.trans (congrArg some (by kernel_rfl))
  f133 := Tryz.func240.trans (congrArg some (by kernel_rfl))
  t3 := Tryz.underlying3
  a3 := Tryz.isAgg3
  z3 := Tryz.sizeOf3
  v3 := Tryz.zeroValue3
  t4 := Tryz.underlying4
  a4 := Tryz.isAgg4
  z4 := Tryz.sizeOf4
  v4 := Tryz.zeroValue4
  t5 := Tryz.underlying5
  a5 := Tryz.isAgg5
  z5 := Tryz.sizeOf5
  v5 := Tryz.zeroValue5
  t9 := Tryz.underlying9
  a9 := Tryz.isAgg9
  z9 := Tryz.sizeOf9
  v9 := Tryz.zeroValue9
  t46 := Tryz.underlying108
  a46 := Tryz.isAgg108
  z46 := Tryz.sizeOf108
  v46 := Tryz.zeroValue108
  t51 := Tryz.underlying22
  a51 := Tryz.isAgg22
  z51 := Tryz.sizeOf22
  v51 := Tryz.zeroValue22 }
theorem bits_LeadingZeros32 (x : Int) (w : World) (h0 : 0 ≤ x) (h1 : x ≤ 4294967295) :
    Calls Tryz.prog 240 #[.int .u32 x] w fun e w' => e = .returned (.int .i64 (32 - (Lib.bitLen x.toNat : Int))) ∧ w' = w := Any.bits_LeadingZeros32 lays133 x w h0 h1
def laysSlE041_f137_ren : Go.Shelf.Ren := ⟨fun | 41 => 137 | n => n, fun | 22 => 73 | 23 => 22 | 4 => 4 | n => n, fun | n => n⟩
theorem laysSlE041_f137 : Go.Proofs.SlLaysE0.n41 Tryz.prog laysSlE041_f137_ren := {
  mixed := by kernel_rfl
  f41 := ⟨Tryz.f137.name, by decide, Tryz.func137.trans (congrArg some (by kernel_rfl))⟩
  t4 := Tryz.underlying4
  a4 := Tryz.isAgg4
  z4 := Tryz.sizeOf4
  v4 := Tryz.zeroValue4
  t22 := Tryz.underlying73
  a22 := Tryz.isAgg73
  z22 := Tryz.sizeOf73
  v22 := Tryz.zeroValue73 }
open Go.RowKit Go.Lib in
theorem slices_Clone (i0 : TypeInfo) (z : Value) (size bytes : Nat) (hi : Tryz.prog.info? 22 = some i0) (hz0 : i0.zero = some z) (hz1 : i0.size = size) (hz2 : i0.bytes = bytes) (hzs : z.cells.size = size) (hsz : 0 < size) (z23 : ∀ w, (Go.sizeOf 22).run Tryz.prog w = .ok size w) (b off n c : Nat) (news : List Value) (w : World) (hl : news.length = n * size) (hn : n ≤ maxLen) (hbig : n * bytes ≤ 140737488355328) (hc : ∀ j u, news[j]? = some u → w.cell? ⟨b, off + j, none⟩ = some u) (h1 : ∀ u ∈ news, u.oneCell' = true) :
    Calls Tryz.prog 137 #[.slice (some ⟨b, off, none⟩) n c] w fun e w' => ∃ v', e = .returned v' ∧ w'.ownsRow w.heap.size 22 size v' n news ∧ v' ≠ .slice none 0 0 ∧ Below w.heap.size w w' := AnyE.slices_Clone laysSlE041_f137 i0 z size bytes hi hz0 hz1 hz2 hzs hsz z23 b off n c news w hl hn hbig hc h1
open Go.RowKit Go.Lib in
theorem slices_Clone_nil (n c : Nat) (w : World) :
    Calls Tryz.prog 137 #[.slice none n c] w fun e w' => e = .returned (.slice none 0 0) ∧ w' = w := AnyE.slices_Clone_nil laysSlE041_f137 n c w
end Go.Proofs.YtdpbpdhamekcdaaGreatDoor
