/-
  A list of names copied; where a list of names has a name. Conditions: the list lies in memory.
-/
import Derived.Test.YtngodcoefmihlaaGreatDoorEvData
import Derived.Lib.Hide
import Derived.Outline
import Derived.Deep.DeepMust
import Derived.Deep.AppendLies
import Derived.Shelf.SlicesE.Kit
namespace Go.Proofs.YtngodcoefmihlaaGreatDoor
open Go.RowKit

/-- .. in blocks from a number on. -/
def NamesFrom (b : Nat) (W : World) (v : Value) (l : List Bnd) : Prop := W.ownsRow b 143 8 v l.length (bflat l)
theorem NamesFrom.at {b : Nat} {W : World} {v : Value} {l : List Bnd} (h : NamesFrom b W v l) : NamesAt W v l := owns_le h (Nat.zero_le _)
theorem info_bnd : (Tryz.prog.info? 143).map (fun i => (i.zero, i.size, i.bytes)) = some (some (.agg #[.string ⟨#[]⟩, .int .i64 0, .bool false, .float .f64 0, .string ⟨#[]⟩, .int .i64 0, .bool false, .bool false]), 8, 72) := by kernel_rfl
set_option maxHeartbeats 1000000 in
set_option maxRecDepth 100000 in
theorem Clone_bndF (l : List Bnd) (v : Value) (w : World) (hl : l.length ≤ 1048576) (hN : NamesAt w v l) : Calls Tryz.prog 174 #[v] w fun e w' => ∃ v', e = .returned v' ∧ NamesFrom w.heap.size w' v' l ∧ Below w.heap.size w w' := by
  obtain ⟨i0, hi, hz0, hz1, hz2⟩ := info_parts info_bnd
  rcases hN.form with ⟨rfl, rfl⟩ | ⟨g, c, rfl, hg, hat⟩
  · have he : ∀ w : World, (binOp .eql 136 (.slice none 0 0) (.slice none 0 0)).run Tryz.prog w = .ok (.bool true) w := fun _ => by kernel_rfl
    go_enter Tryz.func174, Tryz.ntmps174
    go_wp2
    go_ret
    exact ⟨_, rfl, World.ownsRow_nil _ _ _ _, Below.refl _ _⟩
  · have he : ∀ (w : World) (n : Nat), (binOp .eql 136 (.slice (some ⟨g, 0, none⟩) n c) (.slice none 0 0)).run Tryz.prog w = .ok (.bool false) w := fun w n => Lib.run_eql_slice_nil w _ _ _ _ _ _ _ Tryz.underlying136
    have hcell : ∀ j u, (bflat l)[j]? = some u → w.cell? ⟨g, j, none⟩ = some u := fun j u hu => by
      have e : j = j / 8 * 8 + j % 8 := by omega
      rw [e, bflat_get l _ _ (Nat.mod_lt _ (by decide))] at hu
      rw [e]
      exact hat _ _ u (Nat.mod_lt _ (by decide)) hu
    have HC := Lib.hid hcell
    clear hcell hat
    go_enter Tryz.func174, Tryz.ntmps174
    go_wp2_with (at_builtin; refine wpList_append_own _ rfl _ _ 136 rfl w.heap.size 143 i0 _ 8 72 Tryz.underlying136 hi hz0 hz1 hz2 rfl (by decide) _ _ _ rfl (World.ownsRow_made w #[] 0 (Nat.le_refl _) (Nat.zero_le _) (by simp)) ⟨g, 0, none⟩ l.length c (bflat l) rfl ?qc1 ?qc2 ?qc3 ?qc4 ?qc5 ?qc6 ?_)
    case qc1 => exact bflat_len l
    case qc2 =>
      intro j u hj
      rw [Addr.add_lit, Nat.zero_add]
      exact Lib.cell?_alloc_some _ (HC.out j u hj)
    case qc3 => exact bflat_one l
    case qc4 => unfold maxLen; omega
    case qc5 => omega
    case qc6 => simp
    intro v' w1 hown hgrow hnil
    go_wp2
    go_ret
    refine ⟨v', rfl, (show w1.ownsRow _ _ _ _ _ _ by simpa using hown), ?_⟩
    exact ((Below.refl _ w).alloc (Nat.le_refl _) _).grown hgrow (by simp) (by intro k hk; simp [Value.ownBlock] at hk; omega)

theorem place_q (cp : Nat) (nm : ByteArray) (b : Bnd) (w : World) (hc : HasB w cp #[.string nm] 9) :
    Calls Tryz.prog 136 #[.agg (bcells b).toArray, .pointer (some ⟨cp, 0, none⟩)] w fun e w' => e = .returned (.bool (b.nm.toList == nm.toList)) ∧ Below w.heap.size w w' := by
  have q0 := hc.cell 0
  have hlt := hc.lt
  clear hc
  go_enter Tryz.func136, Tryz.ntmps136
  go_wp2
  go_ret
  exact ⟨rfl, by go_grown⟩

/-- Kept out of the walk's sight. -/
def Aft (p : Prop) : Prop := p
theorem Aft.out {p : Prop} (h : Aft p) : p := h
/-- Where a name stands. -/
def bix (nm : ByteArray) : List Bnd → Option Nat
  | [] => none
  | b :: r => if b.nm.toList == nm.toList then some 0 else (bix nm r).map (· + 1)
theorem bix_hit (nm : ByteArray) : ∀ (l : List Bnd) (k : Nat), k < l.length → (l[k]!.nm.toList == nm.toList) = true → (∀ j, j < k → (l[j]!.nm.toList == nm.toList) = false) → bix nm l = some k
  | [], k, hk, _, _ => absurd hk (Nat.not_lt_zero _)
  | b :: r, 0, _, h, _ => by
    have h : (b.nm.toList == nm.toList) = true := h
    simp [bix, h]
  | b :: r, k + 1, hk, h, hj => by
    have h0 : (b.nm.toList == nm.toList) = false := hj 0 (by omega)
    have := bix_hit nm r k (by simpa using hk) (by simpa using h) (fun j hlt => by simpa using hj (j + 1) (by omega))
    simp [bix, h0, this]
theorem bix_miss (nm : ByteArray) : ∀ (l : List Bnd), (∀ j, j < l.length → (l[j]!.nm.toList == nm.toList) = false) → bix nm l = none
  | [], _ => rfl
  | b :: r, hj => by
    have h0 : (b.nm.toList == nm.toList) = false := hj 0 (by simp)
    have := bix_miss nm r (fun j hlt => by simpa using hj (j + 1) (by simpa using hlt))
    simp [bix, h0, this]
def bplace (nm : ByteArray) (l : List Bnd) : Int := match bix nm l with | none => -1 | some i => i
set_option maxHeartbeats 2000000 in
set_option maxRecDepth 100000 in
theorem IndexFunc_bnd (l : List Bnd) (v : Value) (cp : Nat) (nm : ByteArray) (w : World) (hl : l.length ≤ 1048576) (hN : NamesAt w v l) (hc : HasB w cp #[.string nm] 9) :
    Calls Tryz.prog 135 #[v, .func (.func 136) #[] #[.pointer (some ⟨cp, 0, none⟩)]] w fun e w' => e = .returned (.int .i64 (bplace nm l)) ∧ Below w.heap.size w w' := by
  rcases hN.form with ⟨rfl, rfl⟩ | ⟨g, c, rfl, hg, hat⟩
  · clear hN hc hl
    go_enter Tryz.func135, Tryz.ntmps135
    go_wp2_with fail
    go_rounds 1
    go_ret
    exact ⟨rfl, Below.refl _ _⟩
  · have HA := Lib.hid hat
    have HC := Lib.hid hc
    clear hat hc hN
    go_enter Tryz.func135, Tryz.ntmps135
    go_wp2_with fail
    go_loopw [5, 8] (fun _ s8 wr => ∃ k : Nat, k ≤ l.length ∧ s8 = .int .i64 k ∧ Aft (Below w.heap.size w wr) ∧ Aft (∀ j, j < k → (l[j]!.nm.toList == nm.toList) = false))
      (fun _ s8 _ => l.length - (intOf s8).toNat)
    case atStart => exact ⟨0, Nat.zero_le _, rfl, Below.refl _ w, fun j hj => absurd hj (Nat.not_lt_zero _)⟩
    case round =>
      obtain ⟨k, hk, rfl, BW, A⟩ := hrel
      by_cases hlt : k < l.length
      · have hget : l[k]? = some l[k]! := by rw [List.getElem?_eq_getElem hlt, getElem!_pos l k hlt]
        have hcell : ∀ i u, i < 8 → (bcells l[k]!)[i]? = some u → wr.cell? ⟨g, k * 8 + i, none⟩ = some u := fun i u hi hu => by
          rw [BW.out.cell (p := ⟨g, k * 8 + i, none⟩) hg]
          exact HA.out k i u hi (by rw [hget]; exact hu)
        have q0 : wr.cell? ⟨g, k * 8, none⟩ = some (.string l[k]!.nm) := hcell 0 _ (by omega) rfl
        have q1 := hcell 1 _ (by omega) rfl
        have q2 := hcell 2 _ (by omega) rfl
        have q3 := hcell 3 _ (by omega) rfl
        have q4 := hcell 4 _ (by omega) rfl
        have q5 := hcell 5 _ (by omega) rfl
        have q6 := hcell 6 _ (by omega) rfl
        have q7 := hcell 7 _ (by omega) rfl
        have hq := place_q cp nm l[k]! wr (HC.out.below BW.out)
        clear hcell
        generalize hy : l[k]! = y at q0 q1 q2 q3 q4 q5 q6 q7 hq
        have YB : Aft (l[k]! = y) := hy
        clear hy hget
        have hki : (k : Int) < (l.length : Int) := by omega
        cases hb : (y.nm.toList == nm.toList) with
        | true =>
          rw [hb] at hq
          go_wp2_with (go_at_call 136; refine hq.mono ?_; rintro e w' ⟨rfl, hb'⟩)
          go_ret
          have := bix_hit nm l k hlt (by rw [YB.out]; exact hb) A.out
          exact ⟨by simp [bplace, this], below_via hb' BW.out BW.out.size⟩
        | false =>
          rw [hb] at hq
          go_wp2_with (go_at_call 136; refine hq.mono ?_; rintro e w' ⟨rfl, hb'⟩)
          go_roundw
          case measure => simp [intOf]; omega
          case rel =>
            refine ⟨k + 1, by omega, by go_num, below_via hb' BW.out BW.out.size, fun j hj => ?_⟩
            by_cases e : j = k
            · subst e
              rw [YB.out]; exact hb
            · exact A.out j (by omega)
      · have hke : k = l.length := by omega
        subst hke
        go_wp2
        go_ret
        have := bix_miss nm l A.out
        exact ⟨by simp [bplace, this], BW.out⟩
end Go.Proofs.YtngodcoefmihlaaGreatDoor
