/-
  What is known of the machine on the way through the law of hidden names, and how it goes on. No condition.
-/
import Derived.Test.YtngodcoefmihlaaGreatDoorEvAny
namespace Go.Proofs.YtngodcoefmihlaaGreatDoor
open Go.RowKit

/-- On the way: c environments, the last of at most j names; what was told last of the name asked for. -/
structure Hides (w : World) (m h B : Nat) (kn : Value × Value) (ask : ByteArray) (c j : Nat) (U : Int) (want : Nat) (sm : Bool) (v : Value) (E : List EnvR) (used : Int) (W : World) : Prop where
  mach : EvM m h B 1048576 v kn E used W
  known : KnAt W kn.1
  bel : Below w.heap.size w W
  big : B ≤ W.heap.size
  len : E.length = c
  chain : Chain E
  siz : ∀ (n : Nat) (r : EnvR), E[n]? = some r → r.l.length ≤ 100 ∧ (n + 1 = c → r.l.length ≤ j)
  k3 : ∀ r ∈ E, K3 r.l
  u0 : 0 ≤ used
  u1 : used ≤ U
  som : sm = (look ask (E.map (·.l))).isSome
  tel : ∀ f, look ask (E.map (·.l)) = some f → want = f ∧ FloatKind.f64.format.order f f = some .eq
section
variable {w : World} {m h B : Nat} {kn : Value × Value} {ask : ByteArray} {c j : Nat} {U : Int} {want : Nat} {sm : Bool} {v : Value} {E : List EnvR} {used : Int} {W W' : World}
theorem Hides.go (x : Hides w m h B kn ask c j U want sm v E used W) (k : Below W.heap.size W W') : Hides w m h B kn ask c j U want sm v E used W' :=
  { x with mach := x.mach.below k, known := x.known.below k, bel := below_via k x.bel x.bel.size, big := Nat.le_trans x.big k.size }
theorem Kept.trans {w W W' : World} (a : Kept w W) (b : Kept W W') : Kept w W' := ⟨Nat.le_trans a.1 b.1, fun k cs t h0 n1 n2 n3 => b.2 k cs t (a.2 k cs t h0 n1 n2 n3) n1 n2 n3⟩
theorem Hides.wide {j' : Nat} {U' : Int} (x : Hides w m h B kn ask c j U want sm v E used W) (hj : j ≤ j') (hU : U ≤ U') : Hides w m h B kn ask c j' U' want sm v E used W :=
  { x with siz := fun n r hr => ⟨(x.siz n r hr).1, fun hn => Nat.le_trans ((x.siz n r hr).2 hn) hj⟩, u1 := Int.le_trans x.u1 hU }
theorem Hides.sizes (x : Hides w m h B kn ask c j U want sm v E used W) : Sizes E := fun r hr => by
  obtain ⟨n, hn⟩ := List.getElem?_of_mem hr
  have := (x.siz n r hn).1
  omega
theorem Hides.next (x : Hides w m h B kn ask c j U want sm v E used W) {v2 nv : Value} (hM : EvM m h B 1048576 v2 kn (E ++ [⟨(c : Int) - 1, nv, []⟩]) (used + 1) W') (hB : Below w.heap.size w W') (hK : Kept W W') :
    Hides w m h B kn ask (c + 1) 0 (U + 1) want sm v2 (E ++ [⟨(c : Int) - 1, nv, []⟩]) (used + 1) W' := by
  have hlk : look ask ((E ++ [(⟨(c : Int) - 1, nv, []⟩ : EnvR)]).map (·.l)) = look ask (E.map (·.l)) := by
    rw [List.map_append]
    show look ask (_ ++ [[]]) = _
    rw [look_app]
    simp [bfind]
  have cases : ∀ (n : Nat) (r : EnvR), (E ++ [⟨(c : Int) - 1, nv, []⟩])[n]? = some r → (n < c ∧ E[n]? = some r) ∨ (n = c ∧ r = ⟨(c : Int) - 1, nv, []⟩) := by
    intro n r hr
    have hl := x.len
    rcases Nat.lt_trichotomy n c with h1 | h1 | h1
    · rw [List.getElem?_append_left (by omega)] at hr
      exact .inl ⟨h1, hr⟩
    · rw [List.getElem?_append_right (by omega), show n - E.length = 0 by omega] at hr
      exact .inr ⟨h1, by simpa using hr.symm⟩
    · rw [List.getElem?_eq_none (by simp; omega)] at hr
      cases hr
  refine ⟨hM, x.known.kept hK, hB, Nat.le_trans x.big hK.1, by simp [x.len], ?_, ?_, ?_, by have := x.u0; omega, by have := x.u1; omega, by rw [hlk]; exact x.som, by rw [hlk]; exact x.tel⟩
  · intro n r hr
    rcases cases n r hr with ⟨_, h1⟩ | ⟨h1, rfl⟩
    · exact x.chain n r h1
    · subst h1
      rfl
  · intro n r hr
    rcases cases n r hr with ⟨h0, h1⟩ | ⟨h1, rfl⟩
    · exact ⟨(x.siz n r h1).1, fun h2 => by omega⟩
    · exact ⟨by simp, fun _ => by simp⟩
  · intro r hr
    rcases List.mem_append.1 hr with hr | hr
    · exact x.k3 r hr
    · simp at hr
      subst hr
      intro b hb
      cases hb
theorem set_last {E : List EnvR} {n : Nat} {r : EnvR} (hr : E[n]? = some r) (hn : n + 1 = E.length) : ∃ E0 : List EnvR, E0.length = n ∧ E = E0 ++ [r] ∧ ∀ r', E.set n r' = E0 ++ [r'] := by
  obtain ⟨h1, h2⟩ := List.getElem?_eq_some_iff.1 hr
  refine ⟨E.take n, by simp; omega, ?_, fun r' => ?_⟩
  · conv => lhs; rw [← List.take_append_drop n E]
    rw [List.drop_eq_getElem_cons h1, h2, List.drop_of_length_le (by omega)]
  · rw [List.set_eq_take_append_cons_drop, if_pos h1, List.drop_of_length_le (by omega)]
theorem Hides.put (x : Hides w m h B kn ask c j U want sm v E used W) (hj : j < 100) {n : Nat} {r : EnvR} (hn : n + 1 = c) (hr : E[n]? = some r) {nv : Value} (nm : ByteArray) (f : Nat) (hf : FloatKind.f64.format.order f f = some .eq) {u2 : Int} (hu : used ≤ u2 ∧ u2 ≤ used + 1)
    (hM : EvM m h B 1048576 v kn (E.set n ⟨r.outer, nv, bset nm f (badd nm r.l)⟩) u2 W') (hB : Below w.heap.size w W') (hK : Kept W W') :
    Hides w m h B kn ask c (j + 1) (U + 1) (if (nm.toList == ask.toList) = true then f else want) ((nm.toList == ask.toList) || sm) v (E.set n ⟨r.outer, nv, bset nm f (badd nm r.l)⟩) u2 W' := by
  obtain ⟨E0, hl0, hE, hS⟩ := set_last hr (by rw [x.len]; exact hn)
  have hsz := x.siz n r hr
  have hup := upd_len nm f r.l
  have hlk : look ask ((E.set n (⟨r.outer, nv, bset nm f (badd nm r.l)⟩ : EnvR)).map (·.l)) = if (nm.toList == ask.toList) = true then some f else look ask (E.map (·.l)) := by
    rw [hS, hE, List.map_append, List.map_append]
    show look ask (_ ++ [_]) = if _ then _ else look ask (_ ++ [_])
    rw [look_app, look_app]
    split
    · rename_i h
      rw [upd_same nm ask f r.l h]
      rfl
    · rename_i h
      rw [upd_other nm ask f r.l (by simpa using h)]
  have cases : ∀ (k : Nat) (q : EnvR), (E.set n ⟨r.outer, nv, bset nm f (badd nm r.l)⟩)[k]? = some q → (k ≠ n ∧ E[k]? = some q) ∨ (k = n ∧ q = ⟨r.outer, nv, bset nm f (badd nm r.l)⟩) := by
    intro k q hq
    have hnl : n < E.length := (List.getElem?_eq_some_iff.1 hr).1
    by_cases h1 : k = n
    · subst h1
      rw [List.getElem?_set_self hnl] at hq
      exact .inr ⟨rfl, by simpa using hq.symm⟩
    · rw [List.getElem?_set_ne (by omega)] at hq
      exact .inl ⟨h1, hq⟩
  refine ⟨hM, x.known.kept hK, hB, Nat.le_trans x.big hK.1, by simp [x.len], ?_, ?_, ?_, by have := x.u0; omega, by have := x.u1; omega, ?_, ?_⟩
  · intro k q hq
    rcases cases k q hq with ⟨_, h1⟩ | ⟨h1, rfl⟩
    · exact x.chain k q h1
    · subst h1
      exact x.chain k r hr
  · intro k q hq
    rcases cases k q hq with ⟨h0, h1⟩ | ⟨h1, rfl⟩
    · exact ⟨(x.siz k q h1).1, fun h2 => by omega⟩
    · have := hsz.2 hn
      show (bset nm f (badd nm r.l)).length ≤ 100 ∧ (_ → (bset nm f (badd nm r.l)).length ≤ _)
      exact ⟨by omega, fun _ => by omega⟩
  · intro q hq
    obtain ⟨k, hk⟩ := List.getElem?_of_mem hq
    rcases cases k q hk with ⟨_, h1⟩ | ⟨_, rfl⟩
    · exact x.k3 q (List.mem_of_getElem? h1)
    · exact K3.upd nm f r.l (x.k3 r (List.mem_of_getElem? hr))
  · rw [hlk]
    split
    · rename_i h
      simp [h]
    · rename_i h
      rw [← x.som]
      simp [h]
  · rw [hlk]
    intro g hg
    split at hg
    · have hg : f = g := by simpa using hg
      subst hg
      rename_i h
      rw [if_pos h]
      exact ⟨rfl, hf⟩
    · rename_i h
      rw [if_neg h]
      exact x.tel g hg
end
end Go.Proofs.YtngodcoefmihlaaGreatDoor
