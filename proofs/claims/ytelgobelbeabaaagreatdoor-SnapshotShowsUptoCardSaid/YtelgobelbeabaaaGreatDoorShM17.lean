/-
  A value of the language, handed in by value: what its reading as data gives (its five parts), for every reading. No condition.
-/
import Derived.Test.YtelgobelbeabaaaGreatDoorShM4
import Derived.ProofKit
import Derived.Deep.Fields
import Derived.Laws.Cover2
namespace Go.Proofs.YtelgobelbeabaaaGreatDoor
open Go.ChangeShapes Go.WideShapes Go.RowKit Go.Deep

theorem cellsOf_val : Tryz.prog.cellsOf 24 = 5 := by kernel_rfl
theorem fields_val : ∃ f0 f1 f2 f3 f4 : Field, Tryz.prog.underlying 24 = some (.struct #[f0, f1, f2, f3, f4]) ∧ oneCellFields Tryz.prog #[f0, f1, f2, f3, f4] = true ∧ f0.type = 3 ∧ f1.type = 4 ∧ f2.type = 22 ∧ f3.type = 9 ∧ f4.type = 3 :=
  ⟨_, _, _, _, _, Tryz.underlying24, by kernel_rfl, rfl, rfl, rfl, rfl, rfl⟩
theorem trod_float {H : Type} {enc : TypeId × Value → H} {P : Program} {w : World} {base : Nat} {spare : Nat → Bool} {held : Bool} {t : TypeId} {k : FloatKind} {fuel : Nat} {cs : List Value} {x : DataW H × List MemPlace}
    (ht : P.underlying t = some (.float k)) (h : DataW.trod enc P w base spare held fuel t cs = some x) : ∃ n, cs = [.float k n] ∧ x = (.lit (.float k n), []) ∧ (Lit.float k n).wf = true := by
  cases fuel with
  | zero => simp [DataW.trod] at h
  | succ n =>
    unfold DataW.trod at h
    rw [ht] at h
    split at h <;> simp_all

theorem open_val_of {H : Type} {P : Program} {T ti tb tf ts : TypeId} {f0 f1 f2 f3 f4 : Field} {enc : TypeId × Value → H} {w : World} {base : Nat} {spare : Nat → Bool} {held : Bool} {r : Reach} {b0 : Nat} {v : Value} {d : DataW H} {p : List MemPlace}
    (hC : P.cellsOf T = 5) (hs : P.underlying T = some (.struct #[f0, f1, f2, f3, f4])) (hone : oneCellFields P #[f0, f1, f2, f3, f4] = true)
    (t0 : f0.type = ti) (t1 : f1.type = tb) (t2 : f2.type = tf) (t3 : f3.type = ts) (t4 : f4.type = ti) (u0 : P.underlying ti = some (.int .i64)) (u1 : P.underlying tb = some .bool) (u2 : P.underlying tf = some (.float .f64)) (u3 : P.underlying ts = some .string)
    (hv : Value.okWide P w r b0 T v) (h : DataW.Trod enc P w base spare held T v d p) :
    ∃ (k : Int) (b : Bool) (n : Nat) (s : ByteArray) (o : Int), v = val k b n s o ∧ p = [] ∧ s.size ≤ maxLen ∧ (Lit.int .i64 k).wf = true ∧ (Lit.float .f64 n).wf = true ∧ (Lit.int .i64 o).wf = true := by
  obtain ⟨cs, rfl, hsz⟩ := okWide_struct hs hv
  obtain ⟨l⟩ := cs
  match l, hsz.trans hC with
  | [c0, c1, c2, c3, c4], _ =>
    obtain ⟨fuel, hf⟩ := h
    obtain ⟨xs, n, _, hx, _, hlen, hg⟩ := DataW.trod_struct hs hf
    match xs, hlen with
    | [y0, y1, y2, y3, y4], _ =>
      have part : ∀ (i : Nat) (f : Field) (c : Value), #[f0, f1, f2, f3, f4][i]? = some f → [c0, c1, c2, c3, c4][i]? = some c → DataW.trod enc P w base spare held n f.type [c] = [y0, y1, y2, y3, y4][i]? := fun i f c hi hc => by
        obtain ⟨ho, hk⟩ := hone_of hone i f hi
        have g := hg i f hi
        rw [ho, hk] at g
        have hil : i < 5 := (Array.getElem?_eq_some_iff.1 hi).1
        have e : ((Value.agg #[c0, c1, c2, c3, c4]).cells.toList.drop i).take 1 = [c] := by
          match i, hil, hc with
          | 0, _, hc => simpa [Value.cells] using hc
          | 1, _, hc => simpa [Value.cells] using hc
          | 2, _, hc => simpa [Value.cells] using hc
          | 3, _, hc => simpa [Value.cells] using hc
          | 4, _, hc => simpa [Value.cells] using hc
        rw [e] at g
        exact g
      have g0 := part 0 f0 c0 rfl rfl
      have g1 := part 1 f1 c1 rfl rfl
      have g2 := part 2 f2 c2 rfl rfl
      have g3 := part 3 f3 c3 rfl rfl
      have g4 := part 4 f4 c4 rfl rfl
      rw [t0] at g0; rw [t1] at g1; rw [t2] at g2; rw [t3] at g3; rw [t4] at g4
      obtain ⟨k, e0, x0, w0⟩ := DataW.trod_int u0 g0
      obtain ⟨b, e1, x1⟩ := DataW.trod_bool u1 g1
      obtain ⟨m, e2, x2, w2⟩ := trod_float u2 g2
      obtain ⟨s, e3, x3, w3⟩ := DataW.trod_string u3 g3
      obtain ⟨o, e4, x4, w4⟩ := DataW.trod_int u0 g4
      simp only [List.cons.injEq, and_true] at e0 e1 e2 e3 e4
      subst e0 e1 e2 e3 e4
      refine ⟨k, b, m, s, o, rfl, ?_, w3, w0, w2, w4⟩
      simp only [Prod.mk.injEq] at hx
      rw [hx.2]
      simp [x0, x1, x2, x3, x4]

set_option maxRecDepth 100000 in
theorem open_val {H : Type} {enc : TypeId × Value → H} {w : World} {base : Nat} {spare : Nat → Bool} {held : Bool} {r : Reach} {b0 : Nat} {v : Value} {d : DataW H} {p : List MemPlace}
    (hv : Value.okWide Tryz.prog w r b0 24 v) (h : DataW.Trod enc Tryz.prog w base spare held 24 v d p) :
    ∃ (k : Int) (b : Bool) (n : Nat) (s : ByteArray) (o : Int), v = val k b n s o ∧ p = [] ∧ s.size ≤ maxLen ∧ (Lit.int .i64 k).wf = true ∧ (Lit.float .f64 n).wf = true ∧ (Lit.int .i64 o).wf = true := by
  obtain ⟨f0, f1, f2, f3, f4, hs, hone, t0, t1, t2, t3, t4⟩ := fields_val
  exact open_val_of (P := Tryz.prog) (T := 24) cellsOf_val hs hone t0 t1 t2 t3 t4 Tryz.underlying3 Tryz.underlying4 Tryz.underlying22 Tryz.underlying9 hv h
end Go.Proofs.YtelgobelbeabaaaGreatDoor
