/-
  A list of the language's values, handed in: what its reading as data gives of each element's cells. No condition.
-/
import Derived.Test.YtpafbjghlgjfcaaGreatDoorOpen
import Derived.Test.YtpafbjghlgjfcaaGreatDoorCleanAll
import Derived.Deep.Slices
namespace Go.Proofs.YtpafbjghlgjfcaaGreatDoor
open Go.ChangeShapes Go.WideShapes Go.RowKit Go.Deep

theorem open_cells_of {H : Type} {P : Program} {T ti tb tf ts : TypeId} {f0 f1 f2 f3 f4 : Field} {enc : TypeId × Value → H} {w : World} {base : Nat} {spare : Nat → Bool} {held : Bool} {fuel : Nat} {cs : List Value} {x : DataW H × List MemPlace}
    (hC : P.cellsOf T = 5) (hs : P.underlying T = some (.struct #[f0, f1, f2, f3, f4])) (hone : oneCellFields P #[f0, f1, f2, f3, f4] = true)
    (t0 : f0.type = ti) (t1 : f1.type = tb) (t2 : f2.type = tf) (t3 : f3.type = ts) (t4 : f4.type = ti) (u0 : P.underlying ti = some (.int .i64)) (u1 : P.underlying tb = some .bool) (u2 : P.underlying tf = some (.float .f64)) (u3 : P.underlying ts = some .string)
    (h : DataW.trod enc P w base spare held fuel T cs = some x) :
    ∃ (k : Int) (b : Bool) (n : Nat) (s : ByteArray) (o : Int), cs = [.int .i64 k, .bool b, .float .f64 n, .string s, .int .i64 o] ∧ s.size ≤ maxLen := by
  obtain ⟨xs, n, _, hx, hcl, hlen, hg⟩ := DataW.trod_struct hs h
  match cs, hcl.trans hC with
  | [c0, c1, c2, c3, c4], _ =>
    match xs, hlen with
    | [y0, y1, y2, y3, y4], _ =>
      have part : ∀ (i : Nat) (f : Field) (c : Value), #[f0, f1, f2, f3, f4][i]? = some f → [c0, c1, c2, c3, c4][i]? = some c → DataW.trod enc P w base spare held n f.type [c] = [y0, y1, y2, y3, y4][i]? := fun i f c hi hc => by
        obtain ⟨ho, hk⟩ := hone_of hone i f hi
        have g := hg i f hi
        rw [ho, hk] at g
        have hil : i < 5 := (Array.getElem?_eq_some_iff.1 hi).1
        have e : ([c0, c1, c2, c3, c4].drop i).take 1 = [c] := by
          match i, hil, hc with
          | 0, _, hc => simpa using hc
          | 1, _, hc => simpa using hc
          | 2, _, hc => simpa using hc
          | 3, _, hc => simpa using hc
          | 4, _, hc => simpa using hc
        rw [e] at g
        exact g
      have g0 := part 0 f0 c0 rfl rfl
      have g1 := part 1 f1 c1 rfl rfl
      have g2 := part 2 f2 c2 rfl rfl
      have g3 := part 3 f3 c3 rfl rfl
      have g4 := part 4 f4 c4 rfl rfl
      rw [t0] at g0; rw [t1] at g1; rw [t2] at g2; rw [t3] at g3; rw [t4] at g4
      obtain ⟨k, e0, x0, w0⟩ := DataW.trod_int u0 g0
      obtain ⟨b, e1, x1⟩ := DataW.trod_bool u1 g1
      obtain ⟨m, e2, x2, w2⟩ := trod_float u2 g2
      obtain ⟨s, e3, x3, w3⟩ := DataW.trod_string u3 g3
      obtain ⟨o, e4, x4, w4⟩ := DataW.trod_int u0 g4
      simp only [List.cons.injEq, and_true] at e0 e1 e2 e3 e4
      subst e0 e1 e2 e3 e4
      exact ⟨k, b, m, s, o, rfl, w3⟩

set_option maxRecDepth 100000 in
theorem open_vals {H : Type} {enc : TypeId × Value → H} {w : World} {base : Nat} {spare : Nat → Bool} {held : Bool} {v : Value} {d : DataW H} {p : List MemPlace}
    (h : DataW.Trod enc Tryz.prog w base spare held 22 v d p) (hv : ∃ a len cap, v = .slice a len cap) :
    (∃ a c, v = .slice a 0 c) ∨ ∃ b off len cap, v = .slice (some ⟨b, off, none⟩) len cap ∧ b < w.heap.size ∧ (∀ i, i < len → ValAt w b off i) ∧ ∃ elems rest : List (DataW H), d = .slice elems rest ∧ elems.length = len := by
  obtain ⟨a0, len0, cap0, rfl⟩ := hv
  obtain ⟨fuel, hf⟩ := h
  have hc0 : (Value.slice a0 len0 cap0).cells.toList = [.slice a0 len0 cap0] := rfl
  rw [hc0] at hf
  rcases DataW.trod_slice Tryz.underlying22 hf with ⟨h1, -⟩ | ⟨a, len, cap, elems, rest, n, -, hcs, hx, hb, -, -, hel, hi, -, -⟩
  · left
    simp only [List.cons.injEq, and_true] at h1
    exact ⟨_, _, h1⟩
  · simp only [List.cons.injEq, and_true] at hcs
    rw [hcs]
    by_cases hl0 : len = 0
    · subst hl0
      exact .inl ⟨_, _, rfl⟩
    · right
      obtain ⟨f0, f1, f2, f3, f4, hs, hone, t0, t1, t2, t3, t4⟩ := fields_val
      have each : ∀ i, i < len → ∃ (k : Int) (b : Bool) (m : Nat) (s : ByteArray) (o : Int), s.size ≤ maxLen ∧ ∀ j, j < 5 → w.cell? ((a.add (i * 5)).add j) = [Value.int .i64 k, .bool b, .float .f64 m, .string s, .int .i64 o][j]? := fun i hil => by
        have h1 := hi i hil
        rw [cellsOf_val] at h1
        have hsome : elems[i]? = some (elems[i]'(by omega)) := List.getElem?_eq_getElem (by omega)
        rw [hsome] at h1
        obtain ⟨cs, hcs, ht⟩ := Option.bind_eq_some_iff.1 h1
        obtain ⟨k, b, m, s, o, rfl, hss⟩ := open_cells_of (P := Tryz.prog) cellsOf_val hs hone t0 t1 t2 t3 t4 Tryz.underlying3 Tryz.underlying4 Tryz.underlying54 Tryz.underlying9 ht
        obtain ⟨_, _, hat⟩ := World.cells?_some hcs
        exact ⟨k, b, m, s, o, hss, fun j hj => hat j hj⟩
      obtain ⟨ab, ao, asp⟩ := a
      obtain ⟨k, b, m, s, o, hss, h5⟩ := each 0 (by omega)
      have hfirst : w.cell? ⟨ab, ao, asp⟩ = some (.int .i64 k) := by simpa [Addr.add] using h5 0 (by omega)
      have hsp : asp = none := by
        cases asp with
        | none => rfl
        | some q =>
          unfold World.cell? at hfirst
          simp at hfirst
          split at hfirst <;> simp at hfirst
      subst hsp
      refine ⟨ab, ao, len, cap, rfl, World.block_lt_of_cell? w _ hfirst, fun i hil => ?_, elems.map (·.1), rest.map (·.1), (Prod.mk.inj hx).1, by rw [List.length_map]; exact hel⟩
      obtain ⟨k, b, m, s, o, hss, h5⟩ := each i hil
      have hadd : ∀ j, ((⟨ab, ao, none⟩ : Addr).add (i * 5)).add j = ⟨ab, ao + i * 5 + j, none⟩ := fun j => by
        rw [Addr.add_lit, Addr.add_lit]
      exact ⟨k, b, m, s, o, hss, by simpa [hadd] using h5 0 (by omega), by simpa [hadd] using h5 1 (by omega), by simpa [hadd] using h5 2 (by omega), by simpa [hadd] using h5 3 (by omega), by simpa [hadd] using h5 4 (by omega)⟩
end Go.Proofs.YtpafbjghlgjfcaaGreatDoor
