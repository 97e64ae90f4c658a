/-
  From the row's laid premises to what the walk of numtext.Text asks of the world; a value's reading and its bulk. No program's function.
-/
import Derived.Test.YtelgobelbeabaaaGreatDoorShM13
import Derived.Test.YtelgobelbeabaaaGreatDoorRows
import Derived.Test.YtelgobelbeabaaaGreatDoorShM17
import Derived.Lib.LaidU8
import Derived.OpenShut
import Derived.ChangeSlices
import Derived.Handed
import Derived.Stop.Joined
import Derived.Shelf.Vars
namespace Go.Proofs.YtelgobelbeabaaaGreatDoor
open Go.RowKit Go.Lib
namespace Us
open Nv

theorem tab_row (i : Nat) (hi : i < 696) : (Go.Pinned.pow10Rows.map fun x => (DataW.agg [.lit (.int .u64 x.1), .lit (.int .u64 x.2)] : DataW Unit))[i]? = some (.agg ([((rowAt ((i : Int) - 348)).1 : Int), ((rowAt ((i : Int) - 348)).2 : Int)].map fun z => .lit (.int .u64 z))) := by
  have hlen : Go.Pinned.pow10Rows.length = 696 := by decide +kernel
  unfold rowAt
  rw [show ((i : Int) - 348 + 348).toNat = i by omega, List.getElem?_map, List.getElem?_eq_getElem (by omega), List.getD_eq_getElem?_getD, List.getElem?_eq_getElem (by omega)]
  rfl
theorem p10_of {w : World} (h : VarReads Tryz.prog w "internal/strconv.pow10Tab" Go.Pinned.pow10Tab) : P10 w := by
  obtain ⟨g, t, cs, fuel, p, hg, hty, hvar, hd⟩ := h
  obtain rfl := Option.some.inj ((show Tryz.prog.globalNamed "internal/strconv.pow10Tab" = some 8 by kernel_rfl).symm.trans hg)
  obtain rfl := Option.some.inj ((show (Tryz.prog.globals[8]?).map (·.type) = some 322 by kernel_rfl).symm.trans hty)
  have key : ∀ i, i < 696 → cs[i * 2]? = some (.int .u64 ((rowAt ((i : Int) - 348)).1 : Nat)) ∧ cs[i * 2 + 1]? = some (.int .u64 ((rowAt ((i : Int) - 348)).2 : Nat)) := fun i hi => by
    obtain ⟨fuel', d, q, h1, h2⟩ := array_elem Tryz.underlying322 hd i hi
    rw [tab_row i hi] at h1
    obtain rfl := Option.some.inj h1
    rw [show Tryz.prog.cellsOf 321 = 2 by kernel_rfl] at h2
    have h3 := ints_of_struct Tryz.underlying321 (fun j f hj => by
      match j, hj with
      | 0, hj => cases hj; exact ⟨by kernel_rfl, rfl, by kernel_rfl⟩
      | 1, hj => cases hj; exact ⟨by kernel_rfl, rfl, by kernel_rfl⟩
      | j + 2, hj => simp at hj) (by kernel_rfl) h2
    have e0 := congrArg (·[0]?) h3
    have e1 := congrArg (·[1]?) h3
    simp only [List.map_cons, List.map_nil, List.getElem?_cons_zero, List.getElem?_cons_succ, List.getElem?_take, List.getElem?_drop, Array.getElem?_toList] at e0 e1
    exact ⟨by simpa using e0, by simpa using e1⟩
  exact ⟨fun i hi => (World.var?_cell hg hvar _).trans (key i hi).1, fun i hi => (World.var?_cell hg hvar _).trans (key i hi).2⟩
theorem u10_of {w : World} (h : VarReads Tryz.prog w "internal/strconv.uint64pow10" Rows.laid_internal_strconv_uint64pow10) : Lib.TabIs Tryz.prog w "internal/strconv.uint64pow10" .u64 Lib.pow10Tab := by
  obtain ⟨g, t, cs, fuel, p, hg, hty, hvar, hd⟩ := h
  obtain rfl := Option.some.inj ((show Tryz.prog.globalNamed "internal/strconv.uint64pow10" = some 7 by kernel_rfl).symm.trans hg)
  obtain rfl := Option.some.inj ((show (Tryz.prog.globals[7]?).map (·.type) = some 274 by kernel_rfl).symm.trans hty)
  have hd2 : DataW.trod (fun _ => ()) Tryz.prog w 0 (fun _ => true) false fuel 274 cs.toList = some (tabData .u64 Lib.pow10Tab, p) := hd
  have := cells_of_tab Tryz.underlying274 Tryz.underlying48 (by kernel_rfl) (by kernel_rfl) hd2
  unfold TabIs
  rw [hvar, ← this]
theorem some_len {w : World} (h : w.ShapedOpen Tryz.prog) : ∃ m : Int, w.cell? ⟨2, 0, none⟩ = some (.int .i64 m) :=
  cell_of_shapedOpen_int (P := Tryz.prog) (t := 3) (zero := #[.int .i64 0]) h (of_decide_eq_true (by kernel_rfl)) (by kernel_rfl) rfl (by kernel_rfl) (by kernel_rfl) Tryz.underlying3
open Go.ChangeShapes Go.WideShapes Go.Deep in
theorem open_valD_of {H : Type} {P : Program} {T ti tb tf ts : TypeId} {f0 f1 f2 f3 f4 : Field} {enc : TypeId × Value → H} {w : World} {base : Nat} {spare : Nat → Bool} {held : Bool} {r : Reach} {b0 : Nat} {v : Value} {d : DataW H} {p : List MemPlace}
    (hC : P.cellsOf T = 5) (hs : P.underlying T = some (.struct #[f0, f1, f2, f3, f4])) (hone : oneCellFields P #[f0, f1, f2, f3, f4] = true)
    (t0 : f0.type = ti) (t1 : f1.type = tb) (t2 : f2.type = tf) (t3 : f3.type = ts) (t4 : f4.type = ti) (u0 : P.underlying ti = some (.int .i64)) (u1 : P.underlying tb = some .bool) (u2 : P.underlying tf = some (.float .f64)) (u3 : P.underlying ts = some .string)
    (hv : Value.okWide P w r b0 T v) (h : DataW.Trod enc P w base spare held T v d p) :
    ∃ (k : Int) (b : Bool) (n : Nat) (s : ByteArray) (o : Int), v = _root_.Go.Proofs.YtelgobelbeabaaaGreatDoor.val k b n s o ∧ p = [] ∧ s.size ≤ maxLen ∧ (Lit.float .f64 n).wf = true ∧ d = .agg [.lit (.int .i64 k), .lit (.bool b), .lit (.float .f64 n), .lit (.string s.data.toList), .lit (.int .i64 o)] := by
  obtain ⟨cs, rfl, hsz⟩ := okWide_struct hs hv
  obtain ⟨l⟩ := cs
  match l, hsz.trans hC with
  | [c0, c1, c2, c3, c4], _ =>
    obtain ⟨fuel, hf⟩ := h
    obtain ⟨xs, n, _, hx, _, hlen, hg⟩ := DataW.trod_struct hs hf
    match xs, hlen with
    | [y0, y1, y2, y3, y4], _ =>
      have part : ∀ (i : Nat) (f : Field) (c : Value), #[f0, f1, f2, f3, f4][i]? = some f → [c0, c1, c2, c3, c4][i]? = some c → DataW.trod enc P w base spare held n f.type [c] = [y0, y1, y2, y3, y4][i]? := fun i f c hi hc => by
        obtain ⟨ho, hk⟩ := hone_of hone i f hi
        have g := hg i f hi
        rw [ho, hk] at g
        have hil : i < 5 := (Array.getElem?_eq_some_iff.1 hi).1
        have e : ((Value.agg #[c0, c1, c2, c3, c4]).cells.toList.drop i).take 1 = [c] := by
          match i, hil, hc with
          | 0, _, hc => simpa [Value.cells] using hc
          | 1, _, hc => simpa [Value.cells] using hc
          | 2, _, hc => simpa [Value.cells] using hc
          | 3, _, hc => simpa [Value.cells] using hc
          | 4, _, hc => simpa [Value.cells] using hc
        rw [e] at g
        exact g
      have g0 := part 0 f0 c0 rfl rfl
      have g1 := part 1 f1 c1 rfl rfl
      have g2 := part 2 f2 c2 rfl rfl
      have g3 := part 3 f3 c3 rfl rfl
      have g4 := part 4 f4 c4 rfl rfl
      rw [t0] at g0; rw [t1] at g1; rw [t2] at g2; rw [t3] at g3; rw [t4] at g4
      obtain ⟨k, e0, x0, w0⟩ := DataW.trod_int u0 g0
      obtain ⟨b, e1, x1⟩ := DataW.trod_bool u1 g1
      obtain ⟨m, e2, x2, w2⟩ := trod_float u2 g2
      obtain ⟨s, e3, x3, w3⟩ := DataW.trod_string u3 g3
      obtain ⟨o, e4, x4, w4⟩ := DataW.trod_int u0 g4
      simp only [List.cons.injEq, and_true] at e0 e1 e2 e3 e4
      subst e0 e1 e2 e3 e4
      refine ⟨k, b, m, s, o, rfl, ?_, w3, w2, ?_⟩
      all_goals simp only [Prod.mk.injEq] at hx
      · rw [hx.2]
        simp [x0, x1, x2, x3, x4]
      · rw [hx.1]
        simp [x0, x1, x2, x3, x4]

open Go.ChangeShapes Go.WideShapes Go.Deep in
set_option maxRecDepth 100000 in
theorem open_valD {H : Type} {enc : TypeId × Value → H} {w : World} {base : Nat} {spare : Nat → Bool} {held : Bool} {r : Reach} {b0 : Nat} {v : Value} {d : DataW H} {p : List MemPlace}
    (hv : Value.okWide Tryz.prog w r b0 24 v) (h : DataW.Trod enc Tryz.prog w base spare held 24 v d p) :
    ∃ (k : Int) (b : Bool) (n : Nat) (s : ByteArray) (o : Int), v = _root_.Go.Proofs.YtelgobelbeabaaaGreatDoor.val k b n s o ∧ p = [] ∧ s.size ≤ maxLen ∧ (Lit.float .f64 n).wf = true ∧ d = .agg [.lit (.int .i64 k), .lit (.bool b), .lit (.float .f64 n), .lit (.string s.data.toList), .lit (.int .i64 o)] := by
  obtain ⟨f0, f1, f2, f3, f4, hs, hone, t0, t1, t2, t3, t4⟩ := fields_val
  exact open_valD_of (P := Tryz.prog) (T := 24) cellsOf_val hs hone t0 t1 t2 t3 t4 Tryz.underlying3 Tryz.underlying4 Tryz.underlying22 Tryz.underlying9 hv h
theorem size_of_bulk {H : Type} {k o : Int} {b : Bool} {n : Nat} {s : ByteArray} (h : Rows.uptoSmall H ([.agg [.lit (.int .i64 k), .lit (.bool b), .lit (.float .f64 n), .lit (.string s.data.toList), .lit (.int .i64 o)]] ++ []) = true) : s.size ≤ 1200000 := by
  have h := of_decide_eq_true h
  simp only [List.append_nil, Rows.uptoBulkAll, Rows.uptoBulk] at h
  have : s.size = s.data.toList.length := by rw [Array.length_toList]; rfl
  omega
end Us
end Go.Proofs.YtelgobelbeabaaaGreatDoor
