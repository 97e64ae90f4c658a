/-
  From the rows' laid premises to what the walks of numtext ask of the world. No program's function. From the rows' laid premises to what the reader of decimals asks of the world. No program's function. From the rows' laid premise to de Bruijn's table. No program's function.
-/
import Derived.Test.YtdpbpdhamekcdaaGreatDoorBaM14
import Derived.Test.YtdpbpdhamekcdaaGreatDoorBaM13
import Derived.Test.YtdpbpdhamekcdaaGreatDoorRows
import Derived.Lib.LaidU8
import Derived.OpenShut
import Derived.ChangeSlices
import Derived.Handed
import Derived.Stop.Joined
import Derived.Shelf.Vars
import Derived.Test.YtdpbpdhamekcdaaGreatDoorBaM16
import Derived.Test.YtdpbpdhamekcdaaGreatDoorFxM26
namespace Go.Proofs.YtdpbpdhamekcdaaGreatDoor
open Go.RowKit Go.Lib
namespace Us
open Nv

section
variable {H : Type} {enc : TypeId × Value → H} {P : Program} {w : World} {base : Nat} {sp : Nat → Bool} {held : Bool}
theorem field_int {fuel : Nat} {t : TypeId} {fs : Array Field} {cs : List Value} {ds : List (DataW H)} {p : List MemPlace} (ht : P.underlying t = some (.struct fs)) (h : DataW.trod enc P w base sp held fuel t cs = some (.agg ds, p)) {i : Nat} {f : Field} {k : IntKind} {z : Int} (hf : fs[i]? = some f) (hk : P.underlying f.type = some (.int k)) (hc : P.cellsOf f.type = 1) (hd : ds[i]? = some (.lit (.int k z))) : cs[f.offset]? = some (.int k z) := by
  obtain ⟨xs, n, rfl, hx, hl, hxl, hall⟩ := DataW.trod_struct ht h
  have hds : xs.map (·.1) = ds := by
    have := congrArg Prod.fst hx
    simpa using this.symm
  rw [← hds, List.getElem?_map] at hd
  obtain ⟨x, hx2, hx3⟩ := Option.map_eq_some_iff.1 hd
  have h1 := hall i f hf
  rw [hx2, hc] at h1
  obtain ⟨z', hcz, rfl, _⟩ := DataW.trod_int hk h1
  cases hx3
  have := congrArg (·[0]?) hcz
  simpa [List.getElem?_take, List.getElem?_drop] using this
theorem trod_float {fuel : Nat} {t : TypeId} {k : FloatKind} {cs : List Value} {z : Nat} {p : List MemPlace} (ht : P.underlying t = some (.float k)) (h : DataW.trod enc P w base sp held fuel t cs = some (.lit (.float k z), p)) : cs = [.float k z] := by
  cases fuel with
  | zero => simp [DataW.trod] at h
  | succ n =>
    unfold DataW.trod at h
    rw [ht] at h
    split at h <;> simp_all
end
theorem tab_row (i : Nat) (hi : i < 696) : (Go.Pinned.pow10Rows.map fun x => (DataW.agg [.lit (.int .u64 x.1), .lit (.int .u64 x.2)] : DataW Unit))[i]? = some (.agg ([((rowAt ((i : Int) - 348)).1 : Int), ((rowAt ((i : Int) - 348)).2 : Int)].map fun z => .lit (.int .u64 z))) := by
  have hlen : Go.Pinned.pow10Rows.length = 696 := by decide +kernel
  unfold rowAt
  rw [show ((i : Int) - 348 + 348).toNat = i by omega, List.getElem?_map, List.getElem?_eq_getElem (by omega), List.getD_eq_getElem?_getD, List.getElem?_eq_getElem (by omega)]
  rfl
theorem p10_of {w : World} (h : VarReads Tryz.prog w "internal/strconv.pow10Tab" Go.Pinned.pow10Tab) : P10 w := by
  obtain ⟨g, t, cs, fuel, p, hg, hty, hvar, hd⟩ := h
  obtain rfl := Option.some.inj ((show Tryz.prog.globalNamed "internal/strconv.pow10Tab" = some 14 by kernel_rfl).symm.trans hg)
  obtain rfl := Option.some.inj ((show (Tryz.prog.globals[14]?).map (·.type) = some 278 by kernel_rfl).symm.trans hty)
  have key : ∀ i, i < 696 → cs[i * 2]? = some (.int .u64 ((rowAt ((i : Int) - 348)).1 : Nat)) ∧ cs[i * 2 + 1]? = some (.int .u64 ((rowAt ((i : Int) - 348)).2 : Nat)) := fun i hi => by
    obtain ⟨fuel', d, q, h1, h2⟩ := array_elem Tryz.underlying278 hd i hi
    rw [tab_row i hi] at h1
    obtain rfl := Option.some.inj h1
    rw [show Tryz.prog.cellsOf 277 = 2 by kernel_rfl] at h2
    have h3 := ints_of_struct Tryz.underlying277 (fun j f hj => by
      match j, hj with
      | 0, hj => cases hj; exact ⟨by kernel_rfl, rfl, by kernel_rfl⟩
      | 1, hj => cases hj; exact ⟨by kernel_rfl, rfl, by kernel_rfl⟩
      | j + 2, hj => simp at hj) (by kernel_rfl) h2
    have e0 := congrArg (·[0]?) h3
    have e1 := congrArg (·[1]?) h3
    simp only [List.map_cons, List.map_nil, List.getElem?_cons_zero, List.getElem?_cons_succ, List.getElem?_take, List.getElem?_drop, Array.getElem?_toList] at e0 e1
    exact ⟨by simpa using e0, by simpa using e1⟩
  exact ⟨fun i hi => (World.var?_cell hg hvar _).trans (key i hi).1, fun i hi => (World.var?_cell hg hvar _).trans (key i hi).2⟩
theorem u10_of {w : World} (h : VarReads Tryz.prog w "internal/strconv.uint64pow10" Rows.laid_internal_strconv_uint64pow10) : Lib.TabIs Tryz.prog w "internal/strconv.uint64pow10" .u64 Lib.pow10Tab := by
  obtain ⟨g, t, cs, fuel, p, hg, hty, hvar, hd⟩ := h
  obtain rfl := Option.some.inj ((show Tryz.prog.globalNamed "internal/strconv.uint64pow10" = some 10 by kernel_rfl).symm.trans hg)
  obtain rfl := Option.some.inj ((show (Tryz.prog.globals[10]?).map (·.type) = some 253 by kernel_rfl).symm.trans hty)
  have hd2 : DataW.trod (fun _ => ()) Tryz.prog w 0 (fun _ => true) false fuel 253 cs.toList = some (tabData .u64 Lib.pow10Tab, p) := hd
  have := cells_of_tab Tryz.underlying253 Tryz.underlying62 (by kernel_rfl) (by kernel_rfl) hd2
  unfold TabIs
  rw [hvar, ← this]
set_option maxRecDepth 100000 in
theorem rds_of {w : World} (h1 : VarReads Tryz.prog w "internal/strconv.optimize" Rows.laid_internal_strconv_optimize) (h2 : VarReads Tryz.prog w "internal/strconv.float64info" Rows.laid_internal_strconv_float64info) (h3 : VarReads Tryz.prog w "internal/strconv.float64pow10" Rows.laid_internal_strconv_float64pow10) : Rds w := by
  refine ⟨?_, ?_, ?_⟩
  · obtain ⟨g, t, cs, fuel, p, hg, hty, hvar, hd⟩ := h1
    obtain rfl := Option.some.inj ((show Tryz.prog.globalNamed "internal/strconv.optimize" = some 5 by kernel_rfl).symm.trans hg)
    obtain rfl := Option.some.inj ((show (Tryz.prog.globals[5]?).map (·.type) = some 4 by kernel_rfl).symm.trans hty)
    obtain ⟨b, hb, he⟩ := DataW.trod_bool Tryz.underlying4 hd
    have hb2 : b = true := by
      have := congrArg Prod.fst he
      simp only [Rows.laid_internal_strconv_optimize, DataW.lit.injEq, Lit.bool.injEq] at this
      exact this.symm
    subst hb2
    refine (World.var?_cell hg hvar 0).trans ?_
    rw [← Array.getElem?_toList, hb]
    rfl
  · obtain ⟨g, t, cs, fuel, p, hg, hty, hvar, hd⟩ := h2
    obtain rfl := Option.some.inj ((show Tryz.prog.globalNamed "internal/strconv.float64info" = some 9 by kernel_rfl).symm.trans hg)
    obtain rfl := Option.some.inj ((show (Tryz.prog.globals[9]?).map (·.type) = some 237 by kernel_rfl).symm.trans hty)
    have := field_int Tryz.underlying237 hd (i := 0) (k := .u64) (z := 52) rfl (by kernel_rfl) (by kernel_rfl) rfl
    refine (World.var?_cell hg hvar 0).trans ?_
    rw [← Array.getElem?_toList]
    exact this
  · obtain ⟨g, t, cs, fuel, p, hg, hty, hvar, hd⟩ := h3
    obtain rfl := Option.some.inj ((show Tryz.prog.globalNamed "internal/strconv.float64pow10" = some 13 by kernel_rfl).symm.trans hg)
    obtain rfl := Option.some.inj ((show (Tryz.prog.globals[13]?).map (·.type) = some 274 by kernel_rfl).symm.trans hty)
    rcases DataW.trod_slice Tryz.underlying274 hd with ⟨-, hx⟩ | ⟨a, len, cap, elems, rest, n, rfl, hcs, hx, -, hlc, -, hel, hall, -, -⟩
    · have := congrArg Prod.fst hx
      cases this
    · have hx1 := congrArg Prod.fst hx
      simp only [Rows.laid_internal_strconv_float64pow10, DataW.slice.injEq] at hx1
      have hl : elems.length = 23 := by
        have := congrArg List.length hx1.1
        simpa using this.symm
      have he1 : (elems.map (·.1))[1]? = some (.lit (.float .f64 4621819117588971520)) := by
        rw [← hx1.1]
        rfl
      rw [List.getElem?_map] at he1
      obtain ⟨x, hx2, hx3⟩ := Option.map_eq_some_iff.1 he1
      have h1 := hall 1 (by omega)
      rw [hx2, show Tryz.prog.cellsOf 24 = 1 by kernel_rfl] at h1
      obtain ⟨cs', hc1, hc2⟩ := Option.bind_eq_some_iff.1 h1
      have hc3 := trod_float (z := 4621819117588971520) (k := .f64) (p := x.2) Tryz.underlying24 (hc2.trans (by rw [← hx3]))
      subst hc3
      have hc := Go.ChangeShapes.cell_of_cells?_one hc1
      refine ⟨a, len, cap, (World.var?_cell hg hvar 0).trans ?_, by omega, hlc, by omega, by rw [Nat.mul_one] at hc; exact hc⟩
      rw [← Array.getElem?_toList, hcs]
      rfl
theorem some_len {w : World} (h : w.ShapedOpen Tryz.prog) : ∃ m : Int, w.cell? ⟨2, 0, none⟩ = some (.int .i64 m) :=
  cell_of_shapedOpen_int (P := Tryz.prog) (t := 3) (zero := #[.int .i64 0]) h (of_decide_eq_true (by kernel_rfl)) (by kernel_rfl) rfl (by kernel_rfl) (by kernel_rfl) Tryz.underlying3
set_option maxRecDepth 100000 in
/-- What a law's walk is asked, where the world's shape is wanted beside the laid premises. -/
theorem handed_laid {H : Type} {enc : TypeId × Value → H} {os : Os} {f : FuncId} {fn : Func} {s : ChangeSpec} {conds : List PathCond} {apart fresh handsOn again : Bool} {laid : List (String × DataW Unit)}
    (own : ownKnob Tryz.checked.prog.godebug = none) (started : os.Started) (noInit : Tryz.checked.prog.inits.idxOf? f = none) (hfn : Tryz.checked.prog.funcs[f]? = some fn)
    (witness : ∃ (w : World) (tape : Tape) (i : Input), w.os = os ∧ (w.forCall tape i).Shaped Tryz.checked.prog ∧ i.vars = [] ∧ Input.okWide Tryz.checked.prog (w.forCall tape i) .any w.heap.size f i ∧
      ((s.pre enc Tryz.checked.prog fn conds apart (w.forCall tape i).memory i.args ∧ laidMetH Tryz.prog laid (w.forCall tape i).memory) ∧ sizedMet enc Tryz.checked.prog fn (OpenSpec.ofChange s) apart (w.forCall tape i).memory i.args) ∧
      ({} : Assume).holds Tryz.checked.prog (lone (Frame.enter Tryz.checked.prog f i.args .normal) [] (w.forCall tape i)))
    (walk : ∀ (W : World) (base : Nat) (args : Array Value) (ds gs : List (DataW H)) (before : List MemPlace),
      (∀ (j : Nat) t v, fn.params[j]? = some t → args[j]? = some v → Value.okWide Tryz.checked.prog W .any base t v) →
      DataW.Whole enc Tryz.checked.prog fn.params.toList s.vars apart W args.toList ds gs before →
      (DataW.weightsEach Tryz.checked.prog (fn.params.toList ++ s.plain.varTypes Tryz.checked.prog) (ds ++ gs)).all (· ≤ reachBytes) = true →
      laidMetH Tryz.prog laid W → W.ShapedOpen Tryz.prog →
      Calls Tryz.checked.prog f args W fun e W' => ∃ v, e = .returned v ∧ s.post enc Tryz.checked.prog fn apart fresh handsOn again W args v W') :
    ReturnsInHanded {} Tryz.checked os f .any (fun w args => (s.pre enc Tryz.checked.prog fn conds apart w args ∧ laidMetH Tryz.prog laid w) ∧ sizedMet enc Tryz.checked.prog fn (OpenSpec.ofChange s) apart w args) (s.post enc Tryz.checked.prog fn apart fresh handsOn again) := by
  refine returnsInHanded_of_calls own started noInit witness ?_
  intro w tape i _ hsh _ hok hpre _
  obtain ⟨-, -, -, fn2, hfn2, -, -, -, -, hval⟩ := hok
  obtain rfl : fn2 = fn := Option.some.inj (hfn2.symm.trans hfn)
  obtain ⟨⟨⟨ds, gs, before, hw, -⟩, hx⟩, hz⟩ := hpre
  have hx2 : laidMetH Tryz.prog laid (w.forCall tape i) := laidMetH.of_heap (by rfl) hx
  have hw2 := DataW.Whole.of_heap (w' := w.forCall tape i) (by rfl) hw
  refine (walk (w.forCall tape i) w.heap.size i.args ds gs before hval hw2 (hz.weights hw) hx2 hsh).mono ?_
  rintro e W' ⟨v, rfl, hp⟩
  exact ChangeSpec.post_blind hp
end Us
end Go.Proofs.YtdpbpdhamekcdaaGreatDoor
namespace Go.Proofs.YtdpbpdhamekcdaaGreatDoor
open Go.RowKit Go.Lib
namespace Us
open Nv

theorem trod_iface {H : Type} {enc : TypeId × Value → H} {P : Program} {w : World} {base : Nat} {sp : Nat → Bool} {held : Bool} {fuel : Nat} {t : TypeId} {ms} {cs : List Value} {n : String} {d : DataW H} {p : List MemPlace} (ht : P.underlying t = some (.interface ms)) (h : DataW.trod enc P w base sp held fuel t cs = some (.iface n d, p)) : ∃ u v, cs = [.iface u v] := by
  cases fuel with
  | zero => simp [DataW.trod] at h
  | succ k =>
    unfold DataW.trod at h
    rw [ht] at h
    split at h <;> simp_all
theorem ten_list {H : Type} : (Rows.laid_internal_strconv_float64pow10 : DataW H) = .slice ((List.range 23).map fun i => .lit (.float .f64 (tenF i))) [] := by kernel_rfl
set_option maxRecDepth 100000 in
theorem rdt_of {w : World} (h1 : VarReads Tryz.prog w "internal/strconv.optimize" Rows.laid_internal_strconv_optimize) (h2 : VarReads Tryz.prog w "internal/strconv.float64info" Rows.laid_internal_strconv_float64info) (h3 : VarReads Tryz.prog w "internal/strconv.float64pow10" Rows.laid_internal_strconv_float64pow10) (h4 : VarReads Tryz.prog w "strconv.ErrRange" Rows.laid_strconv_ErrRange) : Rdt w := by
  have hrds := rds_of h1 h2 h3
  refine ⟨hrds.opt, hrds.mant, ?_, ?_⟩
  · obtain ⟨g, t, cs, fuel, p, hg, hty, hvar, hd⟩ := h3
    obtain rfl := Option.some.inj ((show Tryz.prog.globalNamed "internal/strconv.float64pow10" = some 13 by kernel_rfl).symm.trans hg)
    obtain rfl := Option.some.inj ((show (Tryz.prog.globals[13]?).map (·.type) = some 274 by kernel_rfl).symm.trans hty)
    rcases DataW.trod_slice Tryz.underlying274 hd with ⟨-, hx⟩ | ⟨a, len, cap, elems, rest, n, rfl, hcs, hx, -, hlc, -, hel, hall, -, -⟩
    · have := congrArg Prod.fst hx
      cases this
    · have hx1 := congrArg Prod.fst hx
      rw [ten_list] at hx1
      simp only [DataW.slice.injEq] at hx1
      have hl : elems.length = 23 := by
        have := congrArg List.length hx1.1
        simpa using this.symm
      obtain ⟨ga, oa, va⟩ := a
      refine ⟨ga, oa, va, len, cap, (World.var?_cell hg hvar 0).trans ?_, by omega, hlc, by omega, fun i hi => ?_⟩
      · rw [← Array.getElem?_toList, hcs]
        rfl
      · have he1 : (elems.map (·.1))[i]? = some (.lit (.float .f64 (tenF i))) := by
          rw [← hx1.1, List.getElem?_map, List.getElem?_range (by omega)]
          rfl
        rw [List.getElem?_map] at he1
        obtain ⟨x, hx2, hx3⟩ := Option.map_eq_some_iff.1 he1
        have h1 := hall i (by omega)
        rw [hx2, show Tryz.prog.cellsOf 24 = 1 by kernel_rfl] at h1
        obtain ⟨cs', hc1, hc2⟩ := Option.bind_eq_some_iff.1 h1
        have hc3 := trod_float (z := tenF i) (k := .f64) (p := x.2) Tryz.underlying24 (hc2.trans (by rw [← hx3]))
        subst hc3
        have hc := Go.ChangeShapes.cell_of_cells?_one hc1
        rw [Nat.mul_one] at hc
        exact hc
  · obtain ⟨g, t, cs, fuel, p, hg, hty, hvar, hd⟩ := h4
    obtain rfl := Option.some.inj ((show Tryz.prog.globalNamed "strconv.ErrRange" = some 4 by kernel_rfl).symm.trans hg)
    obtain rfl := Option.some.inj ((show (Tryz.prog.globals[4]?).map (·.type) = some 105 by kernel_rfl).symm.trans hty)
    obtain ⟨u, v, hcs⟩ := trod_iface Tryz.underlying105 hd
    refine ⟨.iface u v, (World.var?_cell hg hvar 0).trans ?_, .inr ⟨u, v, rfl⟩⟩
    rw [← Array.getElem?_toList, hcs]
    rfl
end Us
end Go.Proofs.YtdpbpdhamekcdaaGreatDoor
namespace Go.Proofs.YtdpbpdhamekcdaaGreatDoor
open Go.RowKit Go.Lib
namespace Us
open Nv
def bruijn : List Int := [0, 1, 56, 2, 57, 49, 28, 3, 61, 58, 42, 50, 38, 29, 17, 4, 62, 47, 59, 36, 45, 43, 51, 22, 53, 39, 33, 30, 24, 18, 12, 5, 63, 55, 48, 27, 60, 41, 37, 16, 46, 35, 44, 21, 52, 32, 23, 11, 54, 26, 40, 15, 34, 20, 31, 10, 25, 14, 19, 9, 13, 8, 7, 6]
theorem bruijn_ix : (List.range 64).all (fun z => bruijn[bIx z]? == some ((z : Nat) : Int)) = true := by decide +kernel
theorem tz_of {w : World} (h : VarReads Tryz.prog w "math/bits.deBruijn64tab" Rows.laid_math_bits_deBruijn64tab) : Tz w := by
  obtain ⟨g, t, cs, fuel, p, hg, hty, hvar, hd⟩ := h
  obtain rfl := Option.some.inj ((show Tryz.prog.globalNamed "math/bits.deBruijn64tab" = some 1 by kernel_rfl).symm.trans hg)
  obtain rfl := Option.some.inj ((show (Tryz.prog.globals[1]?).map (·.type) = some 162 by kernel_rfl).symm.trans hty)
  have hd2 : DataW.trod (fun _ => ()) Tryz.prog w 0 (fun _ => true) false fuel 162 cs.toList = some (tabData .u8 bruijn, p) := hd
  have hc := cells_of_tab Tryz.underlying162 Tryz.underlying5 (by kernel_rfl) (by kernel_rfl) hd2
  intro z hz
  refine (World.var?_cell hg hvar (bIx z)).trans ?_
  have := List.all_eq_true.1 bruijn_ix z (List.mem_range.2 hz)
  rw [← Array.getElem?_toList, hc, List.getElem?_map, beq_iff_eq.1 this]
  rfl
end Us
end Go.Proofs.YtdpbpdhamekcdaaGreatDoor
