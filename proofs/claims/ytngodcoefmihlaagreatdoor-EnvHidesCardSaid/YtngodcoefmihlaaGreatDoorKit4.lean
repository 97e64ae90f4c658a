/-
  A whole struct stored into, or loaded from, a block that is known whole, in one step. No condition.
-/
import Derived.Test.YtngodcoefmihlaaGreatDoorKit3
import Derived.Deep.MidRow
namespace Go.Proofs.YtngodcoefmihlaaGreatDoor
open Go.RowKit

/-- A row with so many values put in from o on. -/
def putFrom (cs : Array Value) (o : Nat) : List Value → Array Value
  | [] => cs
  | v :: r => putFrom (cs.setIfInBounds o v) (o + 1) r
theorem putFrom_list : ∀ (vs : List Value) (cs : Array Value) (o : Nat), o + vs.length = cs.size → (putFrom cs o vs).toList = cs.toList.take o ++ vs
  | [], cs, o, h => by simp [putFrom]; rw [List.take_of_length_le (by simp at h ⊢; omega)]
  | v :: r, cs, o, h => by
    simp at h
    rw [putFrom, putFrom_list r _ (o + 1) (by simp; omega)]
    rw [Array.toList_setIfInBounds, List.take_add_one, List.take_set]
    rw [List.getElem?_set_self (by simp; omega), List.set_eq_of_length_le (by simp; omega)]
    simp
theorem putFrom_all (cs vs : Array Value) (h : vs.size = cs.size) : putFrom cs 0 vs.toList = vs := by
  have := putFrom_list vs.toList cs 0 (by simpa using h)
  apply Array.toList_inj.1
  simpa using this
theorem HasB.puts {b : Nat} {t : TypeId} : ∀ (vs : List Value) (o : Nat) {w : World} {cs : Array Value}, HasB w b cs t → HasB (w.setCells b o vs) b (putFrom cs o vs) t
  | [], _, _, _, h => h
  | v :: r, o, _, _, h => HasB.puts r (o + 1) (h.set o v)
theorem HasB.putAll {w : World} {b : Nat} {cs : Array Value} {t : TypeId} (h : HasB w b cs t) (vs : Array Value) (hs : vs.size = cs.size) : HasB (w.setCells b 0 vs.toList) b vs t := by
  have := HasB.puts vs.toList 0 h
  rwa [putFrom_all cs vs hs] at this
theorem below_puts {B : Nat} {a : World} {b : Nat} (hB : B ≤ b) : ∀ (vs : List Value) (o : Nat) {w : World}, Below B a w → Below B a (w.setCells b o vs)
  | [], _, _, h => h
  | v :: r, o, _, h => below_puts hB r (o + 1) (Below.setCell h hB v)
theorem HasB.there {w : World} {b : Nat} {cs : Array Value} {t : TypeId} (h : HasB w b cs t) : w.there b 0 cs.size := fun j hj => ⟨by rw [h.cell, Nat.zero_add]; simp [hj], h.free _⟩
theorem HasB.rangeAt {w : World} {b : Nat} {cs : Array Value} {t : TypeId} (h : HasB w b cs t) : w.rangeAt b 0 cs.toList := fun j v hv => by rw [h.cell, Nat.zero_add]; simpa using hv
theorem HasB.offPut {w : World} {b c : Nat} {cs : Array Value} {t : TypeId} (h : HasB w c cs t) (hne : c ≠ b) : ∀ (vs : List Value) (o : Nat), HasB (w.setCells b o vs) c cs t
  | [], _ => h
  | v :: r, o => HasB.offPut (HasB.far h hne v) hne r (o + 1)
/-- An operation that is wanted, guarded or not. -/
theorem wpList_wanted {P : Program} {ops : Array Oper} {rest : List Oper} {o : Oper} {a : Act} {w : World} {Q : Exit → Act → World → Prop} (hw : Region.wanted o (yielded ops a.tmps) = true)
    (h : ∀ K : Act → World → Prop, (∀ a w, wpList P ops Q rest a w → K a w) → o.wp P a w K Q) : wpList P ops Q (o :: rest) a w :=
  wpList_step fun K hK => by rw [if_pos hw]; exact h K hK
/-- A plain region's store of a whole struct. -/
theorem wpList_storeB {P : Program} {ops : Array Oper} {rest : List Oper} {op : Oper} {a : Act} {w : World} {Q : Exit → Act → World → Prop} {ty : TypeId} {x y : Operand} {b : Nat} {cs : Array Value} {t : TypeId} (h : HasB w b cs t) (vs : Array Value) (hgd : Region.wanted op (yielded ops a.tmps) = true) (ho : op.op = .store ty x y)
    (hx : a.eval x = .pointer (some ⟨b, 0, none⟩)) (hy : a.eval y = .agg vs) (hs : vs.size = cs.size) (hi : (P.info? ty).map (·.size) = some vs.size) (h1 : vs.all (·.oneCell') = true)
    (k : ∀ W, HasB W b vs t → (∀ B a, B ≤ b → Below B a w → Below B a W) → (∀ c cs t, c ≠ b → HasB w c cs t → HasB W c cs t) → wpList P ops Q rest (a.put op.dst undef) W) : wpList P ops Q (op :: rest) a w :=
  wpList_wanted hgd fun _ hK => wp_store_mid ty x y ho b 0 vs hx hy (by rw [hs]; exact h.there) hi h1 (hK _ _ <| k _ (h.putAll vs hs) (fun _ _ hB hb => below_puts hB _ _ hb) (fun _ _ _ hne hc => hc.offPut hne _ _))
/-- .. and its load. -/
theorem wpList_loadB {P : Program} {ops : Array Oper} {rest : List Oper} {op : Oper} {a : Act} {w : World} {Q : Exit → Act → World → Prop} {ty : TypeId} {x : Operand} {b : Nat} {cs : Array Value} {t : TypeId} (h : HasB w b cs t) (d : TypeDesc) (hgd : Region.wanted op (yielded ops a.tmps) = true) (ho : op.op = .load ty x)
    (hx : a.eval x = .pointer (some ⟨b, 0, none⟩)) (hu : P.underlying ty = some d) (hd : d.isRow = true) (hi : (P.info? ty).map (·.size) = some cs.toList.length)
    (k : wpList P ops Q rest (a.put op.dst (.agg cs)) w) : wpList P ops Q (op :: rest) a w :=
  wpList_wanted hgd fun _ hK => wp_load_mid ty x ho b 0 hx cs.toList d h.rangeAt hu hd hi (hK _ _ (by simpa using k))
theorem HasB.rangeOff {w : World} {b : Nat} {cs : Array Value} {t : TypeId} (h : HasB w b cs t) (o : Nat) (vs : List Value) (hv : (cs.toList.drop o).take vs.length = vs) : w.rangeAt b o vs := fun j v hj => by
  have hl : j < vs.length := (List.getElem?_eq_some_iff.1 hj).1
  rw [h.cell, ← hj, ← Array.getElem?_toList]
  conv => rhs; rw [← hv]
  rw [List.getElem?_take_of_lt hl, List.getElem?_drop]
/-- A field that is a struct, loaded. -/
theorem wpList_loadOff {P : Program} {ops : Array Oper} {rest : List Oper} {op : Oper} {a : Act} {w : World} {Q : Exit → Act → World → Prop} {ty : TypeId} {x : Operand} {b : Nat} {cs : Array Value} {t : TypeId} (h : HasB w b cs t) (o : Nat) (vs : List Value) (hv : (cs.toList.drop o).take vs.length = vs) (d : TypeDesc) (hgd : Region.wanted op (yielded ops a.tmps) = true) (ho : op.op = .load ty x)
    (hx : a.eval x = .pointer (some ⟨b, o, none⟩)) (hu : P.underlying ty = some d) (hd : d.isRow = true) (hi : (P.info? ty).map (·.size) = some vs.length)
    (k : wpList P ops Q rest (a.put op.dst (.agg vs.toArray)) w) : wpList P ops Q (op :: rest) a w :=
  wpList_wanted hgd fun _ hK => wp_load_mid ty x ho b o hx vs d (h.rangeOff o vs hv) hu hd hi (hK _ _ k)
/-- A struct read whole. -/
theorem HasB.loads {P : Program} {w : World} {b : Nat} {cs : Array Value} {t ty : TypeId} (h : HasB w b cs t) (d : TypeDesc) (hu : P.underlying ty = some d) (hd : d.isRow = true) (hi : (P.info? ty).map (·.size) = some cs.size) : (loadVar ty ⟨b, 0, none⟩).run P w = .ok (.agg cs) w := by
  have := run_loadVar_mid (P := P) w b 0 ty cs.toList d h.rangeAt hu hd (by simpa using hi)
  simpa using this
/-- Results: a variable that lies in the heap, and one or two slots. -/
theorem results_cell_tmp {P : Program} {fn : Func} {t u : Tmp} {ty : TypeId} {tmps : Array Value} {a : Addr} {v : Value} {w : World} (h : fn.results = #[.cell t ty, .tmp u]) (ht : tmps.getD t undef = .pointer (some a)) (hl : (loadVar ty a).run P w = .ok v w) :
    (results fn tmps).run P w = .ok (.tuple #[v, tmps.getD u undef]) w := by
  simp only [Array.getD_eq_getD_getElem?] at ht
  simp [results, h, ht, hl, asAddr]
theorem results_cell_tmp2 {P : Program} {fn : Func} {t u x : Tmp} {ty : TypeId} {tmps : Array Value} {a : Addr} {v : Value} {w : World} (h : fn.results = #[.cell t ty, .tmp u, .tmp x]) (ht : tmps.getD t undef = .pointer (some a)) (hl : (loadVar ty a).run P w = .ok v w) :
    (results fn tmps).run P w = .ok (.tuple #[v, tmps.getD u undef, tmps.getD x undef]) w := by
  simp only [Array.getD_eq_getD_getElem?] at ht
  simp [results, h, ht, hl, asAddr]
theorem results_cell {P : Program} {fn : Func} {t : Tmp} {ty : TypeId} {tmps : Array Value} {a : Addr} {v : Value} {w : World} (h : fn.results = #[.cell t ty]) (ht : tmps.getD t undef = .pointer (some a)) (hl : (loadVar ty a).run P w = .ok v w) :
    (results fn tmps).run P w = .ok v w := by
  simp only [Array.getD_eq_getD_getElem?] at ht
  simp [results, h, ht, hl, asAddr]
/-- Guards of a walk: the next operation is a store of that type, a load of that type, a load of that type by that slot. -/
theorem at_store (ty : TypeId) {P : Program} {ops : Array Oper} {rest : List Oper} {a : Act} {w : World} {Q : Exit → Act → World → Prop} {d : Option Tmp} {x y : Operand} {t : TypeId} {p : String} {af : Array Edge} {g : Option (Nat × Bool)}
    (h : wpList P ops Q (⟨d, .store ty x y, t, p, af, g⟩ :: rest) a w) : wpList P ops Q (⟨d, .store ty x y, t, p, af, g⟩ :: rest) a w := h
theorem at_load (ty : TypeId) {P : Program} {ops : Array Oper} {rest : List Oper} {a : Act} {w : World} {Q : Exit → Act → World → Prop} {d : Option Tmp} {x : Operand} {t : TypeId} {p : String} {af : Array Edge} {g : Option (Nat × Bool)}
    (h : wpList P ops Q (⟨d, .load ty x, t, p, af, g⟩ :: rest) a w) : wpList P ops Q (⟨d, .load ty x, t, p, af, g⟩ :: rest) a w := h
theorem at_load_by (ty : TypeId) (s : Tmp) {P : Program} {ops : Array Oper} {rest : List Oper} {a : Act} {w : World} {Q : Exit → Act → World → Prop} {d : Option Tmp} {t : TypeId} {p : String} {af : Array Edge} {g : Option (Nat × Bool)}
    (h : wpList P ops Q (⟨d, .load ty (.tmp s), t, p, af, g⟩ :: rest) a w) : wpList P ops Q (⟨d, .load ty (.tmp s), t, p, af, g⟩ :: rest) a w := h
end Go.Proofs.YtngodcoefmihlaaGreatDoor
