/-
  The teller of package snapshot: its own block; contracts of what it writes with. Conditions: the teller's cells are as said; what it has written is a row of bytes of its own.
-/
import Derived.Test.YtpafbjghlgjfcaaGreatDoorHeapObj
import Derived.Test.YtpafbjghlgjfcaaGreatDoorShelf
namespace Go.Proofs.YtpafbjghlgjfcaaGreatDoor
open Go.RowKit

/-- A teller's own block. -/
def TellAt (w : World) (T m : Nat) (ba buf : Value) (nm : Nat) (c0 : Int) (wl : Value) (at_ : Int) : Prop :=
  HasB w T #[.pointer (some ⟨m, 0, none⟩), ba, buf, .map (some nm), .int .i64 c0, .int .i64 0, wl, .int .i64 at_] 52

/-- Everything but some blocks is as it was. -/
structure Rest (S : Nat → Prop) (w w' : World) : Prop where
  os : w'.os = w.os
  tape : w'.tape = w.tape
  output : w'.output = w.output
  size : w.heap.size ≤ w'.heap.size
  block : ∀ k, k < w.heap.size → ¬ S k → w'.heap[k]? = w.heap[k]?
theorem Rest.refl (S : Nat → Prop) (w : World) : Rest S w w := ⟨rfl, rfl, rfl, Nat.le_refl _, fun _ _ _ => rfl⟩
theorem Rest.trans {S : Nat → Prop} {a b c : World} (x : Rest S a b) (y : Rest S b c) : Rest S a c :=
  ⟨y.os.trans x.os, y.tape.trans x.tape, y.output.trans x.output, Nat.le_trans x.size y.size, fun k hk hne => (y.block k (Nat.lt_of_lt_of_le hk x.size) hne).trans (x.block k hk hne)⟩
theorem Rest.of {S : Nat → Prop} {w w' : World} (x : Below w.heap.size w w') : Rest S w w' := ⟨x.os, x.tape, x.output, x.size, fun k hk _ => x.block k hk⟩
theorem Rest.ofBut {S : Nat → Prop} {T : Nat} {w w' : World} (x : But T w w') (hS : S T) : Rest S w w' := ⟨x.os, x.tape, x.output, x.size, fun k hk hn => x.block k hk (fun h => hn (h ▸ hS))⟩
theorem Rest.hasB {S : Nat → Prop} {w w' : World} {b : Nat} {cs : Array Value} {t : TypeId} (x : Rest S w w') (H : HasB w b cs t) (hne : ¬ S b) : HasB w' b cs t := (x.block b H.lt hne).trans H
theorem Rest.drew {S : Nat → Prop} {w w' : World} (x : Rest S w w') : Rest S w w'.drew := ⟨x.os, x.tape, x.output, x.size, x.block⟩
theorem Rest.cell {S : Nat → Prop} {w w' : World} (x : Rest S w w') {a : Addr} {v : Value} (hv : w.cell? a = some v) (hne : ¬ S a.block) : w'.cell? a = some v :=
  (World.cell?_of_block (x.block a.block (World.block_lt_of_cell? w _ hv) hne)).trans hv

/-- Below B everything but one block is as it was. -/
structure ButB (h B : Nat) (w w' : World) : Prop where
  os : w'.os = w.os
  tape : w'.tape = w.tape
  output : w'.output = w.output
  size : w.heap.size ≤ w'.heap.size
  block : ∀ k, k < B → k ≠ h → w'.heap[k]? = w.heap[k]?
theorem ButB.refl (h B : Nat) (w : World) : ButB h B w w := ⟨rfl, rfl, rfl, Nat.le_refl _, fun _ _ _ => rfl⟩
theorem ButB.trans {h B : Nat} {a b c : World} (x : ButB h B a b) (y : ButB h B b c) : ButB h B a c :=
  ⟨y.os.trans x.os, y.tape.trans x.tape, y.output.trans x.output, Nat.le_trans x.size y.size, fun k hk hne => (y.block k hk hne).trans (x.block k hk hne)⟩
theorem ButB.of {h B : Nat} {w w' : World} (x : Below B w w') : ButB h B w w' := ⟨x.os, x.tape, x.output, x.size, fun k hk _ => x.block k hk⟩
theorem ButB.hasB {h B : Nat} {w w' : World} {b : Nat} {cs : Array Value} {t : TypeId} (x : ButB h B w w') (H : HasB w b cs t) (hb : b < B) (hne : b ≠ h) : HasB w' b cs t := (x.block b hb hne).trans H
theorem ButB.set {h B : Nat} {a w : World} (x : ButB h B a w) (ad : Addr) (v : Value) (hb : ad.block = h) : ButB h B a (w.setCell ad v) :=
  ⟨x.os, x.tape, x.output, by have := x.size; simp [World.setCell]; exact this, fun k hk hne => (Below.heap_setCell w ad v k (by omega)).trans (x.block k hk hne)⟩
theorem ButB.below {h B B' : Nat} {a w w' : World} (x : ButB h B w w') (b : Below B' a w) (hB : B' ≤ h) (hB2 : B' ≤ B) : Below B' a w' :=
  ⟨x.os.trans b.os, x.tape.trans b.tape, x.output.trans b.output, Nat.le_trans b.size x.size, fun k hk => (x.block k (by omega) (by omega)).trans (b.block k hk)⟩

theorem HasB.grown0 {w w' : World} {b : Nat} {cs : Array Value} {t : TypeId} {v : Value} {base e size n : Nat} {xs : List Value} (h : HasB w b cs t) (hown : w.ownsRow base e size v n xs) (hb : b < base) (hg : w.grownBy w' v.ownBlock) : HasB w' b cs t :=
  (hg.block b h.lt (fun hh => by have := (hown.lt b hh.symm).1; omega)).trans h
theorem ButB.grown0 {T B : Nat} {w w' : World} {v : Value} {e size n : Nat} {xs : List Value} (hown : w.ownsRow B e size v n xs) (hB : B ≤ w.heap.size) (hg : w.grownBy w' v.ownBlock) : ButB T B w w' :=
  ⟨hg.os, hg.tape, hg.output, hg.size, fun k hk _ => hg.block k (by omega) (fun hh => by have := (hown.lt k hh.symm).1; omega)⟩

/-- A block that is known whole, and is no bytes', is none that a row of bytes lies in. -/
theorem HasB.ne_own {w : World} {b : Nat} {cs : Array Value} {t : TypeId} {base e size n : Nat} {v : Value} {xs : List Value} (h : HasB w b cs t) (hown : w.ownsRow base e size v n xs) (hne : t ≠ e) : v.ownBlock ≠ some b := by
  intro hv
  rcases hown.2 with ⟨rfl, -⟩ | ⟨g, cap, cur, rfl, -, hg, -⟩
  · cases hv
  · have hgb : g = b := by simpa [Value.ownBlock] using hv
    subst hgb
    have h2 := h.symm.trans hg
    injection h2 with h3
    injection h3 with h4 h5 h6
    exact hne h5
theorem Rest.grown0 {S : Nat → Prop} {w w' : World} {v : Value} (hg : w.grownBy w' v.ownBlock) (hS : ∀ k, v.ownBlock = some k → S k) : Rest S w w' :=
  ⟨hg.os, hg.tape, hg.output, hg.size, fun k hk hn => hg.block k hk (fun hh => hn (hS k hh.symm))⟩

theorem HasB.eight {w : World} {b : Nat} {t : TypeId} {v0 v1 v2 v3 v4 v5 v6 v7 : Value} (h : HasB w b #[v0, v1, v2, v3, v4, v5, v6, v7] t) :
    (w.cell? ⟨b, 0, none⟩ = some v0 ∧ w.cell? ⟨b, 1, none⟩ = some v1 ∧ w.cell? ⟨b, 2, none⟩ = some v2 ∧ w.cell? ⟨b, 3, none⟩ = some v3 ∧ w.cell? ⟨b, 4, none⟩ = some v4 ∧ w.cell? ⟨b, 5, none⟩ = some v5 ∧ w.cell? ⟨b, 6, none⟩ = some v6 ∧ w.cell? ⟨b, 7, none⟩ = some v7) ∧ ∀ o, w.frozen? ⟨b, o, none⟩ = false :=
  ⟨⟨h.cell 0, h.cell 1, h.cell 2, h.cell 3, h.cell 4, h.cell 5, h.cell 6, h.cell 7⟩, h.free⟩

theorem info_u8 : (Tryz.prog.info? 5).map (fun i => (i.zero, i.size, i.bytes)) = some (some (.int .u8 0), 1, 1) := by kernel_rfl

theorem builder_size : (Tryz.prog.info? 46).map (·.size) = some 2 := by kernel_rfl
theorem builder_lies : liesAt Tryz.prog Tryz.prog.depth 52 (8 / Tryz.prog.cellsOf 52) 1 46 1 = true := by kernel_rfl
theorem TellAt.shape {w : World} {T m : Nat} {ba buf : Value} {nm : Nat} {c0 : Int} {wl : Value} {at_ : Int} (H : TellAt w T m ba buf nm c0 wl at_) : w.shape? T = some (52, 8) := by
  unfold TellAt HasB at H
  simp [World.shape?, H]

set_option maxRecDepth 200000 in
theorem Builder_copyCheck_used (T m : Nat) (buf : Value) (nm : Nat) (c0 : Int) (wl : Value) (at_ : Int) (w : World) (H : TellAt w T m (.pointer (some ⟨T, 1, none⟩)) buf nm c0 wl at_) :
    Calls Tryz.prog 47 #[.pointer (some ⟨T, 1, none⟩)] w fun e w' => e = .returned (.tuple #[]) ∧ w = w' := by
  obtain ⟨j, hj, _⟩ := Option.map_eq_some_iff.1 builder_size
  obtain ⟨⟨q0, q1, q2, q3, q4, q5, q6, q7⟩, qf⟩ := HasB.eight H
  go_enter Tryz.func47, Tryz.ntmps47
  go_wp2
  rw [Lib.run_neq_ptr_same w _ Tryz.underlying43 hj]
  go_wp2
  go_end0
  exact ⟨rfl, rfl⟩
set_option maxRecDepth 200000 in
theorem Builder_copyCheck_fresh (T m : Nat) (buf : Value) (nm : Nat) (c0 : Int) (wl : Value) (at_ : Int) (w : World) (H : TellAt w T m (.pointer none) buf nm c0 wl at_) :
    Calls Tryz.prog 47 #[.pointer (some ⟨T, 1, none⟩)] w fun e w' => e = .returned (.tuple #[]) ∧ w.setCell ⟨T, 1, none⟩ (.pointer (some ⟨T, 1, none⟩)) = w' := by
  obtain ⟨j, hj, hjs⟩ := Option.map_eq_some_iff.1 builder_size
  have hsh := H.shape
  obtain ⟨⟨q0, q1, q2, q3, q4, q5, q6, q7⟩, qf⟩ := HasB.eight H
  go_enter Tryz.func47, Tryz.ntmps47
  go_wp2
  rw [Lib.run_to_unsafe w ⟨T, 1, none⟩ Tryz.underlying43 Tryz.underlying140 hj (by rw [hjs]; decide) hsh (by show 1 < 8; omega)]
  simp only [Result.andThen]
  rw [Oper.upon_value]
  go_wp2
  rw [run_callFunc_extern Tryz.func72 (by kernel_rfl) (by kernel_rfl) (by kernel_rfl) (e := Extern.AbiNoEscape.same) (by kernel_rfl)]
  rw [Lib.run_noEscape]
  simp only [Result.andThen]
  rw [Oper.upon_value]
  go_wp2
  rw [Lib.run_from_unsafe w ⟨T, 1, none⟩ Tryz.underlying140 Tryz.underlying43 hj hsh builder_lies]
  simp only [Result.andThen]
  rw [Oper.upon_value]
  go_wp2
  go_end0
  exact ⟨rfl, rfl⟩

/-- What a teller's builder is, when so much is written. -/
def Wrote (w : World) (T : Nat) (ba buf : Value) (B : Nat) (l : List UInt8) : Prop :=
  (ba = .pointer none ∨ ba = .pointer (some ⟨T, 1, none⟩)) ∧ w.ownsRow B 5 1 buf l.length (bv l)

set_option maxRecDepth 200000 in
theorem Builder_WriteString (T m : Nat) (ba buf : Value) (nm : Nat) (c0 : Int) (wl : Value) (at_ : Int) (B : Nat) (l : List UInt8) (s : ByteArray) (w : World)
    (H : TellAt w T m ba buf nm c0 wl at_) (hW : Wrote w T ba buf B l) (hT : T < B) (hB : B ≤ w.heap.size) (hl : l.length + s.size ≤ 100000) (_hs : 0 < s.size) :
    Calls Tryz.prog 20 #[.pointer (some ⟨T, 1, none⟩), .string s] w fun e w' => (∃ r, e = .returned r) ∧ ∃ buf', TellAt w' T m (.pointer (some ⟨T, 1, none⟩)) buf' nm c0 wl at_ ∧ Wrote w' T (.pointer (some ⟨T, 1, none⟩)) buf' B (l ++ s.data.toList) ∧ ButB T B w w' ∧ Rest (fun k => k = T ∨ buf.ownBlock = some k) w w' := by
  obtain ⟨i0, hi, hz0, hz1, hz2⟩ := info_parts info_u8
  obtain ⟨hba, hown⟩ := hW
  have hB0 := ButB.refl T B w
  have hlt := HasB.lt H
  have HL := Lib.hid hl
  clear hl
  obtain ⟨w1, H1, hown1, hb1, hr1, hc⟩ : ∃ w1, TellAt w1 T m (.pointer (some ⟨T, 1, none⟩)) buf nm c0 wl at_ ∧ w1.ownsRow B 5 1 buf l.length (bv l) ∧ ButB T B w w1 ∧ Rest (fun k => k = T ∨ buf.ownBlock = some k) w w1 ∧
      Calls Tryz.prog 47 #[.pointer (some ⟨T, 1, none⟩)] w fun e w' => e = .returned (.tuple #[]) ∧ w1 = w' := by
    rcases hba with rfl | rfl
    · refine ⟨w.setCell ⟨T, 1, none⟩ (.pointer (some ⟨T, 1, none⟩)), ?_, ownsRow_far hown (by simpa using hT) _, hB0.set _ _ rfl, Rest.ofBut ((But.refl T w).set _ _ (.inl rfl)) (.inl rfl), Builder_copyCheck_fresh T m buf nm c0 wl at_ w H⟩
      have h := HasB.set H 1 (.pointer (some ⟨T, 1, none⟩))
      simp at h
      exact h
    · exact ⟨w, H, hown, hB0, Rest.refl _ w, Builder_copyCheck_used T m buf nm c0 wl at_ w H⟩
  have hBs := Nat.le_trans hB hb1.size
  obtain ⟨⟨q0, q1, q2, q3, q4, q5, q6, q7⟩, qf⟩ := HasB.eight H1
  have HH1 := Lib.hid H1
  have HO1 := Lib.hid hown1
  have HB1 := Lib.hid hb1
  clear H1 hown1 hb1 H hown hB0
  go_enter Tryz.func20, Tryz.ntmps20
  go_wp2_with (first
    | (go_at_call 47; refine hc.mono ?_; rintro e w' ⟨rfl, rfl⟩)
    | (at_builtin; go_must (refine Lib.wpList_append_own_string _ rfl _ _ 44 9 rfl B 5 i0 Tryz.underlying44 Tryz.underlying9 hi hz0 hz1 hz2 buf l.length (bv l) rfl HO1.out s rfl (by have := HL.out; unfold maxLen; omega) (by have := HL.out; omega) hBs ?_)))
  intro v1 w2 hown2 hg2 _
  have H2 : TellAt w2 T m (.pointer (some ⟨T, 1, none⟩)) buf nm c0 wl at_ := HasB.grown0 HH1.out HO1.out hT hg2
  have hb2 : ButB T B w w2 := HB1.out.trans (ButB.grown0 HO1.out hBs hg2)
  have r2 : w2.cell? ⟨T, 2, none⟩ = some buf := HasB.cell H2 2
  have rf := HasB.free H2 2
  have hr2 : Rest (fun k => k = T ∨ buf.ownBlock = some k) w w2 := hr1.trans (Rest.grown0 hg2 (fun k h => .inr h))
  have HR2 := Lib.hid hr2
  clear hr2 hr1
  obtain ⟨a1, c1, rfl⟩ := own_shape hown2
  have HH2 := Lib.hid H2
  have HO2 := Lib.hid hown2
  have HB2 := Lib.hid hb2
  clear H2 hown2 hb2 hg2
  go_wp2
  go_returns
  refine ⟨⟨_, rfl⟩, .slice a1 (l.length + s.size) c1, ?_, ⟨.inr rfl, ?_⟩, HB2.out.set _ _ rfl, HR2.out.trans (Rest.ofBut ((But.refl T w2).set _ _ (.inl rfl)) (.inl rfl))⟩
  · have h := HasB.set HH2.out 2 (.slice a1 (l.length + s.size) c1)
    simp at h
    exact h
  · have hlen : (l ++ s.data.toList).length = l.length + s.size := by rw [List.length_append, bytes_length]
    rw [hlen, bv_append]
    exact ownsRow_far HO2.out (by simpa using hT) _
end Go.Proofs.YtpafbjghlgjfcaaGreatDoor
