/-
  A text's units; how a unit is quoted. Contracts of ustr.unit and of quillref01's at, Unit, Len at any text of whole units. Contracts of ustr.Units, lexer.escaped and quillref06.escaped: a text's units, and a unit's escape behind a row of bytes. A contract of lexer.escaped: a unit's escape behind a row of bytes. (Printed by wip/tools/genesc.py.) A contract of lexer.Quote at a text of whole units. (Printed by wip/tools/genlex.py.) A contract of quillref06.Quote at a text of whole units. (Printed by wip/tools/genlex.py.)
-/
import Derived.Test.YtelgobelbeabaaaGreatDoorShM6
import Derived.Test.YtelgobelbeabaaaGreatDoorShM11
import Derived.Deep.QuietTactic
import Derived.BigQuiet
import Derived.Deep.AppendLies
import Derived.Lib.Hide
namespace Go.Proofs.YtelgobelbeabaaaGreatDoor
open Go.RowKit
namespace Us
open Nv

/-- A text's k-th unit. -/
def un (s : ByteArray) (k : Nat) : Nat := (s.data.toList.getD (2 * k) 0).toNat * 256 + (s.data.toList.getD (2 * k + 1) 0).toNat
theorem un_lt (s : ByteArray) (k : Nat) : un s k < 65536 := by
  have h1 := (s.data.toList.getD (2 * k) 0).toNat_lt
  have h2 := (s.data.toList.getD (2 * k + 1) 0).toNat_lt
  unfold un
  omega
/-- A digit's letter, to the base of 16. -/
def hx (d : Nat) : UInt8 := if d < 10 then UInt8.ofNat (48 + d) else UInt8.ofNat (55 + d)
/-- A unit as it is quoted. -/
def esc (u : Nat) : List UInt8 :=
  if u = 34 ∨ u = 92 then [92, UInt8.ofNat u] else if 32 ≤ u ∧ u ≤ 126 then [UInt8.ofNat u]
  else [92, 117, hx (u / 4096), hx (u / 256 % 16), hx (u / 16 % 16), hx (u % 16)]
/-- The first k units, quoted, behind the mark. -/
def qk (s : ByteArray) : Nat → List UInt8
  | 0 => [34]
  | k + 1 => qk s k ++ esc (un s k)
theorem esc_len (u : Nat) : (esc u).length ≤ 6 := by
  unfold esc
  split
  · simp
  · split <;> simp
theorem qk_len (s : ByteArray) (k : Nat) : (qk s k).length ≤ 6 * k + 1 := by
  induction k with
  | zero => simp [qk]
  | succ k ih =>
    have := esc_len (un s k)
    show (qk s k ++ esc (un s k)).length ≤ _
    rw [List.length_append]
    omega
theorem hx_range {d : Nat} (h : d < 16) : 32 ≤ (hx d).toNat ∧ (hx d).toNat ≤ 126 := by
  unfold hx
  split
  · rw [UInt8.toNat_ofNat']
    omega
  · rw [UInt8.toNat_ofNat']
    omega
theorem esc_range {u : Nat} (h : u < 65536) : ∀ b ∈ esc u, 32 ≤ b.toNat ∧ b.toNat ≤ 126 := by
  intro b hb
  unfold esc at hb
  split at hb
  · rename_i g
    simp only [List.mem_cons, List.not_mem_nil, or_false] at hb
    rcases hb with rfl | rfl
    · decide
    · rw [UInt8.toNat_ofNat']
      omega
  · split at hb
    · rename_i g
      rw [List.mem_singleton.1 hb, UInt8.toNat_ofNat']
      omega
    · simp only [List.mem_cons, List.not_mem_nil, or_false] at hb
      rcases hb with rfl | rfl | rfl | rfl | rfl | rfl
      · decide
      · decide
      all_goals exact hx_range (by omega)
theorem qk_range (s : ByteArray) (k : Nat) : ∀ b ∈ qk s k, 32 ≤ b.toNat ∧ b.toNat ≤ 126 := by
  induction k with
  | zero =>
    intro b hb
    rw [List.mem_singleton.1 hb]
    decide
  | succ k ih =>
    intro b hb
    rcases List.mem_append.1 hb with hb | hb
    · exact ih b hb
    · exact esc_range (un_lt s k) b hb
theorem byte_at {s : ByteArray} {i : Nat} (h : i < s.size) : (s[i]).toNat = (s.data.toList.getD i 0).toNat := by
  have h2 : i < s.data.toList.length := by rw [Array.length_toList]; exact h
  rw [List.getD_eq_getElem?_getD, List.getElem?_eq_getElem h2]
  rfl
theorem or_unit {a b : Nat} (ha : a < 256) (hb : b < 256) : bits .or .u16 ((a : Int) * 256) (b : Int) = ((a * 256 + b : Nat) : Int) := by
  have h := bits_join .u16 16 (by decide) (fun n h1 h2 => by rw [IntKind.wrap_u16]; omega) 8 ((a : Int) * 256) (b : Int) (by omega) (by omega) (by omega) (by omega) (by omega) (by omega)
  rw [h]
  omega
theorem sh_unit {s : ByteArray} {n k : Nat} (hs : s.size = 2 * n) (hn : n ≤ 8000000) (h : k < n) (w : World) : Calls Tryz.prog 25 #[.string s, .int .i64 (k : Int)] w fun e w' => e = .returned (.int .u16 (un s k : Int)) ∧ ∃ q, w' = w.drewN q := by
  obtain ⟨j, hj⟩ : ∃ j, 2 * k = j := ⟨_, rfl⟩
  obtain ⟨i, hi⟩ : ∃ i, 2 * k + 1 = i := ⟨_, rfl⟩
  have hj1 : j < s.size := by omega
  have hi1 : i < s.size := by omega
  have hw1 : IntKind.i64.wrap (2 * (k : Int)) = (j : Int) := by rw [IntKind.wrap_i64] <;> omega
  have hw2 : IntKind.i64.wrap ((j : Int) + 1) = (i : Int) := by rw [IntKind.wrap_i64] <;> omega
  have b1 := byte_at hj1
  have b2 := byte_at hi1
  have hu : un s k = (s.data.toList.getD j 0).toNat * 256 + (s.data.toList.getD i 0).toNat := by unfold un; rw [hj, show j + 1 = i by omega]
  rw [hu]
  have l1 := (s.data.toList.getD j 0).toNat_lt
  have l2 := (s.data.toList.getD i 0).toNat_lt
  generalize (s.data.toList.getD j 0).toNat = a at *
  generalize (s.data.toList.getD i 0).toNat = b at *
  have hor := or_unit l1 l2
  clear hj hi h hu
  go_enter Tryz.func25, Tryz.ntmps25
  go_wp2_with fail
  go_quiet (fail)
  go_wp2
  go_ret
  exact ⟨by first | rfl | (rw [hor]), _, rfl⟩
end Us
end Go.Proofs.YtelgobelbeabaaaGreatDoor
namespace Go.Proofs.YtelgobelbeabaaaGreatDoor
open Go.RowKit
namespace Us
open Nv

theorem info_u16 : (Tryz.prog.info? 53).map (fun i => (i.zero, i.size, i.bytes)) = some (some (.int .u16 0), 1, 2) := by kernel_rfl
/-- The units as they lie in memory. -/
def uv (s : ByteArray) (n : Nat) : List Value := (List.range n).map fun k => .int .u16 (un s k : Int)
theorem uv_succ (s : ByteArray) (n : Nat) : uv s (n + 1) = uv s n ++ [.int .u16 (un s n : Int)] := by unfold uv; rw [List.range_succ, List.map_append]; rfl
theorem sh_Len {s : ByteArray} {n : Nat} (hs : s.size = 2 * n) (hn : n ≤ 8000000) (w : World) : Calls Tryz.prog 24 #[.string s] w fun e w' => e = .returned (.int .i64 (n : Int)) ∧ w' = w := by
  go_enter Tryz.func24, Tryz.ntmps24
  go_wp2
  go_ret
  exact ⟨by first | rfl | (congr 2; omega), rfl⟩
set_option maxRecDepth 100000 in
theorem sh_Units {s : ByteArray} {n : Nat} (hs : s.size = 2 * n) (hn : n ≤ 600000) (w : World) :
    Calls Tryz.prog 63 #[.string s] w fun e w' => ∃ v, e = .returned v ∧ w'.ownsRow w.heap.size 53 1 v n (uv s n) ∧ Below w.heap.size w w' := by
  obtain ⟨i0, hi, hz0, hz1, hz2⟩ := info_parts info_u16
  have hlen := Far.mk (sh_Len hs (by omega))
  have hU := fun k h => Far.mk (sh_unit hs (by omega) (k := k) h)
  clear hs
  go_enter Tryz.func63, Tryz.ntmps63
  go_wp2_with fail
  with_reducible refine (hlen.out _).mono ?_
  rintro e w' ⟨rfl, hw⟩
  replace hw := hw.symm
  subst hw
  go_wp2_with fail
  go_loopw [3, 7] (fun v i wr => ∃ k : Nat, k ≤ n ∧ i = .int .i64 k ∧ wr.ownsRow w.heap.size 53 1 v k (uv s k) ∧ Far (Below w.heap.size w wr))
    (fun i' i _ => n - (intOf i).toNat)
  case atStart => exact ⟨0, Nat.zero_le _, rfl, World.ownsRow_nil _ _ _ _, ⟨Below.refl _ _⟩⟩
  case round =>
    obtain ⟨k, hk, rfl, hown, hb⟩ := hrel
    have hbs := hb.out.size
    by_cases hlt : k < n
    · have HW := Far.mk (uv_succ s k)
      have hUk := hU k hlt
      have hu := un_lt s k
      obtain ⟨c, hc⟩ : ∃ c, un s k = c := ⟨_, rfl⟩
      rw [hc] at HW hUk hu
      clear hc
      go_wp2_with (first
        | (go_at_call 25; go_must (with_reducible refine (hUk.out _).mono ?_); rintro e w' ⟨rfl, q, rfl⟩; replace hown : (wr.drewN q).ownsRow w.heap.size 53 1 _ k _ := hown; replace hb : Far (Below w.heap.size w (wr.drewN q)) := ⟨Go.below_drewN hb.out _⟩; have hbs := hb.out.size)
        | (at_builtin; go_must (refine wpList_append_own _ rfl _ _ 105 rfl w.heap.size 53 i0 (.int .u16 0) 1 2 Tryz.underlying105 hi hz0 hz1 hz2 rfl (by decide) _ k _ rfl (hown.alloc _) ⟨_, 0, none⟩ 1 1 [.int .u16 (c : Int)] rfl rfl (World.news_of_block (cs := #[.int .u16 (c : Int)]) (t := 53) (fr := (0, 0)) (heap_alloc_new _ _)) (by simp [Value.oneCell']) (by unfold maxLen; omega) (by omega) (by simp; omega) ?_)))
      intro v' w2 hown2 hg2 _
      rw [← HW.out] at hown2
      have hb2 := Far.mk (below_grown hb.out (by omega) hown (Nat.le_refl _) hg2)
      clear hown hg2 hb
      go_wp2
      go_roundw
      case rel => exact ⟨k + 1, by omega, by go_num, hown2, hb2⟩
      case measure => simp [intOf]; omega
    · have hke : k = n := by omega
      subst hke
      go_wp2
      go_ret
      exact ⟨_, rfl, hown, hb.out⟩
/-- Rows of units stay. -/
def Keep16 (w w' : World) : Prop := ∀ (g : Nat) (cur : Array Value) (fr : Nat × Nat), w.heap[g]? = some (Obj.cells cur 53 fr) → w'.heap[g]? = some (Obj.cells cur 53 fr)
theorem Keep16.refl (w : World) : Keep16 w w := fun _ _ _ h => h
theorem Keep16.trans {w w1 w2 : World} (h : Keep16 w w1) (k : Keep16 w1 w2) : Keep16 w w2 := fun g c f hg => k g c f (h g c f hg)
theorem keep16_append {w w' : World} {o : Obj} {v : Value} {base : Nat} {l : List UInt8} (hown : B8 w base v l) (hg : (w.alloc o).grownBy w' v.ownBlock) : Keep16 w w' := by
  intro g cur fr h
  have hlt : g < w.heap.size := by
    rcases Nat.lt_or_ge g w.heap.size with k | k
    · exact k
    · rw [Array.getElem?_eq_none k] at h
      cases h
  have ha : (w.alloc o).heap[g]? = some (Obj.cells cur 53 fr) := by
    show (w.heap.push o)[g]? = _
    rw [Array.getElem?_push_lt hlt]
    rw [Array.getElem?_eq_getElem hlt] at h
    exact h
  rw [← ha]
  refine hg.block g (by show g < (w.heap.push o).size; rw [Array.size_push]; omega) ?_
  intro hh
  rcases hown.2 with ⟨rfl, -⟩ | ⟨g', cap, cur', rfl, -, hh', -⟩
  · cases hh
  · obtain rfl : g = g' := Option.some.inj hh
    rw [h] at hh'
    cases hh'
/-- append(v, a fresh block's bytes..), in a region that draws its order. -/
theorem wp_append_new {w : World} {o : Oper} {a : Act} {K : Act → World → Prop} {Q : Exit → Act → World → Prop} (s x : Operand)
    (ho : o.op = .call { callee := .builtin .append, args := #[s, x], argTypes := #[51, 51] }) (base : Nat) {v : Value} {xs bs : List UInt8} {cs : Array Value} {n : Nat}
    (hs : a.eval s = v) (hown : B8 w base v xs) (hx : a.eval x = .slice (some ⟨w.heap.size, 0, none⟩) n n) (hn : bs.length = n) (hcs : cs = (bv bs).toArray) (hlen : xs.length + bs.length ≤ 4000000) (hbase : base ≤ w.heap.size)
    (h : ∀ v' w', B8 w' base v' (xs ++ bs) → (w.alloc (.cells cs 5)).grownBy w' v.ownBlock → K (a.put o.dst v') w') : o.wp Tryz.prog a (w.alloc (.cells cs 5)) K Q := by
  obtain ⟨i0, hi, hz0, hz1, hz2⟩ := info_parts info_byte
  subst hcs
  subst hn
  refine wp_append_own _ s x 51 ho base 5 i0 (.int .u8 0) 1 1 Tryz.underlying51 hi hz0 hz1 hz2 rfl (by decide) v _ _ hs (hown.alloc _) ⟨w.heap.size, 0, none⟩ bs.length bs.length (bv bs) hx (by unfold bv; simp)
    (fun j u hj => World.news_of_block (w := w.alloc (.cells (bv bs).toArray 5)) (cs := (bv bs).toArray) (t := 5) (fr := (0, 0)) (heap_alloc_new _ _) j u (by simpa using hj)) (bv_one _) (by unfold maxLen; omega) (by omega) (by simp; omega) fun v' w' h2 h3 _ => h v' w' ?_ h3
  unfold B8
  rw [List.length_append, bv_append]
  exact h2
theorem hex_hx : ∀ z : Fin 16, ((⟨#[48, 49, 50, 51, 52, 53, 54, 55, 56, 57, 65, 66, 67, 68, 69, 70]⟩ : ByteArray)[z.1]'(z.2)) = hx z.1 := by decide
theorem and_15 {x : Nat} (h : x < 65536) : bits .and .u16 (x : Int) 15 = ((x % 16 : Nat) : Int) := by
  have h := bits_mask .u16 16 (by decide) (fun n h1 h2 => by rw [IntKind.wrap_u16]; omega) 4 (by decide) (x : Int) (by omega) (by omega)
  rw [show ((2 : Int) ^ 4 - 1) = 15 by decide, show ((2 : Int) ^ 4) = 16 by decide] at h
  rw [h]
  omega
/-- What escaped tells. -/
def EscQ (base : Nat) (l : List UInt8) (u : Nat) (w : World) (x : Ending) (w' : World) : Prop := ∃ v, x = .returned v ∧ B8 w' base v (l ++ [92, 117, hx (u / 4096), hx (u / 256 % 16), hx (u / 16 % 16), hx (u % 16)]) ∧ Below base w w' ∧ Keep16 w w'
set_option maxRecDepth 100000 in
set_option maxHeartbeats 2000000 in
theorem ref_escaped {base u : Nat} {v : Value} {l : List UInt8} {w : World} (hown : B8 w base v l) (hb : base ≤ w.heap.size) (hu : u < 65536) (hl : l.length ≤ 3900000) :
    Calls Tryz.prog 37 #[v, .int .u16 (u : Int)] w (EscQ base l u w) := by
  have h1 := and_15 (x := u / 256) (by omega)
  have h2 := and_15 (x := u / 16) (by omega)
  have h3 := and_15 hu
  rw [show ((u / 256 : Nat) : Int) = (u : Int) / 256 by omega] at h1
  rw [show ((u / 16 : Nat) : Int) = (u : Int) / 16 by omega] at h2
  obtain ⟨a0, e0⟩ : ∃ a, u / 4096 = a := ⟨_, rfl⟩
  obtain ⟨a1, e1⟩ : ∃ a, u / 256 % 16 = a := ⟨_, rfl⟩
  obtain ⟨a2, e2⟩ : ∃ a, u / 16 % 16 = a := ⟨_, rfl⟩
  obtain ⟨a3, e3⟩ : ∃ a, u % 16 = a := ⟨_, rfl⟩
  have h0 : (u : Int) / 4096 = (a0 : Int) := by omega
  rw [e1] at h1
  rw [e2] at h2
  rw [e3] at h3
  unfold EscQ
  rw [e0, e1, e2, e3]
  have l0 : a0 < 16 := by omega
  have l1 : a1 < 16 := by omega
  have l2 : a2 < 16 := by omega
  have l3 : a3 < 16 := by omega
  have g0 := Far.mk (hex_hx ⟨a0, l0⟩)
  have g1 := Far.mk (hex_hx ⟨a1, l1⟩)
  have g2 := Far.mk (hex_hx ⟨a2, l2⟩)
  have g3 := Far.mk (hex_hx ⟨a3, l3⟩)
  have k0 : (a0 : Int) < 16 := by omega
  have k1 : (a1 : Int) < 16 := by omega
  have k2 : (a2 : Int) < 16 := by omega
  have k3 : (a3 : Int) < 16 := by omega
  clear e0 e1 e2 e3
  go_enter Tryz.func37, Tryz.ntmps37
  go_wp2_with fail
  refine wp_region_held (S := fun V => base ≤ V.heap.size) (by kernel_rfl) ?_
  have hS : base ≤ w.drew.heap.size := hb
  have hB1 : B8 w.drew base v l := hown.drewN 1
  simp only [List.size_toArray, List.length_cons, List.length_nil]
  refine wpAnyH_take (i := 0) (v := v) rfl (by kernel_rfl) (by kernel_rfl) (by kernel_rfl) (fun _ _ _ h => h) (Or.inl ⟨by rfl, fun V hV => by go_simp⟩) hS ?_
  simp [Act.put]
  refine wpAnyH_take (i := 1) (v := .int .u16 (u : Int)) rfl (by kernel_rfl) (by kernel_rfl) (by kernel_rfl) (fun _ _ _ h => h) (Or.inl ⟨by rfl, fun V hV => by go_simp⟩) hS ?_
  simp [Act.put]
  refine wpAnyH_take (i := 2) (v := .int .u16 (a0 : Int)) rfl (by kernel_rfl) (by kernel_rfl) (by kernel_rfl) (fun _ _ _ h => h) (Or.inl ⟨by rfl, fun V hV => by go_simp⟩) hS ?_
  simp [Act.put]
  refine wpAnyH_take (i := 3) (v := .int .u8 ((hx a0).toNat : Int)) rfl (by kernel_rfl) (by kernel_rfl) (by kernel_rfl) (fun _ _ _ h => h) (Or.inl ⟨by rfl, fun V hV => by (go_simp; exact congrArg (fun b : UInt8 => (b.toNat : Int)) g0.out)⟩) hS ?_
  simp [Act.put]
  refine wpAnyH_take (i := 4) (v := .int .u16 (u : Int)) rfl (by kernel_rfl) (by kernel_rfl) (by kernel_rfl) (fun _ _ _ h => h) (Or.inl ⟨by rfl, fun V hV => by go_simp⟩) hS ?_
  simp [Act.put]
  refine wpAnyH_take (i := 5) (v := .int .u16 ((u : Int) / 256)) rfl (by kernel_rfl) (by kernel_rfl) (by kernel_rfl) (fun _ _ _ h => h) (Or.inl ⟨by rfl, fun V hV => by go_simp⟩) hS ?_
  simp [Act.put]
  refine wpAnyH_take (i := 6) (v := .int .u16 (a1 : Int)) rfl (by kernel_rfl) (by kernel_rfl) (by kernel_rfl) (fun _ _ _ h => h) (Or.inl ⟨by rfl, fun V hV => by go_simp⟩) hS ?_
  simp [Act.put]
  refine wpAnyH_take (i := 7) (v := .int .u8 ((hx a1).toNat : Int)) rfl (by kernel_rfl) (by kernel_rfl) (by kernel_rfl) (fun _ _ _ h => h) (Or.inl ⟨by rfl, fun V hV => by (go_simp; exact congrArg (fun b : UInt8 => (b.toNat : Int)) g1.out)⟩) hS ?_
  simp [Act.put]
  refine wpAnyH_take (i := 8) (v := .int .u16 (u : Int)) rfl (by kernel_rfl) (by kernel_rfl) (by kernel_rfl) (fun _ _ _ h => h) (Or.inl ⟨by rfl, fun V hV => by go_simp⟩) hS ?_
  simp [Act.put]
  refine wpAnyH_take (i := 9) (v := .int .u16 ((u : Int) / 16)) rfl (by kernel_rfl) (by kernel_rfl) (by kernel_rfl) (fun _ _ _ h => h) (Or.inl ⟨by rfl, fun V hV => by go_simp⟩) hS ?_
  simp [Act.put]
  refine wpAnyH_take (i := 10) (v := .int .u16 (a2 : Int)) rfl (by kernel_rfl) (by kernel_rfl) (by kernel_rfl) (fun _ _ _ h => h) (Or.inl ⟨by rfl, fun V hV => by go_simp⟩) hS ?_
  simp [Act.put]
  refine wpAnyH_take (i := 11) (v := .int .u8 ((hx a2).toNat : Int)) rfl (by kernel_rfl) (by kernel_rfl) (by kernel_rfl) (fun _ _ _ h => h) (Or.inl ⟨by rfl, fun V hV => by (go_simp; exact congrArg (fun b : UInt8 => (b.toNat : Int)) g2.out)⟩) hS ?_
  simp [Act.put]
  refine wpAnyH_take (i := 12) (v := .int .u16 (u : Int)) rfl (by kernel_rfl) (by kernel_rfl) (by kernel_rfl) (fun _ _ _ h => h) (Or.inl ⟨by rfl, fun V hV => by go_simp⟩) hS ?_
  simp [Act.put]
  refine wpAnyH_take (i := 13) (v := .int .u16 (a3 : Int)) rfl (by kernel_rfl) (by kernel_rfl) (by kernel_rfl) (fun _ _ _ h => h) (Or.inl ⟨by rfl, fun V hV => by go_simp⟩) hS ?_
  simp [Act.put]
  refine wpAnyH_take (i := 14) (v := .int .u8 ((hx a3).toNat : Int)) rfl (by kernel_rfl) (by kernel_rfl) (by kernel_rfl) (fun _ _ _ h => h) (Or.inl ⟨by rfl, fun V hV => by (go_simp; exact congrArg (fun b : UInt8 => (b.toNat : Int)) g3.out)⟩) hS ?_
  simp [Act.put]
  refine wpAnyH_ready (rs := [15]) (by kernel_rfl) (by simp) (AllReadyH.cons rfl (fun K hK => ?_) AllReadyH.nil)
  rw [if_pos (by rfl)]
  go_wp2_with fail
  refine hK.out _ _ (by show base ≤ (w.heap.push _).size; rw [Array.size_push]; omega) (fun _ => ?_)
  clear hK
  refine wpAnyH_ready (rs := [16]) (by kernel_rfl) (by simp) (AllReadyH.cons rfl (fun K hK => ?_) AllReadyH.nil)
  rw [if_pos (by rfl)]
  refine wp_append_new (w := w.drew) (v := v) _ _ rfl base (bs := [92, 117, hx a0, hx a1, hx a2, hx a3]) (n := 6) rfl hB1 rfl rfl rfl (by simp only [List.length_cons, List.length_nil]; omega) hb ?_
  intro v' w2 hB2 hg2
  have hb2 : Below base w w2 := below_grown (Go.below_drewN (Below.refl _ _) 1) hb hB1 (Nat.le_refl _) hg2
  have hk2 : Keep16 w w2 := Keep16.trans (w1 := w.drew) (fun _ _ _ h => h) (keep16_append hB1 hg2)
  refine hK.out _ _ (Nat.le_trans hb hb2.size) (fun _ => ?_)
  clear hK
  simp [Act.put]
  refine wpAnyH_ready (rs := [17]) (by kernel_rfl) (by simp) (AllReadyH.cons rfl (fun K hK => ?_) AllReadyH.nil)
  rw [if_pos (by rfl)]
  go_wp2_with fail
  refine hK.out _ _ (Nat.le_trans hb hb2.size) (fun _ => ?_)
  refine wpAnyH_done (by kernel_rfl) ?_ _
  go_wp2_with fail
  go_returns
  exact ⟨_, rfl, hB2, hb2, hk2⟩
end Us
end Go.Proofs.YtelgobelbeabaaaGreatDoor
namespace Go.Proofs.YtelgobelbeabaaaGreatDoor
open Go.RowKit
namespace Us
open Nv

/-- The escape's first letters. -/
def ek (u : Nat) : Nat → List UInt8
  | 0 => [92, 117]
  | m + 1 => ek u m ++ [hx (u / 16 ^ (3 - m) % 16)]
theorem ek_four {u : Nat} (h : u < 65536) : ek u 4 = [92, 117, hx (u / 4096), hx (u / 256 % 16), hx (u / 16 % 16), hx (u % 16)] := by
  have : u / 4096 % 16 = u / 4096 := by omega
  simp [ek, this]
theorem ek_len (u m : Nat) : (ek u m).length = m + 2 := by
  induction m with
  | zero => rfl
  | succ m ih => show (ek u m ++ [_]).length = _; rw [List.length_append, ih]; rfl
set_option maxRecDepth 100000 in
set_option maxHeartbeats 4000000 in
theorem lex_escaped {base u : Nat} {v : Value} {l : List UInt8} {w : World} (hown : B8 w base v l) (hb : base ≤ w.heap.size) (hu : u < 65536) (hl : l.length ≤ 3900000) :
    Calls Tryz.prog 64 #[v, .int .u16 (u : Int)] w (EscQ base l u w) := by
  have h0 := and_15 (x := u / 4096) (by omega)
  have h1 := and_15 (x := u / 256) (by omega)
  have h2 := and_15 (x := u / 16) (by omega)
  have h3 := and_15 hu
  rw [show ((u / 4096 : Nat) : Int) = (u : Int) / 4096 by omega] at h0
  rw [show ((u / 256 : Nat) : Int) = (u : Int) / 256 by omega] at h1
  rw [show ((u / 16 : Nat) : Int) = (u : Int) / 16 by omega] at h2
  obtain ⟨a0, e0⟩ : ∃ a, u / 4096 % 16 = a := ⟨_, rfl⟩
  obtain ⟨a1, e1⟩ : ∃ a, u / 256 % 16 = a := ⟨_, rfl⟩
  obtain ⟨a2, e2⟩ : ∃ a, u / 16 % 16 = a := ⟨_, rfl⟩
  obtain ⟨a3, e3⟩ : ∃ a, u % 16 = a := ⟨_, rfl⟩
  rw [e0] at h0
  rw [e1] at h1
  rw [e2] at h2
  rw [e3] at h3
  unfold EscQ
  rw [← ek_four hu]
  have l0 : a0 < 16 := by omega
  have l1 : a1 < 16 := by omega
  have l2 : a2 < 16 := by omega
  have l3 : a3 < 16 := by omega
  have g0 := Far.mk (hex_hx ⟨a0, l0⟩)
  have g1 := Far.mk (hex_hx ⟨a1, l1⟩)
  have g2 := Far.mk (hex_hx ⟨a2, l2⟩)
  have g3 := Far.mk (hex_hx ⟨a3, l3⟩)
  have q0 : Far (ek u 1 = ek u 0 ++ [hx a0]) := ⟨by rw [← e0]; rfl⟩
  have q1 : Far (ek u 2 = ek u 1 ++ [hx a1]) := ⟨by rw [← e1]; rfl⟩
  have q2 : Far (ek u 3 = ek u 2 ++ [hx a2]) := ⟨by rw [← e2]; rfl⟩
  have q3 : Far (ek u 4 = ek u 3 ++ [hx a3]) := ⟨by rw [← e3]; show ek u 3 ++ [hx (u / 1 % 16)] = _; rw [Nat.div_one]⟩
  have n0 := Far.mk (ek_len u)
  have k0 : (a0 : Int) < 16 := by omega
  have k1 : (a1 : Int) < 16 := by omega
  have k2 : (a2 : Int) < 16 := by omega
  have k3 : (a3 : Int) < 16 := by omega
  clear e0 e1 e2 e3
  go_enter Tryz.func64, Tryz.ntmps64
  go_wp2_with (at_builtin; go_must (refine append_new rfl _ _ rfl base (v := v) rfl (by first | exact hown | exact hown.drewN _) rfl (bs := [92, 117]) rfl rfl (by simp only [List.length_cons, List.length_nil]; omega) hb ?_))
  intro v1 w1 hB1 hg1
  have hF1 := Far.mk (And.intro (below_grown (Below.refl base w) hb hown (Nat.le_refl _) hg1) (keep16_append hown hg1))
  replace hB1 : B8 w1 base v1 (l ++ ek u 0) := hB1
  clear hown hg1
  go_wp2_with fail
  go_loopw [0, 5] (fun v i wr => ∃ m : Nat, m ≤ 4 ∧ i = .int .i64 (12 - 4 * (m : Int)) ∧ B8 wr base v (l ++ ek u m) ∧ Far (Below base w wr ∧ Keep16 w wr))
    (fun _ i _ => (intOf i + 4).toNat)
  case atStart => exact ⟨0, Nat.zero_le _, rfl, hB1, hF1⟩
  case round =>
    obtain ⟨m, hm, rfl, hB, hF⟩ := hrel
    clear hB1 hF1
    have hbs := hF.out.1.size
    have hsz : base ≤ wr.heap.size := Nat.le_trans hb hbs
    have h5 : m = 0 ∨ m = 1 ∨ m = 2 ∨ m = 3 ∨ m = 4 := by omega
    clear hm
    rcases h5 with rfl | rfl | rfl | rfl | rfl
    · skip
      go_wp2_with (at_builtin; go_must (refine append_new rfl _ _ rfl base (v := u0) rfl hB rfl (bs := [hx a0]) rfl (by rw [← g0.out]; rfl) (by rw [List.length_append, n0.out]; simp only [List.length_cons, List.length_nil]; omega) hsz ?_))
      intro v' w2 hB2 hg2
      rw [← q0.out] at hB2
      have hF2 := Far.mk (And.intro (below_grown hF.out.1 hsz hB (Nat.le_refl _) hg2) (hF.out.2.trans (keep16_append hB hg2)))
      clear hB hg2 hF
      go_wp2_with fail
      go_roundw
      case rel => exact ⟨1, by omega, rfl, hB2, hF2⟩
      case measure => simp [intOf]
    · skip
      go_wp2_with (at_builtin; go_must (refine append_new rfl _ _ rfl base (v := u0) rfl hB rfl (bs := [hx a1]) rfl (by rw [← g1.out]; rfl) (by rw [List.length_append, n0.out]; simp only [List.length_cons, List.length_nil]; omega) hsz ?_))
      intro v' w2 hB2 hg2
      rw [← q1.out] at hB2
      have hF2 := Far.mk (And.intro (below_grown hF.out.1 hsz hB (Nat.le_refl _) hg2) (hF.out.2.trans (keep16_append hB hg2)))
      clear hB hg2 hF
      go_wp2_with fail
      go_roundw
      case rel => exact ⟨2, by omega, rfl, hB2, hF2⟩
      case measure => simp [intOf]
    · skip
      go_wp2_with (at_builtin; go_must (refine append_new rfl _ _ rfl base (v := u0) rfl hB rfl (bs := [hx a2]) rfl (by rw [← g2.out]; rfl) (by rw [List.length_append, n0.out]; simp only [List.length_cons, List.length_nil]; omega) hsz ?_))
      intro v' w2 hB2 hg2
      rw [← q2.out] at hB2
      have hF2 := Far.mk (And.intro (below_grown hF.out.1 hsz hB (Nat.le_refl _) hg2) (hF.out.2.trans (keep16_append hB hg2)))
      clear hB hg2 hF
      go_wp2_with fail
      go_roundw
      case rel => exact ⟨3, by omega, rfl, hB2, hF2⟩
      case measure => simp [intOf]
    · skip
      go_wp2_with (at_builtin; go_must (refine append_new rfl _ _ rfl base (v := u0) rfl hB rfl (bs := [hx a3]) rfl (by rw [← g3.out]; rfl) (by rw [List.length_append, n0.out]; simp only [List.length_cons, List.length_nil]; omega) hsz ?_))
      intro v' w2 hB2 hg2
      rw [← q3.out] at hB2
      have hF2 := Far.mk (And.intro (below_grown hF.out.1 hsz hB (Nat.le_refl _) hg2) (hF.out.2.trans (keep16_append hB hg2)))
      clear hB hg2 hF
      go_wp2_with fail
      go_roundw
      case rel => exact ⟨4, by omega, rfl, hB2, hF2⟩
      case measure => simp [intOf]
    · go_wp2_with fail
      go_ret
      exact ⟨_, rfl, hB, hF.out.1, hF.out.2⟩
end Us
end Go.Proofs.YtelgobelbeabaaaGreatDoor
namespace Go.Proofs.YtelgobelbeabaaaGreatDoor
open Go.RowKit
namespace Us
open Nv

theorem uv_get {s : ByteArray} {n k : Nat} (h : k < n) : (uv s n)[k]? = some (.int .u16 (un s k : Int)) := by
  unfold uv
  rw [List.getElem?_map, List.getElem?_range h]
  rfl
theorem under16 : Tryz.prog.underlying 105 = some (.slice (Tryz.prog.elem 105)) := by kernel_rfl
/-- The quoted text. -/
def qt (s : ByteArray) (n : Nat) : List UInt8 := qk s n ++ [34]
theorem qt_len (s : ByteArray) (n : Nat) : (qt s n).length ≤ 6 * n + 2 := by
  have := qk_len s n
  unfold qt
  rw [List.length_append]
  show _ + 1 ≤ _
  omega
/-- What Quote tells. -/
def QuoQ (s : ByteArray) (n : Nat) (w : World) (x : Ending) (w' : World) : Prop := x = .returned (.string ⟨(wide (qt s n)).toArray⟩) ∧ Below w.heap.size w w'
set_option maxRecDepth 100000 in
set_option maxHeartbeats 8000000 in
theorem lex_Quote {s : ByteArray} {n : Nat} (hs : s.size = 2 * n) (hn : n ≤ 600000) (w : World) : Calls Tryz.prog 31 #[.string s] w (QuoQ s n w) := by
  have hU := Far.mk (sh_Units hs hn)
  unfold QuoQ
  clear hs
  go_enter Tryz.func31, Tryz.ntmps31
  go_wp2_with (go_at_call 63; go_must (with_reducible refine (hU.out _).mono ?_); rintro e w1 ⟨v, rfl, hR, hb1⟩)
  have hB1 : B8 w1 w.heap.size (.slice (some ⟨w.heap.size, 0, none⟩) 1 1) [34] := B8.keep (l := [34]) (World.ownsRow_lit w #[.int .u8 34] 1 (Nat.le_refl _) (by unfold maxLen; omega) rfl) hb1
  have hF1 := Far.mk (And.intro (((Below.refl w.heap.size w).alloc (Nat.le_refl _) (.cells #[.int .u8 34] 5)).trans (hb1.mono (by simp))) (Keep16.refl w1))
  have hC : n = 0 ∨ ∃ g cap cur, v = .slice (some ⟨g, 0, none⟩) n cap ∧ Far (w1.heap[g]? = some (.cells cur 53 (0, 0))) ∧ Far (∀ k, k < n → cur[k]? = some (.int .u16 (un s k : Int))) := by
    rcases hR.2 with ⟨-, h⟩ | ⟨g, cap, cur, rfl, -, hg, hc1, -, hc2, hc3⟩
    · exact .inl h
    · refine .inr ⟨g, cap, cur, rfl, ⟨hg⟩, ⟨fun k hk => ?_⟩⟩
      have h2 := uv_get (s := s) hk
      rw [← hc3, List.getElem?_take, if_pos (by omega), Array.getElem?_toList] at h2
      exact h2
  have hlv : ∃ A c, v = .slice A n c := by
    rcases hR.2 with ⟨rfl, h⟩ | ⟨g, cap, cur, rfl, -⟩
    · exact ⟨none, 0, by rw [h]⟩
    · exact ⟨_, _, rfl⟩
  have HL : Far (∀ k, k ≤ n → (qk s k).length ≤ 3600001) := ⟨fun k hk => Nat.le_trans (qk_len s k) (by omega)⟩
  have HL2 : Far (∀ l : List UInt8, l = qt s n → (⟨l.toArray⟩ : ByteArray).size ≤ 70368744177664) := ⟨fun l hl => by subst hl; have := qt_len s n; show (qt s n).toArray.size ≤ _; rw [List.size_toArray]; omega⟩
  clear hU hR hb1
  obtain ⟨A, cc, rfl⟩ := hlv
  go_wp2_with fail
  rw [run_len_slice (h := under16)]
  go_wp2_with fail
  go_loopw [3, 5, 10] (fun v _ i wr => ∃ k : Nat, k ≤ n ∧ i = .int .i64 k ∧ B8 wr w.heap.size v (qk s k) ∧ Far (Below w.heap.size w wr ∧ Keep16 w1 wr))
    (fun _ _ i _ => n - (intOf i).toNat)
  case atStart => exact ⟨0, Nat.zero_le _, rfl, hB1, hF1⟩
  case round =>
    obtain ⟨k, hk, rfl, hB, hF⟩ := hrel
    clear hB1 hF1
    have hsz := hF.out.1.size
    replace HL := Far.mk (HL.out k hk)
    by_cases hlt : k < n
    · obtain ⟨g, cap, cur, e1, hg, hcs⟩ := hC.resolve_left (by omega)
      injection e1 with e1 _ e3
      subst e1
      subst e3
      have hcell : wr.cell? ⟨g, k, none⟩ = some (.int .u16 (un s k : Int)) := by
        rw [cell_of_row wr g k cur 53 (0, 0) (hF.out.2 _ _ _ hg.out)]
        exact hcs.out k hlt
      have hu := un_lt s k
      clear hC hg hcs
      obtain ⟨c, hc⟩ : ∃ c, un s k = c := ⟨_, rfl⟩
      rw [hc] at hcell hu
      have h5 : c = 34 ∨ c = 92 ∨ (c ≠ 34 ∧ c ≠ 92 ∧ 32 ≤ c ∧ c ≤ 126) ∨ c < 32 ∨ (126 < c ∧ c ≠ 34 ∧ c ≠ 92) := by omega
      rcases h5 with hc0 | hc1 | hc2 | hc3 | hc4
      · obtain rfl : c = 34 := hc0
        have HC : Far (#[Value.int .u8 92, Value.int .u8 34] = (bv [92, 34]).toArray) := ⟨rfl⟩
        have HW : Far (qk s (k + 1) = qk s k ++ [92, 34]) := ⟨by show qk s k ++ esc (un s k) = _; rw [hc]; rfl⟩
        clear hc
        go_wp2_with (at_builtin; go_must (refine append_new rfl _ _ rfl w.heap.size (v := u3) rfl hB rfl (bs := [92, 34]) rfl HC.out (Nat.le_trans (Nat.add_le_add_right HL.out _) (by simp only [List.length_cons, List.length_nil]; omega)) hsz ?_))
        intro v' w2 hB2 hg2
        rw [← HW.out] at hB2
        have hF2 := Far.mk (And.intro (below_grown hF.out.1 hsz hB (Nat.le_refl _) hg2) (hF.out.2.trans (keep16_append hB hg2)))
        clear hB hg2 hF
        go_wp2_with fail
        go_roundw
        case rel => exact ⟨k + 1, by omega, by go_num, hB2, hF2⟩
        case measure => simp [intOf]; omega
      · obtain rfl : c = 92 := hc1
        have HC : Far (#[Value.int .u8 92, Value.int .u8 92] = (bv [92, 92]).toArray) := ⟨rfl⟩
        have HW : Far (qk s (k + 1) = qk s k ++ [92, 92]) := ⟨by show qk s k ++ esc (un s k) = _; rw [hc]; rfl⟩
        clear hc
        go_wp2_with (at_builtin; go_must (refine append_new rfl _ _ rfl w.heap.size (v := u3) rfl hB rfl (bs := [92, 92]) rfl HC.out (Nat.le_trans (Nat.add_le_add_right HL.out _) (by simp only [List.length_cons, List.length_nil]; omega)) hsz ?_))
        intro v' w2 hB2 hg2
        rw [← HW.out] at hB2
        have hF2 := Far.mk (And.intro (below_grown hF.out.1 hsz hB (Nat.le_refl _) hg2) (hF.out.2.trans (keep16_append hB hg2)))
        clear hB hg2 hF
        go_wp2_with fail
        go_roundw
        case rel => exact ⟨k + 1, by omega, by go_num, hB2, hF2⟩
        case measure => simp [intOf]; omega
      · obtain ⟨hn1, hn2, hr1, hr2⟩ := hc2
        have hw8 : IntKind.u8.wrap (c : Int) = (c : Int) := by rw [IntKind.wrap_u8] <;> omega
        have hx : (UInt8.ofNat c).toNat = c := by rw [UInt8.toNat_ofNat', Nat.mod_eq_of_lt (by omega)]
        have HC : Far (#[Value.int .u8 (c : Int)] = (bv [UInt8.ofNat c]).toArray) := ⟨by unfold bv; simp only [List.map, hx]⟩
        have HW : Far (qk s (k + 1) = qk s k ++ [UInt8.ofNat c]) := ⟨by show qk s k ++ esc (un s k) = _; rw [hc]; unfold esc; rw [if_neg (by omega), if_pos ⟨hr1, hr2⟩]⟩
        have i1 : ((c : Int) == 34) = false := by rw [beq_eq_false_iff_ne]; omega
        have i2 : ((c : Int) == 92) = false := by rw [beq_eq_false_iff_ne]; omega
        have i3 : (32 : Int) ≤ (c : Int) := by omega
        have i4 : (c : Int) ≤ 126 := by omega
        clear hc hx hn1 hn2 hr1 hr2
        go_wp2_with (at_builtin; go_must (refine append_new rfl _ _ rfl w.heap.size (v := u3) rfl hB rfl (bs := [UInt8.ofNat c]) rfl HC.out (Nat.le_trans (Nat.add_le_add_right HL.out _) (by simp only [List.length_cons, List.length_nil]; omega)) hsz ?_))
        intro v' w2 hB2 hg2
        rw [← HW.out] at hB2
        have hF2 := Far.mk (And.intro (below_grown hF.out.1 hsz hB (Nat.le_refl _) hg2) (hF.out.2.trans (keep16_append hB hg2)))
        clear hB hg2 hF
        go_wp2_with fail
        go_roundw
        case rel => exact ⟨k + 1, by omega, by go_num, hB2, hF2⟩
        case measure => simp [intOf]; omega
      · have HU : Far (c < 65536) := ⟨hu⟩
        have hr := hc3
        have HW : Far (qk s (k + 1) = qk s k ++ [92, 117, hx (c / 4096), hx (c / 256 % 16), hx (c / 16 % 16), hx (c % 16)]) := ⟨by show qk s k ++ esc (un s k) = _; rw [hc]; unfold esc; rw [if_neg (by omega), if_neg (by omega)]⟩
        have i1 : ((c : Int) == 34) = false := by rw [beq_eq_false_iff_ne]; omega
        have i2 : ((c : Int) == 92) = false := by rw [beq_eq_false_iff_ne]; omega
        have i3 : (c : Int) < 32 := by omega
        clear hc hr hc3
        go_wp2_with (go_at_call 64; go_must (with_reducible refine ((lex_escaped hB hsz HU.out (Nat.le_trans HL.out (by omega))) : Calls Tryz.prog _ _ _ (EscQ w.heap.size (qk s k) c _)).mono ?_); rintro e w2 ⟨v', rfl, hB2, hb2, hk2⟩)
        rw [← HW.out] at hB2
        have hF2 := Far.mk (And.intro (hF.out.1.trans (hb2.mono (Nat.le_refl _))) (hF.out.2.trans hk2))
        clear hB hb2 hk2 hF
        go_wp2_with fail
        go_roundw
        case rel => exact ⟨k + 1, by omega, by go_num, hB2, hF2⟩
        case measure => simp [intOf]; omega
      · have HU : Far (c < 65536) := ⟨hu⟩
        have hr := hc4
        have HW : Far (qk s (k + 1) = qk s k ++ [92, 117, hx (c / 4096), hx (c / 256 % 16), hx (c / 16 % 16), hx (c % 16)]) := ⟨by show qk s k ++ esc (un s k) = _; rw [hc]; unfold esc; rw [if_neg (by omega), if_neg (by omega)]⟩
        have i1 : ((c : Int) == 34) = false := by rw [beq_eq_false_iff_ne]; omega
        have i2 : ((c : Int) == 92) = false := by rw [beq_eq_false_iff_ne]; omega
        have i3 : (32 : Int) ≤ (c : Int) := by omega
        have i4 : (126 : Int) < (c : Int) := by omega
        clear hc hr hc4
        go_wp2_with (go_at_call 64; go_must (with_reducible refine ((lex_escaped hB hsz HU.out (Nat.le_trans HL.out (by omega))) : Calls Tryz.prog _ _ _ (EscQ w.heap.size (qk s k) c _)).mono ?_); rintro e w2 ⟨v', rfl, hB2, hb2, hk2⟩)
        rw [← HW.out] at hB2
        have hF2 := Far.mk (And.intro (hF.out.1.trans (hb2.mono (Nat.le_refl _))) (hF.out.2.trans hk2))
        clear hB hb2 hk2 hF
        go_wp2_with fail
        go_roundw
        case rel => exact ⟨k + 1, by omega, by go_num, hB2, hF2⟩
        case measure => simp [intOf]; omega
    · have hke : k = n := by omega
      subst hke
      clear hC
      replace HL2 := Far.mk (show (⟨(qk s k ++ [34]).toArray⟩ : ByteArray).size ≤ 70368744177664 from HL2.out _ rfl)
      have hBk := hB
      go_wp2_with (at_builtin; go_must (refine append_new rfl _ _ rfl w.heap.size (v := u3) rfl hB rfl (bs := [34]) rfl rfl (Nat.le_trans (Nat.add_le_add_right HL.out _) (by simp only [List.length_cons, List.length_nil]; omega)) hsz ?_))
      intro v' w2 hB2 hg2
      have hF2 := Far.mk (below_grown hF.out.1 hsz hB (Nat.le_refl _) hg2)
      have hs2 := hF2.out.size
      clear hB hg2 hF hBk
      have hcv := run_string_own (P := Tryz.prog) w2 51 9 5 _ hB2 Tryz.underlying51 Tryz.underlying5 Tryz.underlying9
      go_wp2_with (go_at_call 29; go_must (with_reducible refine (ustr_Wide _ _ HL2.out).mono ?_); rintro e w3 ⟨rfl, hb3⟩)
      go_ret
      exact ⟨by first | rfl | simp, hF2.out.trans (hb3.mono hs2)⟩
end Us
end Go.Proofs.YtelgobelbeabaaaGreatDoor
namespace Go.Proofs.YtelgobelbeabaaaGreatDoor
open Go.RowKit
namespace Us
open Nv

theorem sh_rLen {s : ByteArray} {n : Nat} (hs : s.size = 2 * n) (hn : n ≤ 8000000) (w : World) : Calls Tryz.prog 35 #[.string s] w fun e w' => e = .returned (.int .i64 (n : Int)) ∧ w' = w := by
  go_enter Tryz.func35, Tryz.ntmps35
  go_wp2
  go_ret
  exact ⟨by first | rfl | (congr 2; omega), rfl⟩
theorem sh_at {s : ByteArray} {n k : Nat} (hs : s.size = 2 * n) (hn : n ≤ 8000000) (h : k < n) (w : World) : Calls Tryz.prog 65 #[.string s, .int .i64 (k : Int)] w fun e w' => e = .returned (.int .u16 (un s k : Int)) ∧ ∃ q, w' = w.drewN q := by
  obtain ⟨j, hj⟩ : ∃ j, 2 * k = j := ⟨_, rfl⟩
  obtain ⟨i, hi⟩ : ∃ i, 2 * k + 1 = i := ⟨_, rfl⟩
  have hj1 : j < s.size := by omega
  have hi1 : i < s.size := by omega
  have hw1 : IntKind.i64.wrap (2 * (k : Int)) = (j : Int) := by rw [IntKind.wrap_i64] <;> omega
  have hw2 : IntKind.i64.wrap ((j : Int) + 1) = (i : Int) := by rw [IntKind.wrap_i64] <;> omega
  have b1 := byte_at hj1
  have b2 := byte_at hi1
  have hu : un s k = (s.data.toList.getD j 0).toNat * 256 + (s.data.toList.getD i 0).toNat := by unfold un; rw [hj, show j + 1 = i by omega]
  rw [hu]
  have l1 := (s.data.toList.getD j 0).toNat_lt
  have l2 := (s.data.toList.getD i 0).toNat_lt
  generalize (s.data.toList.getD j 0).toNat = a at *
  generalize (s.data.toList.getD i 0).toNat = b at *
  have hor := or_unit l1 l2
  clear hj hi h hu
  go_enter Tryz.func65, Tryz.ntmps65
  go_wp2_with fail
  go_quiet (fail)
  go_wp2
  go_ret
  exact ⟨by first | rfl | (rw [hor]), _, rfl⟩
theorem sh_Unit {s : ByteArray} {n k : Nat} (hs : s.size = 2 * n) (hn : n ≤ 8000000) (h : k < n) (w : World) : Calls Tryz.prog 73 #[.string s, .int .i64 (k : Int)] w fun e w' => e = .returned (.tuple #[.int .u16 (un s k : Int), .bool true]) ∧ ∃ q, w' = w.drewN q := by
  have hL := Far.mk (sh_rLen hs hn)
  have hA := Far.mk (sh_at hs hn h)
  clear hs
  obtain ⟨c, hc⟩ : ∃ c, un s k = c := ⟨_, rfl⟩
  rw [hc] at hA ⊢
  clear hc
  go_enter Tryz.func73, Tryz.ntmps73
  go_wp2_with (first
    | (go_at_call 35; go_must (with_reducible refine (hL.out _).mono ?_); rintro e w1 ⟨rfl, hw⟩; replace hw := hw.symm; subst hw)
    | (go_at_call 65; go_must (with_reducible refine (hA.out _).mono ?_); rintro e w1 ⟨rfl, q, rfl⟩))
  go_returns
  exact ⟨rfl, _, rfl⟩
theorem sh_rat {s : ByteArray} {n k : Nat} (hs : s.size = 2 * n) (hn : n ≤ 8000000) (h : k < n) (w : World) : Calls Tryz.prog 36 #[.string s, .int .i64 (k : Int)] w fun e w' => e = .returned (.int .u16 (un s k : Int)) ∧ ∃ q, w' = w.drewN q := by
  have hA := Far.mk (sh_Unit hs hn h)
  clear hs
  obtain ⟨c, hc⟩ : ∃ c, un s k = c := ⟨_, rfl⟩
  rw [hc] at hA ⊢
  clear hc
  go_enter Tryz.func36, Tryz.ntmps36
  go_wp2_with (go_at_call 73; go_must (with_reducible refine (hA.out _).mono ?_); rintro e w1 ⟨rfl, q, rfl⟩)
  go_ret
  exact ⟨rfl, _, rfl⟩
set_option maxRecDepth 100000 in
set_option maxHeartbeats 8000000 in
theorem ref_Quote {s : ByteArray} {n : Nat} (hs : s.size = 2 * n) (hn : n ≤ 600000) (w : World) : Calls Tryz.prog 16 #[.string s] w (QuoQ s n w) := by
  have hL := Far.mk (sh_rLen hs (by omega))
  have hA := fun k h => Far.mk (sh_rat hs (by omega) (k := k) h)
  unfold QuoQ
  clear hs
  have HL : Far (∀ k, k ≤ n → (qk s k).length ≤ 3600001) := ⟨fun k hk => Nat.le_trans (qk_len s k) (by omega)⟩
  have HL2 : Far (∀ l : List UInt8, l = qt s n → (⟨l.toArray⟩ : ByteArray).size ≤ 70368744177664) := ⟨fun l hl => by subst hl; have := qt_len s n; show (qt s n).toArray.size ≤ _; rw [List.size_toArray]; omega⟩
  have hB1 : B8 (w.alloc (.cells #[.int .u8 34] 5)) w.heap.size (.slice (some ⟨w.heap.size, 0, none⟩) 1 1) [34] := World.ownsRow_lit w #[.int .u8 34] 1 (Nat.le_refl _) (by unfold maxLen; omega) rfl
  have hF1 := Far.mk (And.intro ((Below.refl w.heap.size w).alloc (Nat.le_refl _) (.cells #[.int .u8 34] 5)) (Keep16.refl (w.alloc (.cells #[.int .u8 34] 5))))
  go_enter Tryz.func16, Tryz.ntmps16
  go_wp2_with fail
  go_loopw [3, 5, 4] (fun v _ i wr => ∃ k : Nat, k ≤ n ∧ i = .int .i64 k ∧ B8 wr w.heap.size v (qk s k) ∧ Far (Below w.heap.size w wr ∧ Keep16 (w.alloc (.cells #[.int .u8 34] 5)) wr))
    (fun _ _ i _ => n - (intOf i).toNat)
  case atStart => exact ⟨0, Nat.zero_le _, rfl, hB1, hF1⟩
  case round =>
    obtain ⟨k, hk, rfl, hB, hF⟩ := hrel
    clear hB1 hF1
    have hsz := hF.out.1.size
    replace HL := Far.mk (HL.out k hk)
    by_cases hlt : k < n
    · have hAk := hA k hlt
      have hu := un_lt s k
      obtain ⟨c, hc⟩ : ∃ c, un s k = c := ⟨_, rfl⟩
      rw [hc] at hAk hu
      clear hA
      have h5 : c = 34 ∨ c = 92 ∨ (c ≠ 34 ∧ c ≠ 92 ∧ 32 ≤ c ∧ c ≤ 126) ∨ c < 32 ∨ (126 < c ∧ c ≠ 34 ∧ c ≠ 92) := by omega
      rcases h5 with hc0 | hc1 | hc2 | hc3 | hc4
      · obtain rfl : c = 34 := hc0
        have HC : Far (#[Value.int .u8 92, Value.int .u8 34] = (bv [92, 34]).toArray) := ⟨rfl⟩
        have HW : Far (qk s (k + 1) = qk s k ++ [92, 34]) := ⟨by show qk s k ++ esc (un s k) = _; rw [hc]; rfl⟩
        clear hc
        go_wp2_with (first
          | (go_at_call 35; go_must (with_reducible refine (hL.out _).mono ?_); rintro e w1 ⟨rfl, hw⟩; replace hw := hw.symm; subst hw)
          | (go_at_call 36; go_must (with_reducible refine (hAk.out _).mono ?_); rintro e w9 ⟨rfl, q, rfl⟩; replace hB : B8 (wr.drewN q) w.heap.size _ (qk s k) := hB.drewN q; replace hF : Far (Below w.heap.size w (wr.drewN q) ∧ Keep16 (w.alloc (.cells #[.int .u8 34] 5)) (wr.drewN q)) := ⟨Go.below_drewN hF.out.1 q, hF.out.2⟩; replace hsz := hF.out.1.size)
          | (at_builtin; go_must (refine append_new rfl _ _ rfl w.heap.size (v := u3) rfl hB rfl (bs := [92, 34]) rfl HC.out (Nat.le_trans (Nat.add_le_add_right HL.out _) (by simp only [List.length_cons, List.length_nil]; omega)) hsz ?_)))
        intro v' w2 hB2 hg2
        rw [← HW.out] at hB2
        have hF2 := Far.mk (And.intro (below_grown hF.out.1 hsz hB (Nat.le_refl _) hg2) (hF.out.2.trans (keep16_append hB hg2)))
        clear hB hg2 hF
        go_wp2_with fail
        go_roundw
        case rel => exact ⟨k + 1, by omega, by go_num, hB2, hF2⟩
        case measure => simp [intOf]; omega
      · obtain rfl : c = 92 := hc1
        have HC : Far (#[Value.int .u8 92, Value.int .u8 92] = (bv [92, 92]).toArray) := ⟨rfl⟩
        have HW : Far (qk s (k + 1) = qk s k ++ [92, 92]) := ⟨by show qk s k ++ esc (un s k) = _; rw [hc]; rfl⟩
        clear hc
        go_wp2_with (first
          | (go_at_call 35; go_must (with_reducible refine (hL.out _).mono ?_); rintro e w1 ⟨rfl, hw⟩; replace hw := hw.symm; subst hw)
          | (go_at_call 36; go_must (with_reducible refine (hAk.out _).mono ?_); rintro e w9 ⟨rfl, q, rfl⟩; replace hB : B8 (wr.drewN q) w.heap.size _ (qk s k) := hB.drewN q; replace hF : Far (Below w.heap.size w (wr.drewN q) ∧ Keep16 (w.alloc (.cells #[.int .u8 34] 5)) (wr.drewN q)) := ⟨Go.below_drewN hF.out.1 q, hF.out.2⟩; replace hsz := hF.out.1.size)
          | (at_builtin; go_must (refine append_new rfl _ _ rfl w.heap.size (v := u3) rfl hB rfl (bs := [92, 92]) rfl HC.out (Nat.le_trans (Nat.add_le_add_right HL.out _) (by simp only [List.length_cons, List.length_nil]; omega)) hsz ?_)))
        intro v' w2 hB2 hg2
        rw [← HW.out] at hB2
        have hF2 := Far.mk (And.intro (below_grown hF.out.1 hsz hB (Nat.le_refl _) hg2) (hF.out.2.trans (keep16_append hB hg2)))
        clear hB hg2 hF
        go_wp2_with fail
        go_roundw
        case rel => exact ⟨k + 1, by omega, by go_num, hB2, hF2⟩
        case measure => simp [intOf]; omega
      · obtain ⟨hn1, hn2, hr1, hr2⟩ := hc2
        have hw8 : IntKind.u8.wrap (c : Int) = (c : Int) := by rw [IntKind.wrap_u8] <;> omega
        have hx : (UInt8.ofNat c).toNat = c := by rw [UInt8.toNat_ofNat', Nat.mod_eq_of_lt (by omega)]
        have HC : Far (#[Value.int .u8 (c : Int)] = (bv [UInt8.ofNat c]).toArray) := ⟨by unfold bv; simp only [List.map, hx]⟩
        have HW : Far (qk s (k + 1) = qk s k ++ [UInt8.ofNat c]) := ⟨by show qk s k ++ esc (un s k) = _; rw [hc]; unfold esc; rw [if_neg (by omega), if_pos ⟨hr1, hr2⟩]⟩
        have i1 : ((c : Int) == 34) = false := by rw [beq_eq_false_iff_ne]; omega
        have i2 : ((c : Int) == 92) = false := by rw [beq_eq_false_iff_ne]; omega
        have i3 : (32 : Int) ≤ (c : Int) := by omega
        have i4 : (c : Int) ≤ 126 := by omega
        clear hc hx hn1 hn2 hr1 hr2
        go_wp2_with (first
          | (go_at_call 35; go_must (with_reducible refine (hL.out _).mono ?_); rintro e w1 ⟨rfl, hw⟩; replace hw := hw.symm; subst hw)
          | (go_at_call 36; go_must (with_reducible refine (hAk.out _).mono ?_); rintro e w9 ⟨rfl, q, rfl⟩; replace hB : B8 (wr.drewN q) w.heap.size _ (qk s k) := hB.drewN q; replace hF : Far (Below w.heap.size w (wr.drewN q) ∧ Keep16 (w.alloc (.cells #[.int .u8 34] 5)) (wr.drewN q)) := ⟨Go.below_drewN hF.out.1 q, hF.out.2⟩; replace hsz := hF.out.1.size)
          | (at_builtin; go_must (refine append_new rfl _ _ rfl w.heap.size (v := u3) rfl hB rfl (bs := [UInt8.ofNat c]) rfl HC.out (Nat.le_trans (Nat.add_le_add_right HL.out _) (by simp only [List.length_cons, List.length_nil]; omega)) hsz ?_)))
        intro v' w2 hB2 hg2
        rw [← HW.out] at hB2
        have hF2 := Far.mk (And.intro (below_grown hF.out.1 hsz hB (Nat.le_refl _) hg2) (hF.out.2.trans (keep16_append hB hg2)))
        clear hB hg2 hF
        go_wp2_with fail
        go_roundw
        case rel => exact ⟨k + 1, by omega, by go_num, hB2, hF2⟩
        case measure => simp [intOf]; omega
      · have HU : Far (c < 65536) := ⟨hu⟩
        have hr := hc3
        have HW : Far (qk s (k + 1) = qk s k ++ [92, 117, hx (c / 4096), hx (c / 256 % 16), hx (c / 16 % 16), hx (c % 16)]) := ⟨by show qk s k ++ esc (un s k) = _; rw [hc]; unfold esc; rw [if_neg (by omega), if_neg (by omega)]⟩
        have i1 : ((c : Int) == 34) = false := by rw [beq_eq_false_iff_ne]; omega
        have i2 : ((c : Int) == 92) = false := by rw [beq_eq_false_iff_ne]; omega
        have i3 : (c : Int) < 32 := by omega
        clear hc hr hc3
        go_wp2_with (first
          | (go_at_call 35; go_must (with_reducible refine (hL.out _).mono ?_); rintro e w1 ⟨rfl, hw⟩; replace hw := hw.symm; subst hw)
          | (go_at_call 36; go_must (with_reducible refine (hAk.out _).mono ?_); rintro e w9 ⟨rfl, q, rfl⟩; replace hB : B8 (wr.drewN q) w.heap.size _ (qk s k) := hB.drewN q; replace hF : Far (Below w.heap.size w (wr.drewN q) ∧ Keep16 (w.alloc (.cells #[.int .u8 34] 5)) (wr.drewN q)) := ⟨Go.below_drewN hF.out.1 q, hF.out.2⟩; replace hsz := hF.out.1.size)
          | (go_at_call 37; go_must (with_reducible refine ((ref_escaped hB hsz HU.out (Nat.le_trans HL.out (by omega))) : Calls Tryz.prog _ _ _ (EscQ w.heap.size (qk s k) c _)).mono ?_); rintro e w2 ⟨v', rfl, hB2, hb2, hk2⟩))
        rw [← HW.out] at hB2
        have hF2 := Far.mk (And.intro (hF.out.1.trans (hb2.mono (Nat.le_refl _))) (hF.out.2.trans hk2))
        clear hB hb2 hk2 hF
        go_wp2_with fail
        go_roundw
        case rel => exact ⟨k + 1, by omega, by go_num, hB2, hF2⟩
        case measure => simp [intOf]; omega
      · have HU : Far (c < 65536) := ⟨hu⟩
        have hr := hc4
        have HW : Far (qk s (k + 1) = qk s k ++ [92, 117, hx (c / 4096), hx (c / 256 % 16), hx (c / 16 % 16), hx (c % 16)]) := ⟨by show qk s k ++ esc (un s k) = _; rw [hc]; unfold esc; rw [if_neg (by omega), if_neg (by omega)]⟩
        have i1 : ((c : Int) == 34) = false := by rw [beq_eq_false_iff_ne]; omega
        have i2 : ((c : Int) == 92) = false := by rw [beq_eq_false_iff_ne]; omega
        have i3 : (32 : Int) ≤ (c : Int) := by omega
        have i4 : (126 : Int) < (c : Int) := by omega
        clear hc hr hc4
        go_wp2_with (first
          | (go_at_call 35; go_must (with_reducible refine (hL.out _).mono ?_); rintro e w1 ⟨rfl, hw⟩; replace hw := hw.symm; subst hw)
          | (go_at_call 36; go_must (with_reducible refine (hAk.out _).mono ?_); rintro e w9 ⟨rfl, q, rfl⟩; replace hB : B8 (wr.drewN q) w.heap.size _ (qk s k) := hB.drewN q; replace hF : Far (Below w.heap.size w (wr.drewN q) ∧ Keep16 (w.alloc (.cells #[.int .u8 34] 5)) (wr.drewN q)) := ⟨Go.below_drewN hF.out.1 q, hF.out.2⟩; replace hsz := hF.out.1.size)
          | (go_at_call 37; go_must (with_reducible refine ((ref_escaped hB hsz HU.out (Nat.le_trans HL.out (by omega))) : Calls Tryz.prog _ _ _ (EscQ w.heap.size (qk s k) c _)).mono ?_); rintro e w2 ⟨v', rfl, hB2, hb2, hk2⟩))
        rw [← HW.out] at hB2
        have hF2 := Far.mk (And.intro (hF.out.1.trans (hb2.mono (Nat.le_refl _))) (hF.out.2.trans hk2))
        clear hB hb2 hk2 hF
        go_wp2_with fail
        go_roundw
        case rel => exact ⟨k + 1, by omega, by go_num, hB2, hF2⟩
        case measure => simp [intOf]; omega
    · have hke : k = n := by omega
      subst hke
      clear hA
      replace HL2 := Far.mk (show (⟨(qk s k ++ [34]).toArray⟩ : ByteArray).size ≤ 70368744177664 from HL2.out _ rfl)
      have hBk := hB
      go_wp2_with (first
        | (go_at_call 35; go_must (with_reducible refine (hL.out _).mono ?_); rintro e w1 ⟨rfl, hw⟩; replace hw := hw.symm; subst hw)
        | (at_builtin; go_must (refine append_new rfl _ _ rfl w.heap.size (v := u3) rfl hB rfl (bs := [34]) rfl rfl (Nat.le_trans (Nat.add_le_add_right HL.out _) (by simp only [List.length_cons, List.length_nil]; omega)) hsz ?_)))
      intro v' w2 hB2 hg2
      have hF2 := Far.mk (below_grown hF.out.1 hsz hB (Nat.le_refl _) hg2)
      have hs2 := hF2.out.size
      clear hB hg2 hF hBk
      have hcv := run_string_own (P := Tryz.prog) w2 51 9 5 _ hB2 Tryz.underlying51 Tryz.underlying5 Tryz.underlying9
      go_wp2_with (go_at_call 33; go_must (with_reducible refine (ref01_Wide _ _ HL2.out).mono ?_); rintro e w3 ⟨rfl, hb3⟩)
      go_ret
      exact ⟨by first | rfl | simp, hF2.out.trans (hb3.mono hs2)⟩
end Us
end Go.Proofs.YtelgobelbeabaaaGreatDoor
