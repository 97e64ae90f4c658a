/-
  What strconv.ParseFloat tells of the text '0.', digits, 'e' and an exponent. Conditions: the laid variables of strconv have their values; behind the 19th digit there are noughts alone; strconv's product is sharp there.
-/
import Derived.Test.YtdpbpdhamekcdaaGreatDoorBaM15
import Derived.Test.YtdpbpdhamekcdaaGreatDoorBaM16
namespace Go.Proofs.YtdpbpdhamekcdaaGreatDoor
open Go.RowKit
namespace Us
open Nv

/-- An exponent, as it is written. -/
def itoaS (e : Int) : List UInt8 := if e < 0 then 45 :: digs 10 e.natAbs else digs 10 e.toNat
/-- The text that strconv is given. -/
def fmtS (d : List UInt8) (e : Int) : List UInt8 := [48, 46] ++ d ++ [101] ++ itoaS e
theorem fmt_get (d x : List UInt8) : ∀ k b, ([48, 46] ++ d ++ [101] ++ x)[k]? = some b → (k = 0 ∧ b = 48) ∨ (k = 1 ∧ b = 46) ∨ (2 ≤ k ∧ k < d.length + 2 ∧ d[k - 2]? = some b) ∨ (k = d.length + 2 ∧ b = 101) ∨ (d.length + 3 ≤ k ∧ x[k - (d.length + 3)]? = some b) := by
  intro k b h
  match k, h with
  | 0, h => exact .inl ⟨rfl, by simpa using h.symm⟩
  | 1, h => exact .inr (.inl ⟨rfl, by simpa using h.symm⟩)
  | k + 2, h =>
    have h2 : (d ++ ([101] ++ x))[k]? = some b := by simpa using h
    rw [List.getElem?_append] at h2
    split at h2
    · rename_i g
      exact .inr (.inr (.inl ⟨by omega, by omega, h2⟩))
    · rename_i g
      rw [List.getElem?_append] at h2
      split at h2
      · rename_i g2
        have : k - d.length = 0 := by simpa using g2
        rw [this] at h2
        exact .inr (.inr (.inr (.inl ⟨by omega, by simpa using h2.symm⟩)))
      · rename_i g2
        have g3 : 1 ≤ k - d.length := by
          have : ¬ k - d.length = 0 := by simpa using g2
          omega
        exact .inr (.inr (.inr (.inr ⟨by omega, by rw [show k + 2 - (d.length + 3) = k - d.length - 1 by omega]; exact h2⟩)))
theorem S_get {l : List UInt8} {k : Nat} (h : k < (S l).size) : l[k]? = some ((S l)[k]) := by
  have h2 : k < l.length := by rw [S_size] at h; exact h
  rw [List.getElem?_eq_getElem h2]
  rfl
theorem digs_pos (n : Nat) : 1 ≤ (digs 10 n).length := by
  unfold digs
  split
  · decide
  · rename_i h
    rw [rdigs_pos (by decide) (by omega)]
    simp
theorem digs_four {n : Nat} (h : n < 10000) : (digs 10 n).length ≤ 4 := by
  unfold digs
  split
  · decide
  · rename_i h0
    rw [List.length_reverse]
    have key : ∀ k n, n < 10 ^ k → (rdigs 10 n).length ≤ k := by
      intro k
      induction k with
      | zero => intro n hn; rw [show n = 0 by simpa using hn, rdigs_zero]; exact Nat.le_refl _
      | succ k ih =>
        intro n hn
        rcases Nat.eq_zero_or_pos n with g | g
        · rw [g, rdigs_zero]; exact Nat.zero_le _
        · rw [rdigs_pos (by decide) g, List.length_cons]
          have := ih (n / 10) (by rw [Nat.pow_succ] at hn; omega)
          omega
    exact key 4 n h
/-- What readFloat tells of it. -/
theorem reads_fmt {d : List UInt8} (hd : ∀ b ∈ d, isD b = true) (h0 : d.head? ≠ some 48) (hd1 : 1 ≤ d.length) (hd2 : d.length ≤ 1000000000000000000) (h19 : ∀ c ∈ d.drop 19, c = 48) {e : Int} (he1 : -10000 < e) (he2 : e < 10000) :
    Reads (S (fmtS d e)) (valL (d.take 19)) (e - (min d.length 19 : Nat)) := by
  intro W
  obtain ⟨ng, hng⟩ : ∃ ng : Bool, ng = decide (e < 0) := ⟨_, rfl⟩
  obtain ⟨x, hx⟩ : ∃ x, x = digs 10 e.natAbs := ⟨_, rfl⟩
  have hit : itoaS e = (if ng then [45] else []) ++ x := by
    unfold itoaS
    by_cases g : e < 0
    · rw [if_pos g, hng, decide_eq_true g, hx]
      rfl
    · rw [if_neg g, hng, decide_eq_false g, hx, show e.toNat = e.natAbs by omega]
      rfl
  have hx1 : 1 ≤ x.length := by rw [hx]; exact digs_pos _
  have hx4 : x.length ≤ 4 := by rw [hx]; exact digs_four (by omega)
  have hxD : ∀ b ∈ x, isD b = true := by rw [hx]; exact digs_D
  have hxv : valL x = e.natAbs := by rw [hx, valL_digs]
  have hfm : fmtS d e = [48, 46] ++ d ++ [101] ++ ((if ng then [45] else []) ++ x) := by
    unfold fmtS
    rw [hit]
  have hget := fmt_get d ((if ng then [45] else []) ++ x)
  rw [← hfm] at hget
  have hlen : (fmtS d e).length = d.length + 3 + (if ng then 1 else 0) + x.length := by
    rw [hfm]
    cases ng <;> simp <;> omega
  have hR := sc_readFloat (s := S (fmtS d e)) (D := dOf d) (E := dOf x) (L := d.length) (K := x.length) (ng := ng) rfl hd1 hd2 hx1 hx4 (by rw [S_size, hlen])
    (fun h => by
      rcases hget 0 _ (S_get h) with ⟨-, h⟩ | ⟨h, -⟩ | ⟨h, -⟩ | ⟨h, -⟩ | ⟨h, -⟩
      · exact h
      all_goals omega)
    (fun h => by
      rcases hget 1 _ (S_get h) with ⟨h, -⟩ | ⟨-, h⟩ | ⟨h, -⟩ | ⟨h, -⟩ | ⟨h, -⟩
      · omega
      · exact h
      all_goals omega)
    (dOf_le hd) (dOf_le hxD)
    (by
      have hne : d[0]? ≠ some 48 := by rw [← List.head?_eq_getElem?]; exact h0
      have := isD_iff.1 (hd _ (List.getElem_mem (show 0 < d.length by omega)))
      have hb := dOf_byte hd (show 0 < d.length by omega)
      intro hz
      rw [hz] at hb
      apply hne
      rw [List.getElem?_eq_getElem (by omega)]
      congr 1
      exact UInt8.toNat_inj.1 hb)
    (fun k k1 k2 h => by
      rcases hget k _ (S_get h) with ⟨h, -⟩ | ⟨h, -⟩ | ⟨-, -, h⟩ | ⟨h, -⟩ | ⟨h, -⟩
      · omega
      · omega
      · rw [List.getElem?_eq_getElem (by omega)] at h
        rw [← Option.some.inj h]
        exact dOf_byte hd (by omega)
      · omega
      · omega)
    (fun k hk h => by
      rcases hget k _ (S_get h) with ⟨h, -⟩ | ⟨h, -⟩ | ⟨-, h, -⟩ | ⟨-, h⟩ | ⟨h, -⟩
      · omega
      · omega
      · omega
      · exact h
      · omega)
    (fun hn k hk h => by
      rcases hget k _ (S_get h) with ⟨h, -⟩ | ⟨h, -⟩ | ⟨-, h, -⟩ | ⟨h, -⟩ | ⟨-, h⟩
      · omega
      · omega
      · omega
      · omega
      · rw [hn, if_pos rfl, show k - (d.length + 3) = 0 by omega] at h
        exact (Option.some.inj h).symm)
    (fun k hk h => by
      rcases hget k _ (S_get h) with ⟨h, -⟩ | ⟨h, -⟩ | ⟨-, h, -⟩ | ⟨h, -⟩ | ⟨h2, h3⟩
      · omega
      · omega
      · omega
      · omega
      · have hkl : k < (fmtS d e).length := by rw [← S_size]; exact h
        rw [hlen] at hkl
        have h4 : x[k - (d.length + 3 + (if ng then 1 else 0))]? = some ((S (fmtS d e))[k]) := by
          cases ng
          · simpa using h3
          · rw [List.getElem?_append_right (by simp at hk ⊢; omega)] at h3
            rw [← h3]
            congr 1
        have h5 : k - (d.length + 3 + (if ng then 1 else 0)) < x.length := by omega
        rw [List.getElem?_eq_getElem h5] at h4
        rw [← Option.some.inj h4]
        exact dOf_byte hxD h5) W
  refine hR.mono ?_
  rintro y w' ⟨rfl, hw⟩
  refine ⟨?_, hw⟩
  have e1 : dsum (dOf d) (min d.length 19) = valL (d.take 19) := by
    rw [dsum_take (Nat.min_le_left _ _)]
    congr 1
    rcases Nat.lt_or_ge d.length 19 with g | g
    · rw [Nat.min_eq_left (by omega), List.take_length, List.take_of_length_le (by omega)]
    · rw [Nat.min_eq_right g]
  have e2 : dsum (dOf x) x.length = e.natAbs := by rw [dsum_take (Nat.le_refl _), List.take_length, hxv]
  have e3 : ((if ng = true then -1 else 1) * ((e.natAbs : Nat) : Int) - ((min d.length 19 : Nat) : Int)) = e - ((min d.length 19 : Nat) : Int) := by
    by_cases g : e < 0
    · rw [hng, decide_eq_true g, if_pos rfl]
      omega
    · rw [hng, decide_eq_false g, if_neg (by decide)]
      omega
  rw [e1, e2, e3, dtr_take h19 (Nat.le_refl _)]
theorem valL_lt (l : List UInt8) (h : ∀ b ∈ l, isD b = true) : valL l < 10 ^ l.length := by
  induction l with
  | nil => decide
  | cons c r ih =>
    rw [valL_cons, List.length_cons, Nat.pow_succ]
    have h1 := isD_iff.1 (h c (by simp))
    have h2 := ih (fun b hb => h b (by simp [hb]))
    have h3 := Nat.mul_le_mul_right (10 ^ r.length) (show c.toNat - 48 ≤ 9 by omega)
    omega
theorem valL_pos {l : List UInt8} (h : ∀ b ∈ l, isD b = true) (h0 : l.head? ≠ some 48) (h1 : 1 ≤ l.length) : 1 ≤ valL l := by
  cases l with
  | nil => simp at h1
  | cons c r =>
    rw [valL_cons]
    have h2 := isD_iff.1 (h c (by simp))
    have h3 : c ≠ 48 := fun hc => h0 (by rw [hc]; rfl)
    have h4 : c.toNat ≠ 48 := fun hc => h3 (UInt8.toNat_inj.1 hc)
    have h5 := Nat.mul_le_mul (show 1 ≤ c.toNat - 48 by omega) (show 1 ≤ 10 ^ r.length from Nat.pow_pos (by decide))
    omega
/-- What a reader of decimals tells: the rounded number. -/
def NumQ (V : Nat) (p : Int) (w : World) (x : Ending) (w' : World) : Prop := ∃ R, x = .returned (.float .f64 R) ∧ Rnd R (V * hiP p * tiny) (loQ p) ∧ Below w.heap.size w w'
/-- Is strconv's product sharp at these digits? -/
def Sharp (d : List UInt8) (e : Int) : Prop := (∀ c ∈ d.drop 19, c = 48) ∧ ∀ b, 1 ≤ b → b ≤ 64 → 2 ^ (b - 1) ≤ valL (d.take 19) → valL (d.take 19) < 2 ^ b → -345 ≤ e - (min d.length 19 : Nat) → e - (min d.length 19 : Nat) ≤ 310 → UOK (valL (d.take 19)) b (e - (min d.length 19 : Nat))
theorem fmt_len (d : List UInt8) {e : Int} (he1 : -10000 < e) (he2 : e < 10000) : (fmtS d e).length ≤ d.length + 8 ∧ 1 ≤ (fmtS d e).length := by
  have h4 := digs_four (n := e.natAbs) (by omega)
  have h5 := digs_four (n := e.toNat) (by omega)
  unfold fmtS itoaS
  split <;> simp <;> omega
theorem sc_parse_fmt {d : List UInt8} {e : Int} {w : World} (hR : Rdt w) (hP : P10 w) (hd : ∀ b ∈ d, isD b = true) (h0 : d.head? ≠ some 48) (hd1 : 1 ≤ d.length) (hd2 : d.length ≤ 281474976710000) (he1 : -10000 < e) (he2 : e < 10000) (hS : Sharp d e) :
    Calls Tryz.prog 110 #[.string (S (fmtS d e)), .int .i64 64] w (SpQ (valL d) (e - (d.length : Nat)) w) := by
  obtain ⟨h19, hU⟩ := hS
  obtain ⟨f1, f2⟩ := fmt_len d he1 he2
  have hrd := reads_fmt hd h0 hd1 (by omega) h19 he1 he2
  have hdt : ∀ b ∈ d.take 19, isD b = true := fun b hb => hd b (List.mem_of_mem_take hb)
  have hM1 : 1 ≤ valL (d.take 19) := valL_pos hdt (by
    rw [List.head?_take]
    simpa using h0) (by rw [List.length_take]; omega)
  have hM2 : valL (d.take 19) ≤ 10000000000000000000 := by
    have := valL_lt _ hdt
    have h2 : 10 ^ (d.take 19).length ≤ 10 ^ 19 := Nat.pow_le_pow_right (by decide) (by rw [List.length_take]; omega)
    omega
  have ha := sc_atof (w := w) hR hP (by rw [S_size]; exact f2) (by rw [S_size]; omega) (fun h => rfl) hrd hM1 hM2 (by omega) (by omega) hU
  refine (sc_Parse hR (by rw [S_size]; omega) (isc_Parse ha)).mono ?_
  rintro x w' ⟨R, v, rfl, hr, hb⟩
  refine ⟨R, v, rfl, ?_, hb⟩
  obtain ⟨k, hk⟩ : ∃ k, d.length - min d.length 19 = k := ⟨_, rfl⟩
  have hv : valL d = valL (d.take 19) * 10 ^ k := by
    conv => lhs; rw [← List.take_append_drop 19 d]
    rw [valL_append, valL_all48 h19, Nat.add_zero, List.length_drop]
    congr 2
    omega
  rw [hv]
  refine rnd_scale ?_
  rw [show e - ((d.length : Nat) : Int) + (k : Int) = e - ((min d.length 19 : Nat) : Int) by omega]
  exact hr
end Us
end Go.Proofs.YtdpbpdhamekcdaaGreatDoor
