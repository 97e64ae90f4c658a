/-
  What numtext.decimal tells of any text: how long the decimal is that it begins with. Condition: the text is no longer than a text may be.
-/
import Derived.Test.YtdpbpdhamekcdaaGreatDoorBaM14
namespace Go.Proofs.YtdpbpdhamekcdaaGreatDoor
open Go.RowKit
namespace Us
open Nv

/-- Behind an exponent's letter: its digits' place. -/
def decK (l : List UInt8) (n : Nat) : Nat := if l[n + 1]? = some 43 ∨ l[n + 1]? = some 45 then n + 1 + 1 else n + 1
/-- Behind a decimal's digits: its exponent, where there is one. -/
def decE (l : List UInt8) (n : Nat) : Nat :=
  if l[n]? = some 101 ∨ l[n]? = some 69 then
    if lead (l.drop (decK l n)) = 0 then n else decK l n + lead (l.drop (decK l n))
  else n
/-- How long the decimal is that a text begins with. -/
def decN (l : List UInt8) : Nat :=
  if l[lead l]? = some 46 then
    if lead l + lead (l.drop (lead l + 1)) = 0 then 0 else decE l (lead l + (1 + lead (l.drop (lead l + 1))))
  else if lead l = 0 then 0 else decE l (lead l)
theorem S_lt {l : List UInt8} {k : Nat} (h : k < l.length) : k < (S l).size := by rw [S_size]; exact h
theorem S_byte {l : List UInt8} {k : Nat} {b : UInt8} (h : k < (S l).size) (hb : l[k]? = some b) : ((S l)[k]).toNat = b.toNat := by rw [S_at h hb]
theorem lead_none {l : List UInt8} {n : Nat} (h : l.length ≤ n) : lead (l.drop n) = 0 := by rw [List.drop_eq_nil_of_le h]; rfl
theorem S_from (l : List UInt8) (n : Nat) : (S l).extract n l.length = S (l.drop n) := by rw [S_extract, List.take_length]
theorem digits_from {l : List UInt8} (hl : l.length ≤ 4000000000000000000) (n d : Nat) (hd : lead (l.drop n) = d) : Far (∀ w, Calls Tryz.prog 60 #[.string ((S l).extract n l.length)] w fun e w' => e = .returned (.int .i64 (d : Int)) ∧ w' = w) := ⟨fun w => by
  rw [S_from, ← hd]
  exact nt_digits (by rw [List.length_drop]; omega) w⟩
theorem u8_ne {b c : UInt8} {n : Nat} (hc : c.toNat = n) (h : b ≠ c) : ((b.toNat : Int) == (n : Int)) = false := beq_eq_false_iff_ne.2 fun hh => h (UInt8.toNat_inj.1 (by omega))
theorem some_ne {o : Option UInt8} {b c : UInt8} (ho : o = some b) (h : b ≠ c) : ¬ o = some c := by rw [ho]; exact fun hh => h (Option.some.inj hh)
theorem dec_d0 {l : List UInt8} (hl : l.length ≤ 4000000000000000000) {n k : Nat} (hn : lead l = n) (h46 : l[n]? = some 46) (hk : lead (l.drop (n + 1)) = k) (hz : n + k = 0) (w : World) : Calls Tryz.prog 50 #[.string (S l)] w fun e w' => e = .returned (.int .i64 (0)) ∧ w' = w := by
  have hsz := S_size l
  have hD0 := Far.mk (nt_digits hl)
  rw [hn] at hD0
  have hx := List.getElem?_eq_some_iff.1 h46
  have hxl : n < l.length := hx.1
  have hxc := S_byte (S_lt hxl) h46
  rw [show (46 : UInt8).toNat = 46 from rfl] at hxc
  have hD1 := digits_from hl (n + 1) k hk
  have hkl := lead_le (l.drop (n + 1))
  rw [List.length_drop, hk] at hkl
  clear hx h46 hn hk
  obtain rfl : n = 0 := by omega
  obtain rfl : k = 0 := by omega
  clear hz
  go_enter Tryz.func50, Tryz.ntmps50
  go_wp2_with fail
  with_reducible refine (hD0.out _).mono ?_
  rintro e w' ⟨rfl, hw⟩
  replace hw := hw.symm
  subst hw
  go_wp2_with fail
  with_reducible refine (hD1.out _).mono ?_
  rintro e w' ⟨rfl, hw⟩
  replace hw := hw.symm
  subst hw
  go_wp2_with fail
  go_ret
  exact ⟨rfl, rfl⟩
theorem dec_d_end {l : List UInt8} (hl : l.length ≤ 4000000000000000000) {n k : Nat} (hn : lead l = n) (h46 : l[n]? = some 46) (hk : lead (l.drop (n + 1)) = k) (hz : n + k ≠ 0) (h0 : l[(n + (1 + k))]? = none) (w : World) : Calls Tryz.prog 50 #[.string (S l)] w fun e w' => e = .returned (.int .i64 (((n + (1 + k) : Nat) : Int))) ∧ w' = w := by
  have hsz := S_size l
  have hD0 := Far.mk (nt_digits hl)
  rw [hn] at hD0
  have hx := List.getElem?_eq_some_iff.1 h46
  have hxl : n < l.length := hx.1
  have hxc := S_byte (S_lt hxl) h46
  rw [show (46 : UInt8).toNat = 46 from rfl] at hxc
  have hD1 := digits_from hl (n + 1) k hk
  have hkl := lead_le (l.drop (n + 1))
  rw [List.length_drop, hk] at hkl
  clear hx h46 hn hk
  have hz2 : ((n : Int) + (k : Int) == 0) = false := beq_eq_false_iff_ne.2 (by omega)
  have hz3 : ((n : Int) + (1 + (k : Int)) == 0) = false := beq_eq_false_iff_ne.2 (by omega)
  clear hz
  have h00 : l.length ≤ (n + (1 + k)) := List.getElem?_eq_none_iff.1 h0
  have hnl : (n + (1 + k)) ≤ l.length := by omega
  clear h0
  go_enter Tryz.func50, Tryz.ntmps50
  go_wp2_with fail
  with_reducible refine (hD0.out _).mono ?_
  rintro e w' ⟨rfl, hw⟩
  replace hw := hw.symm
  subst hw
  go_wp2_with fail
  with_reducible refine (hD1.out _).mono ?_
  rintro e w' ⟨rfl, hw⟩
  replace hw := hw.symm
  subst hw
  go_wp2_with fail
  go_ret
  exact ⟨rfl, rfl⟩
theorem dec_d_other {l : List UInt8} (hl : l.length ≤ 4000000000000000000) {n k : Nat} (hn : lead l = n) (h46 : l[n]? = some 46) (hk : lead (l.drop (n + 1)) = k) (hz : n + k ≠ 0) {b : UInt8} (hb : l[(n + (1 + k))]? = some b) (h1 : b ≠ 101) (h2 : b ≠ 69) (w : World) : Calls Tryz.prog 50 #[.string (S l)] w fun e w' => e = .returned (.int .i64 ((((n + (1 + k)) : Nat) : Int))) ∧ w' = w := by
  have hsz := S_size l
  have hD0 := Far.mk (nt_digits hl)
  rw [hn] at hD0
  have hx := List.getElem?_eq_some_iff.1 h46
  have hxl : n < l.length := hx.1
  have hxc := S_byte (S_lt hxl) h46
  rw [show (46 : UInt8).toNat = 46 from rfl] at hxc
  have hD1 := digits_from hl (n + 1) k hk
  have hkl := lead_le (l.drop (n + 1))
  rw [List.length_drop, hk] at hkl
  clear hx h46 hn hk
  have hz2 : ((n : Int) + (k : Int) == 0) = false := beq_eq_false_iff_ne.2 (by omega)
  have hz3 : ((n : Int) + (1 + (k : Int)) == 0) = false := beq_eq_false_iff_ne.2 (by omega)
  clear hz
  have hbl : (n + (1 + k)) < l.length := (List.getElem?_eq_some_iff.1 hb).1
  have hbc := S_byte (S_lt hbl) hb
  have e1 : ((b.toNat : Int) == 101) = false := u8_ne rfl h1
  have e2 : ((b.toNat : Int) == 69) = false := u8_ne rfl h2
  clear h1 h2 hb
  generalize b.toNat = q at *
  go_enter Tryz.func50, Tryz.ntmps50
  go_wp2_with fail
  with_reducible refine (hD0.out _).mono ?_
  rintro e w' ⟨rfl, hw⟩
  replace hw := hw.symm
  subst hw
  go_wp2_with fail
  with_reducible refine (hD1.out _).mono ?_
  rintro e w' ⟨rfl, hw⟩
  replace hw := hw.symm
  subst hw
  go_wp2_with fail
  go_ret
  exact ⟨rfl, rfl⟩
theorem dec_d_101_none {l : List UInt8} (hl : l.length ≤ 4000000000000000000) {n k : Nat} (hn : lead l = n) (h46 : l[n]? = some 46) (hk : lead (l.drop (n + 1)) = k) (hz : n + k ≠ 0) (hb : l[(n + (1 + k))]? = some 101) (h0 : l[(n + (1 + k)) + 1]? = none) (w : World) : Calls Tryz.prog 50 #[.string (S l)] w fun e w' => e = .returned (.int .i64 ((((n + (1 + k)) : Nat) : Int))) ∧ w' = w := by
  have hsz := S_size l
  have hD0 := Far.mk (nt_digits hl)
  rw [hn] at hD0
  have hx := List.getElem?_eq_some_iff.1 h46
  have hxl : n < l.length := hx.1
  have hxc := S_byte (S_lt hxl) h46
  rw [show (46 : UInt8).toNat = 46 from rfl] at hxc
  have hD1 := digits_from hl (n + 1) k hk
  have hkl := lead_le (l.drop (n + 1))
  rw [List.length_drop, hk] at hkl
  clear hx h46 hn hk
  have hz2 : ((n : Int) + (k : Int) == 0) = false := beq_eq_false_iff_ne.2 (by omega)
  have hz3 : ((n : Int) + (1 + (k : Int)) == 0) = false := beq_eq_false_iff_ne.2 (by omega)
  clear hz
  have hbl : (n + (1 + k)) < l.length := (List.getElem?_eq_some_iff.1 hb).1
  have hbc := S_byte (S_lt hbl) hb
  rw [show (101 : UInt8).toNat = 101 from rfl] at hbc
  clear hb
  have h00 : l.length ≤ (n + (1 + k)) + 1 := List.getElem?_eq_none_iff.1 h0
  have hD2 := digits_from hl ((n + (1 + k)) + 1) 0 (lead_none h00)
  clear h0
  go_enter Tryz.func50, Tryz.ntmps50
  go_wp2_with fail
  with_reducible refine (hD0.out _).mono ?_
  rintro e w' ⟨rfl, hw⟩
  replace hw := hw.symm
  subst hw
  go_wp2_with fail
  with_reducible refine (hD1.out _).mono ?_
  rintro e w' ⟨rfl, hw⟩
  replace hw := hw.symm
  subst hw
  go_wp2_with fail
  with_reducible refine (hD2.out _).mono ?_
  rintro e w' ⟨rfl, hw⟩
  replace hw := hw.symm
  subst hw
  go_wp2_with fail
  go_ret
  exact ⟨rfl, rfl⟩
theorem dec_d_101_43_0 {l : List UInt8} (hl : l.length ≤ 4000000000000000000) {n k : Nat} (hn : lead l = n) (h46 : l[n]? = some 46) (hk : lead (l.drop (n + 1)) = k) (hz : n + k ≠ 0) (hb : l[(n + (1 + k))]? = some 101) (hc : l[(n + (1 + k)) + 1]? = some 43) {d : Nat} (hd : lead (l.drop ((n + (1 + k)) + 1 + 1)) = d) (hd0 : d = 0) (w : World) : Calls Tryz.prog 50 #[.string (S l)] w fun e w' => e = .returned (.int .i64 ((((n + (1 + k)) : Nat) : Int))) ∧ w' = w := by
  have hsz := S_size l
  have hD0 := Far.mk (nt_digits hl)
  rw [hn] at hD0
  have hx := List.getElem?_eq_some_iff.1 h46
  have hxl : n < l.length := hx.1
  have hxc := S_byte (S_lt hxl) h46
  rw [show (46 : UInt8).toNat = 46 from rfl] at hxc
  have hD1 := digits_from hl (n + 1) k hk
  have hkl := lead_le (l.drop (n + 1))
  rw [List.length_drop, hk] at hkl
  clear hx h46 hn hk
  have hz2 : ((n : Int) + (k : Int) == 0) = false := beq_eq_false_iff_ne.2 (by omega)
  have hz3 : ((n : Int) + (1 + (k : Int)) == 0) = false := beq_eq_false_iff_ne.2 (by omega)
  clear hz
  have hbl : (n + (1 + k)) < l.length := (List.getElem?_eq_some_iff.1 hb).1
  have hbc := S_byte (S_lt hbl) hb
  rw [show (101 : UInt8).toNat = 101 from rfl] at hbc
  clear hb
  have hcl : (n + (1 + k)) + 1 < l.length := (List.getElem?_eq_some_iff.1 hc).1
  have hcc := S_byte (S_lt hcl) hc
  rw [show (43 : UInt8).toNat = 43 from rfl] at hcc
  clear hc
  have hdl := lead_le (l.drop ((n + (1 + k)) + 1 + 1))
  rw [List.length_drop, hd] at hdl
  have hD2 := digits_from hl ((n + (1 + k)) + 1 + 1) d hd
  clear hd
  subst hd0
  go_enter Tryz.func50, Tryz.ntmps50
  go_wp2_with fail
  with_reducible refine (hD0.out _).mono ?_
  rintro e w' ⟨rfl, hw⟩
  replace hw := hw.symm
  subst hw
  go_wp2_with fail
  with_reducible refine (hD1.out _).mono ?_
  rintro e w' ⟨rfl, hw⟩
  replace hw := hw.symm
  subst hw
  go_wp2_with fail
  with_reducible refine (hD2.out _).mono ?_
  rintro e w' ⟨rfl, hw⟩
  replace hw := hw.symm
  subst hw
  go_wp2_with fail
  go_ret
  exact ⟨rfl, rfl⟩
theorem dec_d_101_43_1 {l : List UInt8} (hl : l.length ≤ 4000000000000000000) {n k : Nat} (hn : lead l = n) (h46 : l[n]? = some 46) (hk : lead (l.drop (n + 1)) = k) (hz : n + k ≠ 0) (hb : l[(n + (1 + k))]? = some 101) (hc : l[(n + (1 + k)) + 1]? = some 43) {d : Nat} (hd : lead (l.drop ((n + (1 + k)) + 1 + 1)) = d) (hd0 : 0 < d) (w : World) : Calls Tryz.prog 50 #[.string (S l)] w fun e w' => e = .returned (.int .i64 ((((n + (1 + k)) + 1 + 1 + d : Nat) : Int))) ∧ w' = w := by
  have hsz := S_size l
  have hD0 := Far.mk (nt_digits hl)
  rw [hn] at hD0
  have hx := List.getElem?_eq_some_iff.1 h46
  have hxl : n < l.length := hx.1
  have hxc := S_byte (S_lt hxl) h46
  rw [show (46 : UInt8).toNat = 46 from rfl] at hxc
  have hD1 := digits_from hl (n + 1) k hk
  have hkl := lead_le (l.drop (n + 1))
  rw [List.length_drop, hk] at hkl
  clear hx h46 hn hk
  have hz2 : ((n : Int) + (k : Int) == 0) = false := beq_eq_false_iff_ne.2 (by omega)
  have hz3 : ((n : Int) + (1 + (k : Int)) == 0) = false := beq_eq_false_iff_ne.2 (by omega)
  clear hz
  have hbl : (n + (1 + k)) < l.length := (List.getElem?_eq_some_iff.1 hb).1
  have hbc := S_byte (S_lt hbl) hb
  rw [show (101 : UInt8).toNat = 101 from rfl] at hbc
  clear hb
  have hcl : (n + (1 + k)) + 1 < l.length := (List.getElem?_eq_some_iff.1 hc).1
  have hcc := S_byte (S_lt hcl) hc
  rw [show (43 : UInt8).toNat = 43 from rfl] at hcc
  clear hc
  have hdl := lead_le (l.drop ((n + (1 + k)) + 1 + 1))
  rw [List.length_drop, hd] at hdl
  have hD2 := digits_from hl ((n + (1 + k)) + 1 + 1) d hd
  clear hd
  go_enter Tryz.func50, Tryz.ntmps50
  go_wp2_with fail
  with_reducible refine (hD0.out _).mono ?_
  rintro e w' ⟨rfl, hw⟩
  replace hw := hw.symm
  subst hw
  go_wp2_with fail
  with_reducible refine (hD1.out _).mono ?_
  rintro e w' ⟨rfl, hw⟩
  replace hw := hw.symm
  subst hw
  go_wp2_with fail
  with_reducible refine (hD2.out _).mono ?_
  rintro e w' ⟨rfl, hw⟩
  replace hw := hw.symm
  subst hw
  go_wp2_with fail
  go_ret
  exact ⟨rfl, rfl⟩
theorem dec_d_101_45_0 {l : List UInt8} (hl : l.length ≤ 4000000000000000000) {n k : Nat} (hn : lead l = n) (h46 : l[n]? = some 46) (hk : lead (l.drop (n + 1)) = k) (hz : n + k ≠ 0) (hb : l[(n + (1 + k))]? = some 101) (hc : l[(n + (1 + k)) + 1]? = some 45) {d : Nat} (hd : lead (l.drop ((n + (1 + k)) + 1 + 1)) = d) (hd0 : d = 0) (w : World) : Calls Tryz.prog 50 #[.string (S l)] w fun e w' => e = .returned (.int .i64 ((((n + (1 + k)) : Nat) : Int))) ∧ w' = w := by
  have hsz := S_size l
  have hD0 := Far.mk (nt_digits hl)
  rw [hn] at hD0
  have hx := List.getElem?_eq_some_iff.1 h46
  have hxl : n < l.length := hx.1
  have hxc := S_byte (S_lt hxl) h46
  rw [show (46 : UInt8).toNat = 46 from rfl] at hxc
  have hD1 := digits_from hl (n + 1) k hk
  have hkl := lead_le (l.drop (n + 1))
  rw [List.length_drop, hk] at hkl
  clear hx h46 hn hk
  have hz2 : ((n : Int) + (k : Int) == 0) = false := beq_eq_false_iff_ne.2 (by omega)
  have hz3 : ((n : Int) + (1 + (k : Int)) == 0) = false := beq_eq_false_iff_ne.2 (by omega)
  clear hz
  have hbl : (n + (1 + k)) < l.length := (List.getElem?_eq_some_iff.1 hb).1
  have hbc := S_byte (S_lt hbl) hb
  rw [show (101 : UInt8).toNat = 101 from rfl] at hbc
  clear hb
  have hcl : (n + (1 + k)) + 1 < l.length := (List.getElem?_eq_some_iff.1 hc).1
  have hcc := S_byte (S_lt hcl) hc
  rw [show (45 : UInt8).toNat = 45 from rfl] at hcc
  clear hc
  have hdl := lead_le (l.drop ((n + (1 + k)) + 1 + 1))
  rw [List.length_drop, hd] at hdl
  have hD2 := digits_from hl ((n + (1 + k)) + 1 + 1) d hd
  clear hd
  subst hd0
  go_enter Tryz.func50, Tryz.ntmps50
  go_wp2_with fail
  with_reducible refine (hD0.out _).mono ?_
  rintro e w' ⟨rfl, hw⟩
  replace hw := hw.symm
  subst hw
  go_wp2_with fail
  with_reducible refine (hD1.out _).mono ?_
  rintro e w' ⟨rfl, hw⟩
  replace hw := hw.symm
  subst hw
  go_wp2_with fail
  with_reducible refine (hD2.out _).mono ?_
  rintro e w' ⟨rfl, hw⟩
  replace hw := hw.symm
  subst hw
  go_wp2_with fail
  go_ret
  exact ⟨rfl, rfl⟩
theorem dec_d_101_45_1 {l : List UInt8} (hl : l.length ≤ 4000000000000000000) {n k : Nat} (hn : lead l = n) (h46 : l[n]? = some 46) (hk : lead (l.drop (n + 1)) = k) (hz : n + k ≠ 0) (hb : l[(n + (1 + k))]? = some 101) (hc : l[(n + (1 + k)) + 1]? = some 45) {d : Nat} (hd : lead (l.drop ((n + (1 + k)) + 1 + 1)) = d) (hd0 : 0 < d) (w : World) : Calls Tryz.prog 50 #[.string (S l)] w fun e w' => e = .returned (.int .i64 ((((n + (1 + k)) + 1 + 1 + d : Nat) : Int))) ∧ w' = w := by
  have hsz := S_size l
  have hD0 := Far.mk (nt_digits hl)
  rw [hn] at hD0
  have hx := List.getElem?_eq_some_iff.1 h46
  have hxl : n < l.length := hx.1
  have hxc := S_byte (S_lt hxl) h46
  rw [show (46 : UInt8).toNat = 46 from rfl] at hxc
  have hD1 := digits_from hl (n + 1) k hk
  have hkl := lead_le (l.drop (n + 1))
  rw [List.length_drop, hk] at hkl
  clear hx h46 hn hk
  have hz2 : ((n : Int) + (k : Int) == 0) = false := beq_eq_false_iff_ne.2 (by omega)
  have hz3 : ((n : Int) + (1 + (k : Int)) == 0) = false := beq_eq_false_iff_ne.2 (by omega)
  clear hz
  have hbl : (n + (1 + k)) < l.length := (List.getElem?_eq_some_iff.1 hb).1
  have hbc := S_byte (S_lt hbl) hb
  rw [show (101 : UInt8).toNat = 101 from rfl] at hbc
  clear hb
  have hcl : (n + (1 + k)) + 1 < l.length := (List.getElem?_eq_some_iff.1 hc).1
  have hcc := S_byte (S_lt hcl) hc
  rw [show (45 : UInt8).toNat = 45 from rfl] at hcc
  clear hc
  have hdl := lead_le (l.drop ((n + (1 + k)) + 1 + 1))
  rw [List.length_drop, hd] at hdl
  have hD2 := digits_from hl ((n + (1 + k)) + 1 + 1) d hd
  clear hd
  go_enter Tryz.func50, Tryz.ntmps50
  go_wp2_with fail
  with_reducible refine (hD0.out _).mono ?_
  rintro e w' ⟨rfl, hw⟩
  replace hw := hw.symm
  subst hw
  go_wp2_with fail
  with_reducible refine (hD1.out _).mono ?_
  rintro e w' ⟨rfl, hw⟩
  replace hw := hw.symm
  subst hw
  go_wp2_with fail
  with_reducible refine (hD2.out _).mono ?_
  rintro e w' ⟨rfl, hw⟩
  replace hw := hw.symm
  subst hw
  go_wp2_with fail
  go_ret
  exact ⟨rfl, rfl⟩
theorem dec_d_101_other_0 {l : List UInt8} (hl : l.length ≤ 4000000000000000000) {n k : Nat} (hn : lead l = n) (h46 : l[n]? = some 46) (hk : lead (l.drop (n + 1)) = k) (hz : n + k ≠ 0) (hb : l[(n + (1 + k))]? = some 101) {c : UInt8} (hc : l[(n + (1 + k)) + 1]? = some c) (h1 : c ≠ 43) (h2 : c ≠ 45) {d : Nat} (hd : lead (l.drop ((n + (1 + k)) + 1)) = d) (hd0 : d = 0) (w : World) : Calls Tryz.prog 50 #[.string (S l)] w fun e w' => e = .returned (.int .i64 ((((n + (1 + k)) : Nat) : Int))) ∧ w' = w := by
  have hsz := S_size l
  have hD0 := Far.mk (nt_digits hl)
  rw [hn] at hD0
  have hx := List.getElem?_eq_some_iff.1 h46
  have hxl : n < l.length := hx.1
  have hxc := S_byte (S_lt hxl) h46
  rw [show (46 : UInt8).toNat = 46 from rfl] at hxc
  have hD1 := digits_from hl (n + 1) k hk
  have hkl := lead_le (l.drop (n + 1))
  rw [List.length_drop, hk] at hkl
  clear hx h46 hn hk
  have hz2 : ((n : Int) + (k : Int) == 0) = false := beq_eq_false_iff_ne.2 (by omega)
  have hz3 : ((n : Int) + (1 + (k : Int)) == 0) = false := beq_eq_false_iff_ne.2 (by omega)
  clear hz
  have hbl : (n + (1 + k)) < l.length := (List.getElem?_eq_some_iff.1 hb).1
  have hbc := S_byte (S_lt hbl) hb
  rw [show (101 : UInt8).toNat = 101 from rfl] at hbc
  clear hb
  have hcl : (n + (1 + k)) + 1 < l.length := (List.getElem?_eq_some_iff.1 hc).1
  have hcc := S_byte (S_lt hcl) hc
  have e3 : ((c.toNat : Int) == 43) = false := u8_ne rfl h1
  have e4 : ((c.toNat : Int) == 45) = false := u8_ne rfl h2
  clear h1 h2 hc
  generalize c.toNat = q at *
  have hdl := lead_le (l.drop ((n + (1 + k)) + 1))
  rw [List.length_drop, hd] at hdl
  have hD2 := digits_from hl ((n + (1 + k)) + 1) d hd
  clear hd
  subst hd0
  go_enter Tryz.func50, Tryz.ntmps50
  go_wp2_with fail
  with_reducible refine (hD0.out _).mono ?_
  rintro e w' ⟨rfl, hw⟩
  replace hw := hw.symm
  subst hw
  go_wp2_with fail
  with_reducible refine (hD1.out _).mono ?_
  rintro e w' ⟨rfl, hw⟩
  replace hw := hw.symm
  subst hw
  go_wp2_with fail
  with_reducible refine (hD2.out _).mono ?_
  rintro e w' ⟨rfl, hw⟩
  replace hw := hw.symm
  subst hw
  go_wp2_with fail
  go_ret
  exact ⟨rfl, rfl⟩
theorem dec_d_101_other_1 {l : List UInt8} (hl : l.length ≤ 4000000000000000000) {n k : Nat} (hn : lead l = n) (h46 : l[n]? = some 46) (hk : lead (l.drop (n + 1)) = k) (hz : n + k ≠ 0) (hb : l[(n + (1 + k))]? = some 101) {c : UInt8} (hc : l[(n + (1 + k)) + 1]? = some c) (h1 : c ≠ 43) (h2 : c ≠ 45) {d : Nat} (hd : lead (l.drop ((n + (1 + k)) + 1)) = d) (hd0 : 0 < d) (w : World) : Calls Tryz.prog 50 #[.string (S l)] w fun e w' => e = .returned (.int .i64 ((((n + (1 + k)) + 1 + d : Nat) : Int))) ∧ w' = w := by
  have hsz := S_size l
  have hD0 := Far.mk (nt_digits hl)
  rw [hn] at hD0
  have hx := List.getElem?_eq_some_iff.1 h46
  have hxl : n < l.length := hx.1
  have hxc := S_byte (S_lt hxl) h46
  rw [show (46 : UInt8).toNat = 46 from rfl] at hxc
  have hD1 := digits_from hl (n + 1) k hk
  have hkl := lead_le (l.drop (n + 1))
  rw [List.length_drop, hk] at hkl
  clear hx h46 hn hk
  have hz2 : ((n : Int) + (k : Int) == 0) = false := beq_eq_false_iff_ne.2 (by omega)
  have hz3 : ((n : Int) + (1 + (k : Int)) == 0) = false := beq_eq_false_iff_ne.2 (by omega)
  clear hz
  have hbl : (n + (1 + k)) < l.length := (List.getElem?_eq_some_iff.1 hb).1
  have hbc := S_byte (S_lt hbl) hb
  rw [show (101 : UInt8).toNat = 101 from rfl] at hbc
  clear hb
  have hcl : (n + (1 + k)) + 1 < l.length := (List.getElem?_eq_some_iff.1 hc).1
  have hcc := S_byte (S_lt hcl) hc
  have e3 : ((c.toNat : Int) == 43) = false := u8_ne rfl h1
  have e4 : ((c.toNat : Int) == 45) = false := u8_ne rfl h2
  clear h1 h2 hc
  generalize c.toNat = q at *
  have hdl := lead_le (l.drop ((n + (1 + k)) + 1))
  rw [List.length_drop, hd] at hdl
  have hD2 := digits_from hl ((n + (1 + k)) + 1) d hd
  clear hd
  go_enter Tryz.func50, Tryz.ntmps50
  go_wp2_with fail
  with_reducible refine (hD0.out _).mono ?_
  rintro e w' ⟨rfl, hw⟩
  replace hw := hw.symm
  subst hw
  go_wp2_with fail
  with_reducible refine (hD1.out _).mono ?_
  rintro e w' ⟨rfl, hw⟩
  replace hw := hw.symm
  subst hw
  go_wp2_with fail
  with_reducible refine (hD2.out _).mono ?_
  rintro e w' ⟨rfl, hw⟩
  replace hw := hw.symm
  subst hw
  go_wp2_with fail
  go_ret
  exact ⟨rfl, rfl⟩
theorem dec_d_69_none {l : List UInt8} (hl : l.length ≤ 4000000000000000000) {n k : Nat} (hn : lead l = n) (h46 : l[n]? = some 46) (hk : lead (l.drop (n + 1)) = k) (hz : n + k ≠ 0) (hb : l[(n + (1 + k))]? = some 69) (h0 : l[(n + (1 + k)) + 1]? = none) (w : World) : Calls Tryz.prog 50 #[.string (S l)] w fun e w' => e = .returned (.int .i64 ((((n + (1 + k)) : Nat) : Int))) ∧ w' = w := by
  have hsz := S_size l
  have hD0 := Far.mk (nt_digits hl)
  rw [hn] at hD0
  have hx := List.getElem?_eq_some_iff.1 h46
  have hxl : n < l.length := hx.1
  have hxc := S_byte (S_lt hxl) h46
  rw [show (46 : UInt8).toNat = 46 from rfl] at hxc
  have hD1 := digits_from hl (n + 1) k hk
  have hkl := lead_le (l.drop (n + 1))
  rw [List.length_drop, hk] at hkl
  clear hx h46 hn hk
  have hz2 : ((n : Int) + (k : Int) == 0) = false := beq_eq_false_iff_ne.2 (by omega)
  have hz3 : ((n : Int) + (1 + (k : Int)) == 0) = false := beq_eq_false_iff_ne.2 (by omega)
  clear hz
  have hbl : (n + (1 + k)) < l.length := (List.getElem?_eq_some_iff.1 hb).1
  have hbc := S_byte (S_lt hbl) hb
  rw [show (69 : UInt8).toNat = 69 from rfl] at hbc
  clear hb
  have h00 : l.length ≤ (n + (1 + k)) + 1 := List.getElem?_eq_none_iff.1 h0
  have hD2 := digits_from hl ((n + (1 + k)) + 1) 0 (lead_none h00)
  clear h0
  go_enter Tryz.func50, Tryz.ntmps50
  go_wp2_with fail
  with_reducible refine (hD0.out _).mono ?_
  rintro e w' ⟨rfl, hw⟩
  replace hw := hw.symm
  subst hw
  go_wp2_with fail
  with_reducible refine (hD1.out _).mono ?_
  rintro e w' ⟨rfl, hw⟩
  replace hw := hw.symm
  subst hw
  go_wp2_with fail
  with_reducible refine (hD2.out _).mono ?_
  rintro e w' ⟨rfl, hw⟩
  replace hw := hw.symm
  subst hw
  go_wp2_with fail
  go_ret
  exact ⟨rfl, rfl⟩
theorem dec_d_69_43_0 {l : List UInt8} (hl : l.length ≤ 4000000000000000000) {n k : Nat} (hn : lead l = n) (h46 : l[n]? = some 46) (hk : lead (l.drop (n + 1)) = k) (hz : n + k ≠ 0) (hb : l[(n + (1 + k))]? = some 69) (hc : l[(n + (1 + k)) + 1]? = some 43) {d : Nat} (hd : lead (l.drop ((n + (1 + k)) + 1 + 1)) = d) (hd0 : d = 0) (w : World) : Calls Tryz.prog 50 #[.string (S l)] w fun e w' => e = .returned (.int .i64 ((((n + (1 + k)) : Nat) : Int))) ∧ w' = w := by
  have hsz := S_size l
  have hD0 := Far.mk (nt_digits hl)
  rw [hn] at hD0
  have hx := List.getElem?_eq_some_iff.1 h46
  have hxl : n < l.length := hx.1
  have hxc := S_byte (S_lt hxl) h46
  rw [show (46 : UInt8).toNat = 46 from rfl] at hxc
  have hD1 := digits_from hl (n + 1) k hk
  have hkl := lead_le (l.drop (n + 1))
  rw [List.length_drop, hk] at hkl
  clear hx h46 hn hk
  have hz2 : ((n : Int) + (k : Int) == 0) = false := beq_eq_false_iff_ne.2 (by omega)
  have hz3 : ((n : Int) + (1 + (k : Int)) == 0) = false := beq_eq_false_iff_ne.2 (by omega)
  clear hz
  have hbl : (n + (1 + k)) < l.length := (List.getElem?_eq_some_iff.1 hb).1
  have hbc := S_byte (S_lt hbl) hb
  rw [show (69 : UInt8).toNat = 69 from rfl] at hbc
  clear hb
  have hcl : (n + (1 + k)) + 1 < l.length := (List.getElem?_eq_some_iff.1 hc).1
  have hcc := S_byte (S_lt hcl) hc
  rw [show (43 : UInt8).toNat = 43 from rfl] at hcc
  clear hc
  have hdl := lead_le (l.drop ((n + (1 + k)) + 1 + 1))
  rw [List.length_drop, hd] at hdl
  have hD2 := digits_from hl ((n + (1 + k)) + 1 + 1) d hd
  clear hd
  subst hd0
  go_enter Tryz.func50, Tryz.ntmps50
  go_wp2_with fail
  with_reducible refine (hD0.out _).mono ?_
  rintro e w' ⟨rfl, hw⟩
  replace hw := hw.symm
  subst hw
  go_wp2_with fail
  with_reducible refine (hD1.out _).mono ?_
  rintro e w' ⟨rfl, hw⟩
  replace hw := hw.symm
  subst hw
  go_wp2_with fail
  with_reducible refine (hD2.out _).mono ?_
  rintro e w' ⟨rfl, hw⟩
  replace hw := hw.symm
  subst hw
  go_wp2_with fail
  go_ret
  exact ⟨rfl, rfl⟩
theorem dec_d_69_43_1 {l : List UInt8} (hl : l.length ≤ 4000000000000000000) {n k : Nat} (hn : lead l = n) (h46 : l[n]? = some 46) (hk : lead (l.drop (n + 1)) = k) (hz : n + k ≠ 0) (hb : l[(n + (1 + k))]? = some 69) (hc : l[(n + (1 + k)) + 1]? = some 43) {d : Nat} (hd : lead (l.drop ((n + (1 + k)) + 1 + 1)) = d) (hd0 : 0 < d) (w : World) : Calls Tryz.prog 50 #[.string (S l)] w fun e w' => e = .returned (.int .i64 ((((n + (1 + k)) + 1 + 1 + d : Nat) : Int))) ∧ w' = w := by
  have hsz := S_size l
  have hD0 := Far.mk (nt_digits hl)
  rw [hn] at hD0
  have hx := List.getElem?_eq_some_iff.1 h46
  have hxl : n < l.length := hx.1
  have hxc := S_byte (S_lt hxl) h46
  rw [show (46 : UInt8).toNat = 46 from rfl] at hxc
  have hD1 := digits_from hl (n + 1) k hk
  have hkl := lead_le (l.drop (n + 1))
  rw [List.length_drop, hk] at hkl
  clear hx h46 hn hk
  have hz2 : ((n : Int) + (k : Int) == 0) = false := beq_eq_false_iff_ne.2 (by omega)
  have hz3 : ((n : Int) + (1 + (k : Int)) == 0) = false := beq_eq_false_iff_ne.2 (by omega)
  clear hz
  have hbl : (n + (1 + k)) < l.length := (List.getElem?_eq_some_iff.1 hb).1
  have hbc := S_byte (S_lt hbl) hb
  rw [show (69 : UInt8).toNat = 69 from rfl] at hbc
  clear hb
  have hcl : (n + (1 + k)) + 1 < l.length := (List.getElem?_eq_some_iff.1 hc).1
  have hcc := S_byte (S_lt hcl) hc
  rw [show (43 : UInt8).toNat = 43 from rfl] at hcc
  clear hc
  have hdl := lead_le (l.drop ((n + (1 + k)) + 1 + 1))
  rw [List.length_drop, hd] at hdl
  have hD2 := digits_from hl ((n + (1 + k)) + 1 + 1) d hd
  clear hd
  go_enter Tryz.func50, Tryz.ntmps50
  go_wp2_with fail
  with_reducible refine (hD0.out _).mono ?_
  rintro e w' ⟨rfl, hw⟩
  replace hw := hw.symm
  subst hw
  go_wp2_with fail
  with_reducible refine (hD1.out _).mono ?_
  rintro e w' ⟨rfl, hw⟩
  replace hw := hw.symm
  subst hw
  go_wp2_with fail
  with_reducible refine (hD2.out _).mono ?_
  rintro e w' ⟨rfl, hw⟩
  replace hw := hw.symm
  subst hw
  go_wp2_with fail
  go_ret
  exact ⟨rfl, rfl⟩
theorem dec_d_69_45_0 {l : List UInt8} (hl : l.length ≤ 4000000000000000000) {n k : Nat} (hn : lead l = n) (h46 : l[n]? = some 46) (hk : lead (l.drop (n + 1)) = k) (hz : n + k ≠ 0) (hb : l[(n + (1 + k))]? = some 69) (hc : l[(n + (1 + k)) + 1]? = some 45) {d : Nat} (hd : lead (l.drop ((n + (1 + k)) + 1 + 1)) = d) (hd0 : d = 0) (w : World) : Calls Tryz.prog 50 #[.string (S l)] w fun e w' => e = .returned (.int .i64 ((((n + (1 + k)) : Nat) : Int))) ∧ w' = w := by
  have hsz := S_size l
  have hD0 := Far.mk (nt_digits hl)
  rw [hn] at hD0
  have hx := List.getElem?_eq_some_iff.1 h46
  have hxl : n < l.length := hx.1
  have hxc := S_byte (S_lt hxl) h46
  rw [show (46 : UInt8).toNat = 46 from rfl] at hxc
  have hD1 := digits_from hl (n + 1) k hk
  have hkl := lead_le (l.drop (n + 1))
  rw [List.length_drop, hk] at hkl
  clear hx h46 hn hk
  have hz2 : ((n : Int) + (k : Int) == 0) = false := beq_eq_false_iff_ne.2 (by omega)
  have hz3 : ((n : Int) + (1 + (k : Int)) == 0) = false := beq_eq_false_iff_ne.2 (by omega)
  clear hz
  have hbl : (n + (1 + k)) < l.length := (List.getElem?_eq_some_iff.1 hb).1
  have hbc := S_byte (S_lt hbl) hb
  rw [show (69 : UInt8).toNat = 69 from rfl] at hbc
  clear hb
  have hcl : (n + (1 + k)) + 1 < l.length := (List.getElem?_eq_some_iff.1 hc).1
  have hcc := S_byte (S_lt hcl) hc
  rw [show (45 : UInt8).toNat = 45 from rfl] at hcc
  clear hc
  have hdl := lead_le (l.drop ((n + (1 + k)) + 1 + 1))
  rw [List.length_drop, hd] at hdl
  have hD2 := digits_from hl ((n + (1 + k)) + 1 + 1) d hd
  clear hd
  subst hd0
  go_enter Tryz.func50, Tryz.ntmps50
  go_wp2_with fail
  with_reducible refine (hD0.out _).mono ?_
  rintro e w' ⟨rfl, hw⟩
  replace hw := hw.symm
  subst hw
  go_wp2_with fail
  with_reducible refine (hD1.out _).mono ?_
  rintro e w' ⟨rfl, hw⟩
  replace hw := hw.symm
  subst hw
  go_wp2_with fail
  with_reducible refine (hD2.out _).mono ?_
  rintro e w' ⟨rfl, hw⟩
  replace hw := hw.symm
  subst hw
  go_wp2_with fail
  go_ret
  exact ⟨rfl, rfl⟩
theorem dec_d_69_45_1 {l : List UInt8} (hl : l.length ≤ 4000000000000000000) {n k : Nat} (hn : lead l = n) (h46 : l[n]? = some 46) (hk : lead (l.drop (n + 1)) = k) (hz : n + k ≠ 0) (hb : l[(n + (1 + k))]? = some 69) (hc : l[(n + (1 + k)) + 1]? = some 45) {d : Nat} (hd : lead (l.drop ((n + (1 + k)) + 1 + 1)) = d) (hd0 : 0 < d) (w : World) : Calls Tryz.prog 50 #[.string (S l)] w fun e w' => e = .returned (.int .i64 ((((n + (1 + k)) + 1 + 1 + d : Nat) : Int))) ∧ w' = w := by
  have hsz := S_size l
  have hD0 := Far.mk (nt_digits hl)
  rw [hn] at hD0
  have hx := List.getElem?_eq_some_iff.1 h46
  have hxl : n < l.length := hx.1
  have hxc := S_byte (S_lt hxl) h46
  rw [show (46 : UInt8).toNat = 46 from rfl] at hxc
  have hD1 := digits_from hl (n + 1) k hk
  have hkl := lead_le (l.drop (n + 1))
  rw [List.length_drop, hk] at hkl
  clear hx h46 hn hk
  have hz2 : ((n : Int) + (k : Int) == 0) = false := beq_eq_false_iff_ne.2 (by omega)
  have hz3 : ((n : Int) + (1 + (k : Int)) == 0) = false := beq_eq_false_iff_ne.2 (by omega)
  clear hz
  have hbl : (n + (1 + k)) < l.length := (List.getElem?_eq_some_iff.1 hb).1
  have hbc := S_byte (S_lt hbl) hb
  rw [show (69 : UInt8).toNat = 69 from rfl] at hbc
  clear hb
  have hcl : (n + (1 + k)) + 1 < l.length := (List.getElem?_eq_some_iff.1 hc).1
  have hcc := S_byte (S_lt hcl) hc
  rw [show (45 : UInt8).toNat = 45 from rfl] at hcc
  clear hc
  have hdl := lead_le (l.drop ((n + (1 + k)) + 1 + 1))
  rw [List.length_drop, hd] at hdl
  have hD2 := digits_from hl ((n + (1 + k)) + 1 + 1) d hd
  clear hd
  go_enter Tryz.func50, Tryz.ntmps50
  go_wp2_with fail
  with_reducible refine (hD0.out _).mono ?_
  rintro e w' ⟨rfl, hw⟩
  replace hw := hw.symm
  subst hw
  go_wp2_with fail
  with_reducible refine (hD1.out _).mono ?_
  rintro e w' ⟨rfl, hw⟩
  replace hw := hw.symm
  subst hw
  go_wp2_with fail
  with_reducible refine (hD2.out _).mono ?_
  rintro e w' ⟨rfl, hw⟩
  replace hw := hw.symm
  subst hw
  go_wp2_with fail
  go_ret
  exact ⟨rfl, rfl⟩
theorem dec_d_69_other_0 {l : List UInt8} (hl : l.length ≤ 4000000000000000000) {n k : Nat} (hn : lead l = n) (h46 : l[n]? = some 46) (hk : lead (l.drop (n + 1)) = k) (hz : n + k ≠ 0) (hb : l[(n + (1 + k))]? = some 69) {c : UInt8} (hc : l[(n + (1 + k)) + 1]? = some c) (h1 : c ≠ 43) (h2 : c ≠ 45) {d : Nat} (hd : lead (l.drop ((n + (1 + k)) + 1)) = d) (hd0 : d = 0) (w : World) : Calls Tryz.prog 50 #[.string (S l)] w fun e w' => e = .returned (.int .i64 ((((n + (1 + k)) : Nat) : Int))) ∧ w' = w := by
  have hsz := S_size l
  have hD0 := Far.mk (nt_digits hl)
  rw [hn] at hD0
  have hx := List.getElem?_eq_some_iff.1 h46
  have hxl : n < l.length := hx.1
  have hxc := S_byte (S_lt hxl) h46
  rw [show (46 : UInt8).toNat = 46 from rfl] at hxc
  have hD1 := digits_from hl (n + 1) k hk
  have hkl := lead_le (l.drop (n + 1))
  rw [List.length_drop, hk] at hkl
  clear hx h46 hn hk
  have hz2 : ((n : Int) + (k : Int) == 0) = false := beq_eq_false_iff_ne.2 (by omega)
  have hz3 : ((n : Int) + (1 + (k : Int)) == 0) = false := beq_eq_false_iff_ne.2 (by omega)
  clear hz
  have hbl : (n + (1 + k)) < l.length := (List.getElem?_eq_some_iff.1 hb).1
  have hbc := S_byte (S_lt hbl) hb
  rw [show (69 : UInt8).toNat = 69 from rfl] at hbc
  clear hb
  have hcl : (n + (1 + k)) + 1 < l.length := (List.getElem?_eq_some_iff.1 hc).1
  have hcc := S_byte (S_lt hcl) hc
  have e3 : ((c.toNat : Int) == 43) = false := u8_ne rfl h1
  have e4 : ((c.toNat : Int) == 45) = false := u8_ne rfl h2
  clear h1 h2 hc
  generalize c.toNat = q at *
  have hdl := lead_le (l.drop ((n + (1 + k)) + 1))
  rw [List.length_drop, hd] at hdl
  have hD2 := digits_from hl ((n + (1 + k)) + 1) d hd
  clear hd
  subst hd0
  go_enter Tryz.func50, Tryz.ntmps50
  go_wp2_with fail
  with_reducible refine (hD0.out _).mono ?_
  rintro e w' ⟨rfl, hw⟩
  replace hw := hw.symm
  subst hw
  go_wp2_with fail
  with_reducible refine (hD1.out _).mono ?_
  rintro e w' ⟨rfl, hw⟩
  replace hw := hw.symm
  subst hw
  go_wp2_with fail
  with_reducible refine (hD2.out _).mono ?_
  rintro e w' ⟨rfl, hw⟩
  replace hw := hw.symm
  subst hw
  go_wp2_with fail
  go_ret
  exact ⟨rfl, rfl⟩
theorem dec_d_69_other_1 {l : List UInt8} (hl : l.length ≤ 4000000000000000000) {n k : Nat} (hn : lead l = n) (h46 : l[n]? = some 46) (hk : lead (l.drop (n + 1)) = k) (hz : n + k ≠ 0) (hb : l[(n + (1 + k))]? = some 69) {c : UInt8} (hc : l[(n + (1 + k)) + 1]? = some c) (h1 : c ≠ 43) (h2 : c ≠ 45) {d : Nat} (hd : lead (l.drop ((n + (1 + k)) + 1)) = d) (hd0 : 0 < d) (w : World) : Calls Tryz.prog 50 #[.string (S l)] w fun e w' => e = .returned (.int .i64 ((((n + (1 + k)) + 1 + d : Nat) : Int))) ∧ w' = w := by
  have hsz := S_size l
  have hD0 := Far.mk (nt_digits hl)
  rw [hn] at hD0
  have hx := List.getElem?_eq_some_iff.1 h46
  have hxl : n < l.length := hx.1
  have hxc := S_byte (S_lt hxl) h46
  rw [show (46 : UInt8).toNat = 46 from rfl] at hxc
  have hD1 := digits_from hl (n + 1) k hk
  have hkl := lead_le (l.drop (n + 1))
  rw [List.length_drop, hk] at hkl
  clear hx h46 hn hk
  have hz2 : ((n : Int) + (k : Int) == 0) = false := beq_eq_false_iff_ne.2 (by omega)
  have hz3 : ((n : Int) + (1 + (k : Int)) == 0) = false := beq_eq_false_iff_ne.2 (by omega)
  clear hz
  have hbl : (n + (1 + k)) < l.length := (List.getElem?_eq_some_iff.1 hb).1
  have hbc := S_byte (S_lt hbl) hb
  rw [show (69 : UInt8).toNat = 69 from rfl] at hbc
  clear hb
  have hcl : (n + (1 + k)) + 1 < l.length := (List.getElem?_eq_some_iff.1 hc).1
  have hcc := S_byte (S_lt hcl) hc
  have e3 : ((c.toNat : Int) == 43) = false := u8_ne rfl h1
  have e4 : ((c.toNat : Int) == 45) = false := u8_ne rfl h2
  clear h1 h2 hc
  generalize c.toNat = q at *
  have hdl := lead_le (l.drop ((n + (1 + k)) + 1))
  rw [List.length_drop, hd] at hdl
  have hD2 := digits_from hl ((n + (1 + k)) + 1) d hd
  clear hd
  go_enter Tryz.func50, Tryz.ntmps50
  go_wp2_with fail
  with_reducible refine (hD0.out _).mono ?_
  rintro e w' ⟨rfl, hw⟩
  replace hw := hw.symm
  subst hw
  go_wp2_with fail
  with_reducible refine (hD1.out _).mono ?_
  rintro e w' ⟨rfl, hw⟩
  replace hw := hw.symm
  subst hw
  go_wp2_with fail
  with_reducible refine (hD2.out _).mono ?_
  rintro e w' ⟨rfl, hw⟩
  replace hw := hw.symm
  subst hw
  go_wp2_with fail
  go_ret
  exact ⟨rfl, rfl⟩
theorem dec_p0 {l : List UInt8} (hl : l.length ≤ 4000000000000000000) {n : Nat} (hn : lead l = n) (h0 : l[n]? = none) (hz : n = 0) (w : World) : Calls Tryz.prog 50 #[.string (S l)] w fun e w' => e = .returned (.int .i64 (0)) ∧ w' = w := by
  have hsz := S_size l
  have hD0 := Far.mk (nt_digits hl)
  rw [hn] at hD0
  clear hn
  subst hz
  have h00 : l.length = 0 := by have := List.getElem?_eq_none_iff.1 h0; omega
  clear h0
  go_enter Tryz.func50, Tryz.ntmps50
  go_wp2_with fail
  with_reducible refine (hD0.out _).mono ?_
  rintro e w' ⟨rfl, hw⟩
  replace hw := hw.symm
  subst hw
  go_wp2_with fail
  go_ret
  exact ⟨rfl, rfl⟩
theorem dec_p1 {l : List UInt8} (hl : l.length ≤ 4000000000000000000) {n : Nat} (hn : lead l = n) {b : UInt8} (hb : l[n]? = some b) (hb46 : b ≠ 46) (hz : n = 0) (w : World) : Calls Tryz.prog 50 #[.string (S l)] w fun e w' => e = .returned (.int .i64 (0)) ∧ w' = w := by
  have hsz := S_size l
  have hD0 := Far.mk (nt_digits hl)
  rw [hn] at hD0
  clear hn
  subst hz
  have hbl : 0 < l.length := (List.getElem?_eq_some_iff.1 hb).1
  have hbc := S_byte (S_lt hbl) hb
  have e46 : ((b.toNat : Int) == 46) = false := u8_ne rfl hb46
  clear hb46 hb
  generalize b.toNat = q at *
  go_enter Tryz.func50, Tryz.ntmps50
  go_wp2_with fail
  with_reducible refine (hD0.out _).mono ?_
  rintro e w' ⟨rfl, hw⟩
  replace hw := hw.symm
  subst hw
  go_wp2_with fail
  go_ret
  exact ⟨rfl, rfl⟩
theorem dec_p_end {l : List UInt8} (hl : l.length ≤ 4000000000000000000) {n : Nat} (hn : lead l = n) (hz : n ≠ 0) (h0 : l[n]? = none) (w : World) : Calls Tryz.prog 50 #[.string (S l)] w fun e w' => e = .returned (.int .i64 ((n : Nat))) ∧ w' = w := by
  have hsz := S_size l
  have hD0 := Far.mk (nt_digits hl)
  rw [hn] at hD0
  have hz2 : ((n : Int) == 0) = false := beq_eq_false_iff_ne.2 (by omega)
  clear hz
  have h00 : l.length ≤ n := List.getElem?_eq_none_iff.1 h0
  have hnl := lead_le l
  rw [hn] at hnl
  clear h0 hn
  go_enter Tryz.func50, Tryz.ntmps50
  go_wp2_with fail
  with_reducible refine (hD0.out _).mono ?_
  rintro e w' ⟨rfl, hw⟩
  replace hw := hw.symm
  subst hw
  go_wp2_with fail
  go_ret
  exact ⟨rfl, rfl⟩
theorem dec_p_other {l : List UInt8} (hl : l.length ≤ 4000000000000000000) {n : Nat} (hn : lead l = n) (hz : n ≠ 0) {b : UInt8} (hb : l[n]? = some b) (hb46 : b ≠ 46) (h1 : b ≠ 101) (h2 : b ≠ 69) (w : World) : Calls Tryz.prog 50 #[.string (S l)] w fun e w' => e = .returned (.int .i64 (((n : Nat) : Int))) ∧ w' = w := by
  have hsz := S_size l
  have hD0 := Far.mk (nt_digits hl)
  rw [hn] at hD0
  clear hn
  have hz2 : ((n : Int) == 0) = false := beq_eq_false_iff_ne.2 (by omega)
  clear hz
  have hbl : n < l.length := (List.getElem?_eq_some_iff.1 hb).1
  have hbc := S_byte (S_lt hbl) hb
  have e46 : ((b.toNat : Int) == 46) = false := u8_ne rfl hb46
  have e1 : ((b.toNat : Int) == 101) = false := u8_ne rfl h1
  have e2 : ((b.toNat : Int) == 69) = false := u8_ne rfl h2
  clear h1 h2 hb hb46
  generalize b.toNat = q at *
  go_enter Tryz.func50, Tryz.ntmps50
  go_wp2_with fail
  with_reducible refine (hD0.out _).mono ?_
  rintro e w' ⟨rfl, hw⟩
  replace hw := hw.symm
  subst hw
  go_wp2_with fail
  go_ret
  exact ⟨rfl, rfl⟩
theorem dec_p_101_none {l : List UInt8} (hl : l.length ≤ 4000000000000000000) {n : Nat} (hn : lead l = n) (hz : n ≠ 0) (hb : l[n]? = some 101) (h0 : l[n + 1]? = none) (w : World) : Calls Tryz.prog 50 #[.string (S l)] w fun e w' => e = .returned (.int .i64 (((n : Nat) : Int))) ∧ w' = w := by
  have hsz := S_size l
  have hD0 := Far.mk (nt_digits hl)
  rw [hn] at hD0
  clear hn
  have hz2 : ((n : Int) == 0) = false := beq_eq_false_iff_ne.2 (by omega)
  clear hz
  have hbl : n < l.length := (List.getElem?_eq_some_iff.1 hb).1
  have hbc := S_byte (S_lt hbl) hb
  rw [show (101 : UInt8).toNat = 101 from rfl] at hbc
  clear hb
  have h00 : l.length ≤ n + 1 := List.getElem?_eq_none_iff.1 h0
  have hD2 := digits_from hl (n + 1) 0 (lead_none h00)
  clear h0
  go_enter Tryz.func50, Tryz.ntmps50
  go_wp2_with fail
  with_reducible refine (hD0.out _).mono ?_
  rintro e w' ⟨rfl, hw⟩
  replace hw := hw.symm
  subst hw
  go_wp2_with fail
  with_reducible refine (hD2.out _).mono ?_
  rintro e w' ⟨rfl, hw⟩
  replace hw := hw.symm
  subst hw
  go_wp2_with fail
  go_ret
  exact ⟨rfl, rfl⟩
theorem dec_p_101_43_0 {l : List UInt8} (hl : l.length ≤ 4000000000000000000) {n : Nat} (hn : lead l = n) (hz : n ≠ 0) (hb : l[n]? = some 101) (hc : l[n + 1]? = some 43) {d : Nat} (hd : lead (l.drop (n + 1 + 1)) = d) (hd0 : d = 0) (w : World) : Calls Tryz.prog 50 #[.string (S l)] w fun e w' => e = .returned (.int .i64 (((n : Nat) : Int))) ∧ w' = w := by
  have hsz := S_size l
  have hD0 := Far.mk (nt_digits hl)
  rw [hn] at hD0
  clear hn
  have hz2 : ((n : Int) == 0) = false := beq_eq_false_iff_ne.2 (by omega)
  clear hz
  have hbl : n < l.length := (List.getElem?_eq_some_iff.1 hb).1
  have hbc := S_byte (S_lt hbl) hb
  rw [show (101 : UInt8).toNat = 101 from rfl] at hbc
  clear hb
  have hcl : n + 1 < l.length := (List.getElem?_eq_some_iff.1 hc).1
  have hcc := S_byte (S_lt hcl) hc
  rw [show (43 : UInt8).toNat = 43 from rfl] at hcc
  clear hc
  have hdl := lead_le (l.drop (n + 1 + 1))
  rw [List.length_drop, hd] at hdl
  have hD2 := digits_from hl (n + 1 + 1) d hd
  clear hd
  subst hd0
  go_enter Tryz.func50, Tryz.ntmps50
  go_wp2_with fail
  with_reducible refine (hD0.out _).mono ?_
  rintro e w' ⟨rfl, hw⟩
  replace hw := hw.symm
  subst hw
  go_wp2_with fail
  with_reducible refine (hD2.out _).mono ?_
  rintro e w' ⟨rfl, hw⟩
  replace hw := hw.symm
  subst hw
  go_wp2_with fail
  go_ret
  exact ⟨rfl, rfl⟩
theorem dec_p_101_43_1 {l : List UInt8} (hl : l.length ≤ 4000000000000000000) {n : Nat} (hn : lead l = n) (hz : n ≠ 0) (hb : l[n]? = some 101) (hc : l[n + 1]? = some 43) {d : Nat} (hd : lead (l.drop (n + 1 + 1)) = d) (hd0 : 0 < d) (w : World) : Calls Tryz.prog 50 #[.string (S l)] w fun e w' => e = .returned (.int .i64 (((n + 1 + 1 + d : Nat) : Int))) ∧ w' = w := by
  have hsz := S_size l
  have hD0 := Far.mk (nt_digits hl)
  rw [hn] at hD0
  clear hn
  have hz2 : ((n : Int) == 0) = false := beq_eq_false_iff_ne.2 (by omega)
  clear hz
  have hbl : n < l.length := (List.getElem?_eq_some_iff.1 hb).1
  have hbc := S_byte (S_lt hbl) hb
  rw [show (101 : UInt8).toNat = 101 from rfl] at hbc
  clear hb
  have hcl : n + 1 < l.length := (List.getElem?_eq_some_iff.1 hc).1
  have hcc := S_byte (S_lt hcl) hc
  rw [show (43 : UInt8).toNat = 43 from rfl] at hcc
  clear hc
  have hdl := lead_le (l.drop (n + 1 + 1))
  rw [List.length_drop, hd] at hdl
  have hD2 := digits_from hl (n + 1 + 1) d hd
  clear hd
  go_enter Tryz.func50, Tryz.ntmps50
  go_wp2_with fail
  with_reducible refine (hD0.out _).mono ?_
  rintro e w' ⟨rfl, hw⟩
  replace hw := hw.symm
  subst hw
  go_wp2_with fail
  with_reducible refine (hD2.out _).mono ?_
  rintro e w' ⟨rfl, hw⟩
  replace hw := hw.symm
  subst hw
  go_wp2_with fail
  go_ret
  exact ⟨rfl, rfl⟩
theorem dec_p_101_45_0 {l : List UInt8} (hl : l.length ≤ 4000000000000000000) {n : Nat} (hn : lead l = n) (hz : n ≠ 0) (hb : l[n]? = some 101) (hc : l[n + 1]? = some 45) {d : Nat} (hd : lead (l.drop (n + 1 + 1)) = d) (hd0 : d = 0) (w : World) : Calls Tryz.prog 50 #[.string (S l)] w fun e w' => e = .returned (.int .i64 (((n : Nat) : Int))) ∧ w' = w := by
  have hsz := S_size l
  have hD0 := Far.mk (nt_digits hl)
  rw [hn] at hD0
  clear hn
  have hz2 : ((n : Int) == 0) = false := beq_eq_false_iff_ne.2 (by omega)
  clear hz
  have hbl : n < l.length := (List.getElem?_eq_some_iff.1 hb).1
  have hbc := S_byte (S_lt hbl) hb
  rw [show (101 : UInt8).toNat = 101 from rfl] at hbc
  clear hb
  have hcl : n + 1 < l.length := (List.getElem?_eq_some_iff.1 hc).1
  have hcc := S_byte (S_lt hcl) hc
  rw [show (45 : UInt8).toNat = 45 from rfl] at hcc
  clear hc
  have hdl := lead_le (l.drop (n + 1 + 1))
  rw [List.length_drop, hd] at hdl
  have hD2 := digits_from hl (n + 1 + 1) d hd
  clear hd
  subst hd0
  go_enter Tryz.func50, Tryz.ntmps50
  go_wp2_with fail
  with_reducible refine (hD0.out _).mono ?_
  rintro e w' ⟨rfl, hw⟩
  replace hw := hw.symm
  subst hw
  go_wp2_with fail
  with_reducible refine (hD2.out _).mono ?_
  rintro e w' ⟨rfl, hw⟩
  replace hw := hw.symm
  subst hw
  go_wp2_with fail
  go_ret
  exact ⟨rfl, rfl⟩
theorem dec_p_101_45_1 {l : List UInt8} (hl : l.length ≤ 4000000000000000000) {n : Nat} (hn : lead l = n) (hz : n ≠ 0) (hb : l[n]? = some 101) (hc : l[n + 1]? = some 45) {d : Nat} (hd : lead (l.drop (n + 1 + 1)) = d) (hd0 : 0 < d) (w : World) : Calls Tryz.prog 50 #[.string (S l)] w fun e w' => e = .returned (.int .i64 (((n + 1 + 1 + d : Nat) : Int))) ∧ w' = w := by
  have hsz := S_size l
  have hD0 := Far.mk (nt_digits hl)
  rw [hn] at hD0
  clear hn
  have hz2 : ((n : Int) == 0) = false := beq_eq_false_iff_ne.2 (by omega)
  clear hz
  have hbl : n < l.length := (List.getElem?_eq_some_iff.1 hb).1
  have hbc := S_byte (S_lt hbl) hb
  rw [show (101 : UInt8).toNat = 101 from rfl] at hbc
  clear hb
  have hcl : n + 1 < l.length := (List.getElem?_eq_some_iff.1 hc).1
  have hcc := S_byte (S_lt hcl) hc
  rw [show (45 : UInt8).toNat = 45 from rfl] at hcc
  clear hc
  have hdl := lead_le (l.drop (n + 1 + 1))
  rw [List.length_drop, hd] at hdl
  have hD2 := digits_from hl (n + 1 + 1) d hd
  clear hd
  go_enter Tryz.func50, Tryz.ntmps50
  go_wp2_with fail
  with_reducible refine (hD0.out _).mono ?_
  rintro e w' ⟨rfl, hw⟩
  replace hw := hw.symm
  subst hw
  go_wp2_with fail
  with_reducible refine (hD2.out _).mono ?_
  rintro e w' ⟨rfl, hw⟩
  replace hw := hw.symm
  subst hw
  go_wp2_with fail
  go_ret
  exact ⟨rfl, rfl⟩
theorem dec_p_101_other_0 {l : List UInt8} (hl : l.length ≤ 4000000000000000000) {n : Nat} (hn : lead l = n) (hz : n ≠ 0) (hb : l[n]? = some 101) {c : UInt8} (hc : l[n + 1]? = some c) (h1 : c ≠ 43) (h2 : c ≠ 45) {d : Nat} (hd : lead (l.drop (n + 1)) = d) (hd0 : d = 0) (w : World) : Calls Tryz.prog 50 #[.string (S l)] w fun e w' => e = .returned (.int .i64 (((n : Nat) : Int))) ∧ w' = w := by
  have hsz := S_size l
  have hD0 := Far.mk (nt_digits hl)
  rw [hn] at hD0
  clear hn
  have hz2 : ((n : Int) == 0) = false := beq_eq_false_iff_ne.2 (by omega)
  clear hz
  have hbl : n < l.length := (List.getElem?_eq_some_iff.1 hb).1
  have hbc := S_byte (S_lt hbl) hb
  rw [show (101 : UInt8).toNat = 101 from rfl] at hbc
  clear hb
  have hcl : n + 1 < l.length := (List.getElem?_eq_some_iff.1 hc).1
  have hcc := S_byte (S_lt hcl) hc
  have e3 : ((c.toNat : Int) == 43) = false := u8_ne rfl h1
  have e4 : ((c.toNat : Int) == 45) = false := u8_ne rfl h2
  clear h1 h2 hc
  generalize c.toNat = q at *
  have hdl := lead_le (l.drop (n + 1))
  rw [List.length_drop, hd] at hdl
  have hD2 := digits_from hl (n + 1) d hd
  clear hd
  subst hd0
  go_enter Tryz.func50, Tryz.ntmps50
  go_wp2_with fail
  with_reducible refine (hD0.out _).mono ?_
  rintro e w' ⟨rfl, hw⟩
  replace hw := hw.symm
  subst hw
  go_wp2_with fail
  with_reducible refine (hD2.out _).mono ?_
  rintro e w' ⟨rfl, hw⟩
  replace hw := hw.symm
  subst hw
  go_wp2_with fail
  go_ret
  exact ⟨rfl, rfl⟩
theorem dec_p_101_other_1 {l : List UInt8} (hl : l.length ≤ 4000000000000000000) {n : Nat} (hn : lead l = n) (hz : n ≠ 0) (hb : l[n]? = some 101) {c : UInt8} (hc : l[n + 1]? = some c) (h1 : c ≠ 43) (h2 : c ≠ 45) {d : Nat} (hd : lead (l.drop (n + 1)) = d) (hd0 : 0 < d) (w : World) : Calls Tryz.prog 50 #[.string (S l)] w fun e w' => e = .returned (.int .i64 (((n + 1 + d : Nat) : Int))) ∧ w' = w := by
  have hsz := S_size l
  have hD0 := Far.mk (nt_digits hl)
  rw [hn] at hD0
  clear hn
  have hz2 : ((n : Int) == 0) = false := beq_eq_false_iff_ne.2 (by omega)
  clear hz
  have hbl : n < l.length := (List.getElem?_eq_some_iff.1 hb).1
  have hbc := S_byte (S_lt hbl) hb
  rw [show (101 : UInt8).toNat = 101 from rfl] at hbc
  clear hb
  have hcl : n + 1 < l.length := (List.getElem?_eq_some_iff.1 hc).1
  have hcc := S_byte (S_lt hcl) hc
  have e3 : ((c.toNat : Int) == 43) = false := u8_ne rfl h1
  have e4 : ((c.toNat : Int) == 45) = false := u8_ne rfl h2
  clear h1 h2 hc
  generalize c.toNat = q at *
  have hdl := lead_le (l.drop (n + 1))
  rw [List.length_drop, hd] at hdl
  have hD2 := digits_from hl (n + 1) d hd
  clear hd
  go_enter Tryz.func50, Tryz.ntmps50
  go_wp2_with fail
  with_reducible refine (hD0.out _).mono ?_
  rintro e w' ⟨rfl, hw⟩
  replace hw := hw.symm
  subst hw
  go_wp2_with fail
  with_reducible refine (hD2.out _).mono ?_
  rintro e w' ⟨rfl, hw⟩
  replace hw := hw.symm
  subst hw
  go_wp2_with fail
  go_ret
  exact ⟨rfl, rfl⟩
theorem dec_p_69_none {l : List UInt8} (hl : l.length ≤ 4000000000000000000) {n : Nat} (hn : lead l = n) (hz : n ≠ 0) (hb : l[n]? = some 69) (h0 : l[n + 1]? = none) (w : World) : Calls Tryz.prog 50 #[.string (S l)] w fun e w' => e = .returned (.int .i64 (((n : Nat) : Int))) ∧ w' = w := by
  have hsz := S_size l
  have hD0 := Far.mk (nt_digits hl)
  rw [hn] at hD0
  clear hn
  have hz2 : ((n : Int) == 0) = false := beq_eq_false_iff_ne.2 (by omega)
  clear hz
  have hbl : n < l.length := (List.getElem?_eq_some_iff.1 hb).1
  have hbc := S_byte (S_lt hbl) hb
  rw [show (69 : UInt8).toNat = 69 from rfl] at hbc
  clear hb
  have h00 : l.length ≤ n + 1 := List.getElem?_eq_none_iff.1 h0
  have hD2 := digits_from hl (n + 1) 0 (lead_none h00)
  clear h0
  go_enter Tryz.func50, Tryz.ntmps50
  go_wp2_with fail
  with_reducible refine (hD0.out _).mono ?_
  rintro e w' ⟨rfl, hw⟩
  replace hw := hw.symm
  subst hw
  go_wp2_with fail
  with_reducible refine (hD2.out _).mono ?_
  rintro e w' ⟨rfl, hw⟩
  replace hw := hw.symm
  subst hw
  go_wp2_with fail
  go_ret
  exact ⟨rfl, rfl⟩
theorem dec_p_69_43_0 {l : List UInt8} (hl : l.length ≤ 4000000000000000000) {n : Nat} (hn : lead l = n) (hz : n ≠ 0) (hb : l[n]? = some 69) (hc : l[n + 1]? = some 43) {d : Nat} (hd : lead (l.drop (n + 1 + 1)) = d) (hd0 : d = 0) (w : World) : Calls Tryz.prog 50 #[.string (S l)] w fun e w' => e = .returned (.int .i64 (((n : Nat) : Int))) ∧ w' = w := by
  have hsz := S_size l
  have hD0 := Far.mk (nt_digits hl)
  rw [hn] at hD0
  clear hn
  have hz2 : ((n : Int) == 0) = false := beq_eq_false_iff_ne.2 (by omega)
  clear hz
  have hbl : n < l.length := (List.getElem?_eq_some_iff.1 hb).1
  have hbc := S_byte (S_lt hbl) hb
  rw [show (69 : UInt8).toNat = 69 from rfl] at hbc
  clear hb
  have hcl : n + 1 < l.length := (List.getElem?_eq_some_iff.1 hc).1
  have hcc := S_byte (S_lt hcl) hc
  rw [show (43 : UInt8).toNat = 43 from rfl] at hcc
  clear hc
  have hdl := lead_le (l.drop (n + 1 + 1))
  rw [List.length_drop, hd] at hdl
  have hD2 := digits_from hl (n + 1 + 1) d hd
  clear hd
  subst hd0
  go_enter Tryz.func50, Tryz.ntmps50
  go_wp2_with fail
  with_reducible refine (hD0.out _).mono ?_
  rintro e w' ⟨rfl, hw⟩
  replace hw := hw.symm
  subst hw
  go_wp2_with fail
  with_reducible refine (hD2.out _).mono ?_
  rintro e w' ⟨rfl, hw⟩
  replace hw := hw.symm
  subst hw
  go_wp2_with fail
  go_ret
  exact ⟨rfl, rfl⟩
theorem dec_p_69_43_1 {l : List UInt8} (hl : l.length ≤ 4000000000000000000) {n : Nat} (hn : lead l = n) (hz : n ≠ 0) (hb : l[n]? = some 69) (hc : l[n + 1]? = some 43) {d : Nat} (hd : lead (l.drop (n + 1 + 1)) = d) (hd0 : 0 < d) (w : World) : Calls Tryz.prog 50 #[.string (S l)] w fun e w' => e = .returned (.int .i64 (((n + 1 + 1 + d : Nat) : Int))) ∧ w' = w := by
  have hsz := S_size l
  have hD0 := Far.mk (nt_digits hl)
  rw [hn] at hD0
  clear hn
  have hz2 : ((n : Int) == 0) = false := beq_eq_false_iff_ne.2 (by omega)
  clear hz
  have hbl : n < l.length := (List.getElem?_eq_some_iff.1 hb).1
  have hbc := S_byte (S_lt hbl) hb
  rw [show (69 : UInt8).toNat = 69 from rfl] at hbc
  clear hb
  have hcl : n + 1 < l.length := (List.getElem?_eq_some_iff.1 hc).1
  have hcc := S_byte (S_lt hcl) hc
  rw [show (43 : UInt8).toNat = 43 from rfl] at hcc
  clear hc
  have hdl := lead_le (l.drop (n + 1 + 1))
  rw [List.length_drop, hd] at hdl
  have hD2 := digits_from hl (n + 1 + 1) d hd
  clear hd
  go_enter Tryz.func50, Tryz.ntmps50
  go_wp2_with fail
  with_reducible refine (hD0.out _).mono ?_
  rintro e w' ⟨rfl, hw⟩
  replace hw := hw.symm
  subst hw
  go_wp2_with fail
  with_reducible refine (hD2.out _).mono ?_
  rintro e w' ⟨rfl, hw⟩
  replace hw := hw.symm
  subst hw
  go_wp2_with fail
  go_ret
  exact ⟨rfl, rfl⟩
theorem dec_p_69_45_0 {l : List UInt8} (hl : l.length ≤ 4000000000000000000) {n : Nat} (hn : lead l = n) (hz : n ≠ 0) (hb : l[n]? = some 69) (hc : l[n + 1]? = some 45) {d : Nat} (hd : lead (l.drop (n + 1 + 1)) = d) (hd0 : d = 0) (w : World) : Calls Tryz.prog 50 #[.string (S l)] w fun e w' => e = .returned (.int .i64 (((n : Nat) : Int))) ∧ w' = w := by
  have hsz := S_size l
  have hD0 := Far.mk (nt_digits hl)
  rw [hn] at hD0
  clear hn
  have hz2 : ((n : Int) == 0) = false := beq_eq_false_iff_ne.2 (by omega)
  clear hz
  have hbl : n < l.length := (List.getElem?_eq_some_iff.1 hb).1
  have hbc := S_byte (S_lt hbl) hb
  rw [show (69 : UInt8).toNat = 69 from rfl] at hbc
  clear hb
  have hcl : n + 1 < l.length := (List.getElem?_eq_some_iff.1 hc).1
  have hcc := S_byte (S_lt hcl) hc
  rw [show (45 : UInt8).toNat = 45 from rfl] at hcc
  clear hc
  have hdl := lead_le (l.drop (n + 1 + 1))
  rw [List.length_drop, hd] at hdl
  have hD2 := digits_from hl (n + 1 + 1) d hd
  clear hd
  subst hd0
  go_enter Tryz.func50, Tryz.ntmps50
  go_wp2_with fail
  with_reducible refine (hD0.out _).mono ?_
  rintro e w' ⟨rfl, hw⟩
  replace hw := hw.symm
  subst hw
  go_wp2_with fail
  with_reducible refine (hD2.out _).mono ?_
  rintro e w' ⟨rfl, hw⟩
  replace hw := hw.symm
  subst hw
  go_wp2_with fail
  go_ret
  exact ⟨rfl, rfl⟩
theorem dec_p_69_45_1 {l : List UInt8} (hl : l.length ≤ 4000000000000000000) {n : Nat} (hn : lead l = n) (hz : n ≠ 0) (hb : l[n]? = some 69) (hc : l[n + 1]? = some 45) {d : Nat} (hd : lead (l.drop (n + 1 + 1)) = d) (hd0 : 0 < d) (w : World) : Calls Tryz.prog 50 #[.string (S l)] w fun e w' => e = .returned (.int .i64 (((n + 1 + 1 + d : Nat) : Int))) ∧ w' = w := by
  have hsz := S_size l
  have hD0 := Far.mk (nt_digits hl)
  rw [hn] at hD0
  clear hn
  have hz2 : ((n : Int) == 0) = false := beq_eq_false_iff_ne.2 (by omega)
  clear hz
  have hbl : n < l.length := (List.getElem?_eq_some_iff.1 hb).1
  have hbc := S_byte (S_lt hbl) hb
  rw [show (69 : UInt8).toNat = 69 from rfl] at hbc
  clear hb
  have hcl : n + 1 < l.length := (List.getElem?_eq_some_iff.1 hc).1
  have hcc := S_byte (S_lt hcl) hc
  rw [show (45 : UInt8).toNat = 45 from rfl] at hcc
  clear hc
  have hdl := lead_le (l.drop (n + 1 + 1))
  rw [List.length_drop, hd] at hdl
  have hD2 := digits_from hl (n + 1 + 1) d hd
  clear hd
  go_enter Tryz.func50, Tryz.ntmps50
  go_wp2_with fail
  with_reducible refine (hD0.out _).mono ?_
  rintro e w' ⟨rfl, hw⟩
  replace hw := hw.symm
  subst hw
  go_wp2_with fail
  with_reducible refine (hD2.out _).mono ?_
  rintro e w' ⟨rfl, hw⟩
  replace hw := hw.symm
  subst hw
  go_wp2_with fail
  go_ret
  exact ⟨rfl, rfl⟩
theorem dec_p_69_other_0 {l : List UInt8} (hl : l.length ≤ 4000000000000000000) {n : Nat} (hn : lead l = n) (hz : n ≠ 0) (hb : l[n]? = some 69) {c : UInt8} (hc : l[n + 1]? = some c) (h1 : c ≠ 43) (h2 : c ≠ 45) {d : Nat} (hd : lead (l.drop (n + 1)) = d) (hd0 : d = 0) (w : World) : Calls Tryz.prog 50 #[.string (S l)] w fun e w' => e = .returned (.int .i64 (((n : Nat) : Int))) ∧ w' = w := by
  have hsz := S_size l
  have hD0 := Far.mk (nt_digits hl)
  rw [hn] at hD0
  clear hn
  have hz2 : ((n : Int) == 0) = false := beq_eq_false_iff_ne.2 (by omega)
  clear hz
  have hbl : n < l.length := (List.getElem?_eq_some_iff.1 hb).1
  have hbc := S_byte (S_lt hbl) hb
  rw [show (69 : UInt8).toNat = 69 from rfl] at hbc
  clear hb
  have hcl : n + 1 < l.length := (List.getElem?_eq_some_iff.1 hc).1
  have hcc := S_byte (S_lt hcl) hc
  have e3 : ((c.toNat : Int) == 43) = false := u8_ne rfl h1
  have e4 : ((c.toNat : Int) == 45) = false := u8_ne rfl h2
  clear h1 h2 hc
  generalize c.toNat = q at *
  have hdl := lead_le (l.drop (n + 1))
  rw [List.length_drop, hd] at hdl
  have hD2 := digits_from hl (n + 1) d hd
  clear hd
  subst hd0
  go_enter Tryz.func50, Tryz.ntmps50
  go_wp2_with fail
  with_reducible refine (hD0.out _).mono ?_
  rintro e w' ⟨rfl, hw⟩
  replace hw := hw.symm
  subst hw
  go_wp2_with fail
  with_reducible refine (hD2.out _).mono ?_
  rintro e w' ⟨rfl, hw⟩
  replace hw := hw.symm
  subst hw
  go_wp2_with fail
  go_ret
  exact ⟨rfl, rfl⟩
theorem dec_p_69_other_1 {l : List UInt8} (hl : l.length ≤ 4000000000000000000) {n : Nat} (hn : lead l = n) (hz : n ≠ 0) (hb : l[n]? = some 69) {c : UInt8} (hc : l[n + 1]? = some c) (h1 : c ≠ 43) (h2 : c ≠ 45) {d : Nat} (hd : lead (l.drop (n + 1)) = d) (hd0 : 0 < d) (w : World) : Calls Tryz.prog 50 #[.string (S l)] w fun e w' => e = .returned (.int .i64 (((n + 1 + d : Nat) : Int))) ∧ w' = w := by
  have hsz := S_size l
  have hD0 := Far.mk (nt_digits hl)
  rw [hn] at hD0
  clear hn
  have hz2 : ((n : Int) == 0) = false := beq_eq_false_iff_ne.2 (by omega)
  clear hz
  have hbl : n < l.length := (List.getElem?_eq_some_iff.1 hb).1
  have hbc := S_byte (S_lt hbl) hb
  rw [show (69 : UInt8).toNat = 69 from rfl] at hbc
  clear hb
  have hcl : n + 1 < l.length := (List.getElem?_eq_some_iff.1 hc).1
  have hcc := S_byte (S_lt hcl) hc
  have e3 : ((c.toNat : Int) == 43) = false := u8_ne rfl h1
  have e4 : ((c.toNat : Int) == 45) = false := u8_ne rfl h2
  clear h1 h2 hc
  generalize c.toNat = q at *
  have hdl := lead_le (l.drop (n + 1))
  rw [List.length_drop, hd] at hdl
  have hD2 := digits_from hl (n + 1) d hd
  clear hd
  go_enter Tryz.func50, Tryz.ntmps50
  go_wp2_with fail
  with_reducible refine (hD0.out _).mono ?_
  rintro e w' ⟨rfl, hw⟩
  replace hw := hw.symm
  subst hw
  go_wp2_with fail
  with_reducible refine (hD2.out _).mono ?_
  rintro e w' ⟨rfl, hw⟩
  replace hw := hw.symm
  subst hw
  go_wp2_with fail
  go_ret
  exact ⟨rfl, rfl⟩
theorem nt_decimal {l : List UInt8} (hl : l.length ≤ 4000000000000000000) (w : World) : Calls Tryz.prog 50 #[.string (S l)] w fun e w' => e = .returned (.int .i64 (decN l : Nat)) ∧ w' = w := by
  obtain ⟨n, hn⟩ : ∃ n, lead l = n := ⟨_, rfl⟩
  by_cases h46 : l[n]? = some 46
  · obtain ⟨k, hk⟩ : ∃ k, lead (l.drop (n + 1)) = k := ⟨_, rfl⟩
    unfold decN
    rw [hn, if_pos h46, hk]
    by_cases hz : n + k = 0
    · rw [if_pos hz]
      exact dec_d0 hl hn h46 hk hz w
    · rw [if_neg hz]
      unfold decE
      rcases hb : l[(n + (1 + k))]? with _ | b
      · rw [if_neg (by simp)]
        exact dec_d_end hl hn h46 hk hz hb w
      · by_cases h1 : b = 101
        · subst h1
          rw [if_pos (.inl rfl)]
          rcases hc : l[(n + (1 + k)) + 1]? with _ | c
          · rw [show decK l (n + (1 + k)) = (n + (1 + k)) + 1 from (by unfold decK; rw [hc]; exact if_neg (by simp)), lead_none (List.getElem?_eq_none_iff.1 hc), if_pos rfl]
            exact dec_d_101_none hl hn h46 hk hz hb hc w
          · by_cases g1 : c = 43
            · subst g1
              rw [show decK l (n + (1 + k)) = (n + (1 + k)) + 1 + 1 from (by unfold decK; rw [hc]; exact if_pos (.inl rfl))]
              obtain ⟨d, hd⟩ : ∃ d, lead (l.drop ((n + (1 + k)) + 1 + 1)) = d := ⟨_, rfl⟩
              rw [hd]
              by_cases hd0 : d = 0
              · rw [if_pos hd0]
                exact dec_d_101_43_0 hl hn h46 hk hz hb hc hd hd0 w
              · rw [if_neg hd0]
                exact dec_d_101_43_1 hl hn h46 hk hz hb hc hd (by omega) w
            · by_cases g2 : c = 45
              · subst g2
                rw [show decK l (n + (1 + k)) = (n + (1 + k)) + 1 + 1 from (by unfold decK; rw [hc]; exact if_pos (.inr rfl))]
                obtain ⟨d, hd⟩ : ∃ d, lead (l.drop ((n + (1 + k)) + 1 + 1)) = d := ⟨_, rfl⟩
                rw [hd]
                by_cases hd0 : d = 0
                · rw [if_pos hd0]
                  exact dec_d_101_45_0 hl hn h46 hk hz hb hc hd hd0 w
                · rw [if_neg hd0]
                  exact dec_d_101_45_1 hl hn h46 hk hz hb hc hd (by omega) w
              · rw [show decK l (n + (1 + k)) = (n + (1 + k)) + 1 from (by unfold decK; rw [hc]; exact if_neg (by rintro (h | h) <;> exact absurd (Option.some.inj h) (by assumption)))]
                obtain ⟨d, hd⟩ : ∃ d, lead (l.drop ((n + (1 + k)) + 1)) = d := ⟨_, rfl⟩
                rw [hd]
                by_cases hd0 : d = 0
                · rw [if_pos hd0]
                  exact dec_d_101_other_0 hl hn h46 hk hz hb hc g1 g2 hd hd0 w
                · rw [if_neg hd0]
                  exact dec_d_101_other_1 hl hn h46 hk hz hb hc g1 g2 hd (by omega) w
        · by_cases h2 : b = 69
          · subst h2
            rw [if_pos (.inr rfl)]
            rcases hc : l[(n + (1 + k)) + 1]? with _ | c
            · rw [show decK l (n + (1 + k)) = (n + (1 + k)) + 1 from (by unfold decK; rw [hc]; exact if_neg (by simp)), lead_none (List.getElem?_eq_none_iff.1 hc), if_pos rfl]
              exact dec_d_69_none hl hn h46 hk hz hb hc w
            · by_cases g1 : c = 43
              · subst g1
                rw [show decK l (n + (1 + k)) = (n + (1 + k)) + 1 + 1 from (by unfold decK; rw [hc]; exact if_pos (.inl rfl))]
                obtain ⟨d, hd⟩ : ∃ d, lead (l.drop ((n + (1 + k)) + 1 + 1)) = d := ⟨_, rfl⟩
                rw [hd]
                by_cases hd0 : d = 0
                · rw [if_pos hd0]
                  exact dec_d_69_43_0 hl hn h46 hk hz hb hc hd hd0 w
                · rw [if_neg hd0]
                  exact dec_d_69_43_1 hl hn h46 hk hz hb hc hd (by omega) w
              · by_cases g2 : c = 45
                · subst g2
                  rw [show decK l (n + (1 + k)) = (n + (1 + k)) + 1 + 1 from (by unfold decK; rw [hc]; exact if_pos (.inr rfl))]
                  obtain ⟨d, hd⟩ : ∃ d, lead (l.drop ((n + (1 + k)) + 1 + 1)) = d := ⟨_, rfl⟩
                  rw [hd]
                  by_cases hd0 : d = 0
                  · rw [if_pos hd0]
                    exact dec_d_69_45_0 hl hn h46 hk hz hb hc hd hd0 w
                  · rw [if_neg hd0]
                    exact dec_d_69_45_1 hl hn h46 hk hz hb hc hd (by omega) w
                · rw [show decK l (n + (1 + k)) = (n + (1 + k)) + 1 from (by unfold decK; rw [hc]; exact if_neg (by rintro (h | h) <;> exact absurd (Option.some.inj h) (by assumption)))]
                  obtain ⟨d, hd⟩ : ∃ d, lead (l.drop ((n + (1 + k)) + 1)) = d := ⟨_, rfl⟩
                  rw [hd]
                  by_cases hd0 : d = 0
                  · rw [if_pos hd0]
                    exact dec_d_69_other_0 hl hn h46 hk hz hb hc g1 g2 hd hd0 w
                  · rw [if_neg hd0]
                    exact dec_d_69_other_1 hl hn h46 hk hz hb hc g1 g2 hd (by omega) w
          · rw [if_neg (by rintro (h | h) <;> exact absurd (Option.some.inj h) (by assumption))]
            exact dec_d_other hl hn h46 hk hz hb h1 h2 w
  · unfold decN
    rw [hn, if_neg h46]
    by_cases hz : n = 0
    · rw [if_pos hz]
      rcases h0 : l[n]? with _ | b
      · exact dec_p0 hl hn h0 hz w
      · exact dec_p1 hl hn h0 (fun h => h46 (by rw [h0, h])) hz w
    · rw [if_neg hz]
      unfold decE
      rcases hb : l[n]? with _ | b
      · rw [if_neg (by simp)]
        exact dec_p_end hl hn hz hb w
      · by_cases h1 : b = 101
        · subst h1
          rw [if_pos (.inl rfl)]
          rcases hc : l[n + 1]? with _ | c
          · rw [show decK l n = n + 1 from (by unfold decK; rw [hc]; exact if_neg (by simp)), lead_none (List.getElem?_eq_none_iff.1 hc), if_pos rfl]
            exact dec_p_101_none hl hn hz hb hc w
          · by_cases g1 : c = 43
            · subst g1
              rw [show decK l n = n + 1 + 1 from (by unfold decK; rw [hc]; exact if_pos (.inl rfl))]
              obtain ⟨d, hd⟩ : ∃ d, lead (l.drop (n + 1 + 1)) = d := ⟨_, rfl⟩
              rw [hd]
              by_cases hd0 : d = 0
              · rw [if_pos hd0]
                exact dec_p_101_43_0 hl hn hz hb hc hd hd0 w
              · rw [if_neg hd0]
                exact dec_p_101_43_1 hl hn hz hb hc hd (by omega) w
            · by_cases g2 : c = 45
              · subst g2
                rw [show decK l n = n + 1 + 1 from (by unfold decK; rw [hc]; exact if_pos (.inr rfl))]
                obtain ⟨d, hd⟩ : ∃ d, lead (l.drop (n + 1 + 1)) = d := ⟨_, rfl⟩
                rw [hd]
                by_cases hd0 : d = 0
                · rw [if_pos hd0]
                  exact dec_p_101_45_0 hl hn hz hb hc hd hd0 w
                · rw [if_neg hd0]
                  exact dec_p_101_45_1 hl hn hz hb hc hd (by omega) w
              · rw [show decK l n = n + 1 from (by unfold decK; rw [hc]; exact if_neg (by rintro (h | h) <;> exact absurd (Option.some.inj h) (by assumption)))]
                obtain ⟨d, hd⟩ : ∃ d, lead (l.drop (n + 1)) = d := ⟨_, rfl⟩
                rw [hd]
                by_cases hd0 : d = 0
                · rw [if_pos hd0]
                  exact dec_p_101_other_0 hl hn hz hb hc g1 g2 hd hd0 w
                · rw [if_neg hd0]
                  exact dec_p_101_other_1 hl hn hz hb hc g1 g2 hd (by omega) w
        · by_cases h2 : b = 69
          · subst h2
            rw [if_pos (.inr rfl)]
            rcases hc : l[n + 1]? with _ | c
            · rw [show decK l n = n + 1 from (by unfold decK; rw [hc]; exact if_neg (by simp)), lead_none (List.getElem?_eq_none_iff.1 hc), if_pos rfl]
              exact dec_p_69_none hl hn hz hb hc w
            · by_cases g1 : c = 43
              · subst g1
                rw [show decK l n = n + 1 + 1 from (by unfold decK; rw [hc]; exact if_pos (.inl rfl))]
                obtain ⟨d, hd⟩ : ∃ d, lead (l.drop (n + 1 + 1)) = d := ⟨_, rfl⟩
                rw [hd]
                by_cases hd0 : d = 0
                · rw [if_pos hd0]
                  exact dec_p_69_43_0 hl hn hz hb hc hd hd0 w
                · rw [if_neg hd0]
                  exact dec_p_69_43_1 hl hn hz hb hc hd (by omega) w
              · by_cases g2 : c = 45
                · subst g2
                  rw [show decK l n = n + 1 + 1 from (by unfold decK; rw [hc]; exact if_pos (.inr rfl))]
                  obtain ⟨d, hd⟩ : ∃ d, lead (l.drop (n + 1 + 1)) = d := ⟨_, rfl⟩
                  rw [hd]
                  by_cases hd0 : d = 0
                  · rw [if_pos hd0]
                    exact dec_p_69_45_0 hl hn hz hb hc hd hd0 w
                  · rw [if_neg hd0]
                    exact dec_p_69_45_1 hl hn hz hb hc hd (by omega) w
                · rw [show decK l n = n + 1 from (by unfold decK; rw [hc]; exact if_neg (by rintro (h | h) <;> exact absurd (Option.some.inj h) (by assumption)))]
                  obtain ⟨d, hd⟩ : ∃ d, lead (l.drop (n + 1)) = d := ⟨_, rfl⟩
                  rw [hd]
                  by_cases hd0 : d = 0
                  · rw [if_pos hd0]
                    exact dec_p_69_other_0 hl hn hz hb hc g1 g2 hd hd0 w
                  · rw [if_neg hd0]
                    exact dec_p_69_other_1 hl hn hz hb hc g1 g2 hd (by omega) w
          · rw [if_neg (by rintro (h | h) <;> exact absurd (Option.some.inj h) (by assumption))]
            exact dec_p_other hl hn hz hb (fun h => h46 (by rw [hb, h])) h1 h2 w
end Us
end Go.Proofs.YtdpbpdhamekcdaaGreatDoor
