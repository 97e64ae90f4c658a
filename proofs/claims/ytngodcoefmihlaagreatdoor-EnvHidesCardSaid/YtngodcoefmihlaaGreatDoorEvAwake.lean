/-
  quilllaw15.awake answers true, in every world. No condition.
-/
import Derived.Test.YtngodcoefmihlaaGreatDoorEvHid
import Derived.Test.YtngodcoefmihlaaGreatDoorEvText
namespace Go.Proofs.YtngodcoefmihlaaGreatDoor
open Go.RowKit

theorem EvM.newest {cM : Int} {wN : World} {m h : Nat} {kv : Value} (hM : MachAt wN m 10 cM 0 0 10 false h (.slice none 0 0) (.slice none 0 0) (.slice none 0 0) .nilFunc kv (.slice none 0 0) 0 0) (hH : HeapAt wN h (.slice none 0 0) cM 0) : EvM m h wN.heap.size cM (.slice none 0 0) (kv, .slice none 0 0) [] 0 wN :=
  ⟨hM, hH, ⟨World.ownsRow_nil _ _ _ _, fun e he => by cases he⟩⟩
theorem badd_nil (nm : ByteArray) : badd nm [] = [⟨nm, 0, 0⟩] := by simp [badd, bhas, bix]
theorem bset_one (nm : ByteArray) (f : Nat) : bset nm f [⟨nm, 0, 0⟩] = [⟨nm, 3, f⟩] := by simp [bset]
theorem bix_one (nm : ByteArray) (k : Int) (f : Nat) : bix nm [⟨nm, k, f⟩] = some 0 := by simp [bix]
theorem chain_one (nv : Value) (l : List Bnd) : Chain [⟨-1, nv, l⟩] := by
  intro n r hr
  cases n with
  | zero =>
    have h : (⟨-1, nv, l⟩ : EnvR) = r := by simpa using hr
    subst h
    rfl
  | succ k => simp at hr
theorem sizes_one (o : Int) (nv : Value) (b : Bnd) : Sizes [⟨o, nv, [b]⟩] := by
  intro r hr
  have h : r = ⟨o, nv, [b]⟩ := by simpa using hr
  subst h
  show (1 : Nat) ≤ 1048575
  decide
theorem last_one (nm : ByteArray) (o : Int) (nv : Value) (k : Int) (f : Nat) : lastHas nm [⟨o, nv, [⟨nm, k, f⟩]⟩] 1 = ((0 : Nat) : Int) := by simp [lastHas, bhas, bix_one]
theorem eq_five (w : World) : (binOp .eql 37 (.agg #[.int .i64 0, .int .i64 3, .bool false, .float .f64 4617315517961601024, .string ⟨#[]⟩, .int .i64 0, .string ⟨#[]⟩]) (.agg #[.int .i64 0, .int .i64 3, .bool false, .float .f64 4617315517961601024, .string ⟨#[]⟩, .int .i64 0, .string ⟨#[]⟩])).run Tryz.prog w = .ok (.bool true) w := by kernel_rfl
set_option maxHeartbeats 4000000 in
set_option maxRecDepth 100000 in
theorem awake15 (w : World) : Calls Tryz.prog 34 #[] w fun e w' => e = .returned (.bool true) ∧ Below w.heap.size w w' := by
  have he := eq_five
  go_enter Tryz.func34, Tryz.ntmps34
  go_wp2_with (first
    | (go_at_call 7; refine (machine_New 10 10 0 0 w (by decide) (by decide) (by decide) (by decide) (by decide) (by decide) (by decide)).mono ?_; rintro e w1 ⟨m, h, kv, rfl, hM, hH, hown, hlh, hlm, hb⟩; have hlM := HasB.lt hM; have HM := Lib.hid (EvM.newest hM hH); have HK := Lib.hid (show KnAt w1 kv from owns_le hown (Nat.zero_le _)); have HB := Lib.hid hb; have hBw : w.heap.size ≤ w1.heap.size := hb.size; clear hM hH hown hb)
    | (go_at_call 36; refine (env_New (-1) w.heap.size w HB.out (by omega) (by omega) (by omega) hBw hlM (by omega) (Nat.le_refl _) (by decide) (by decide) (by decide) (by decide) HM.out).mono ?_; rintro e w2 ⟨v2, nv, rfl, hM2, hB2, hK2⟩; replace HM := Lib.hid hM2; replace HB := Lib.hid hB2; clear hM2 hB2 hK2)
    | ((with_reducible refine at_store 37 ?_); refine wpList_storeB (HasB.new _ _ _) done7 rfl rfl rfl rfl rfl (by kernel_rfl) (by kernel_rfl) ?_; intro V h1 hk hoff; have kk := hk _ _ (Nat.le_refl _) (Below.alloc (Below.refl _ _) (Nat.le_refl _) _); replace HM := Lib.hid (HM.out.below kk); replace HB := Lib.hid (below_via kk HB.out HB.out.size); clear h1 hk hoff kk)
    | (go_at_call 37; refine (env_Create 0 ⟨-1, nv, []⟩ ⟨#[]⟩ rfl (Nat.zero_le _) w.heap.size w HB.out (by omega) (by omega) (by omega) hBw (by decide) (by decide) (by decide) HM.out).mono ?_; rintro e w3 ⟨nv2, u2, rfl, hM2, hu2, hB2, hK2⟩; simp only [badd_nil] at hM2; replace HM := Lib.hid (show EvM _ _ _ _ _ _ [⟨-1, nv2, [⟨⟨#[]⟩, 0, 0⟩]⟩] _ _ from hM2); replace HB := Lib.hid hB2; clear hM2 hB2 hK2)
    | (go_at_call 38; refine (env_Set 0 ⟨-1, nv2, [⟨⟨#[]⟩, 0, 0⟩]⟩ ⟨#[]⟩ 4617315517961601024 rfl (show (1 : Nat) ≤ 1048575 by decide) 0 (bix_one _ _ _) w.heap.size w HB.out (by omega) hBw HM.out).mono ?_; rintro e w4 ⟨nv3, rfl, hM2, hB2, hK2⟩; simp only [bset_one] at hM2; replace HM := Lib.hid (show EvM _ _ _ _ _ _ [⟨-1, nv3, [⟨⟨#[]⟩, 3, 4617315517961601024⟩]⟩] _ _ from hM2); replace HB := Lib.hid hB2; clear hM2 hB2 hK2)
    | (go_at_call 39; refine (env_Lookup (E := [⟨-1, nv3, [⟨⟨#[]⟩, 3, 4617315517961601024⟩]⟩]) ⟨#[]⟩ 0 1 rfl (show (1 : Nat) ≤ 1 by decide) (chain_one _ _) (sizes_one _ _ _) 0 (last_one _ _ _ _ _) ⟨-1, nv3, [⟨⟨#[]⟩, 3, 4617315517961601024⟩]⟩ rfl 0 (bix_one _ _ _) ⟨⟨#[]⟩, 3, 4617315517961601024⟩ rfl w.heap.size w HB.out (by omega) HM.out).mono ?_; rintro e w5 ⟨rfl, hM2, hB2, hK2⟩; replace HB := Lib.hid hB2; clear hM2 hB2 hK2))
  go_ret
  exact ⟨rfl, HB.out⟩
end Go.Proofs.YtngodcoefmihlaaGreatDoor
