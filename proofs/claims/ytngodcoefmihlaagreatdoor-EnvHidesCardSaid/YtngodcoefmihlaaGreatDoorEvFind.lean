/-
  env.Find in a chain of environments, each behind the one around it. Conditions: the machine's cells are as said.
-/
import Derived.Test.YtngodcoefmihlaaGreatDoorEvPut
namespace Go.Proofs.YtngodcoefmihlaaGreatDoor
open Go.RowKit
variable {m h B : Nat} {cM used : Int} {v : Value} {kn : Value × Value} {E : List EnvR} {W W' w : World}

/-- The last of the first c that has the name; -1: none has. -/
def lastHas (nm : ByteArray) (E : List EnvR) : Nat → Int
  | 0 => -1
  | c + 1 => if bhas nm (E[c]!).l = true then (c : Int) else lastHas nm E c
/-- Each is behind the one around it. -/
def Chain (E : List EnvR) : Prop := ∀ (n : Nat) (r : EnvR), E[n]? = some r → r.outer = (n : Int) - 1
def Sizes (E : List EnvR) : Prop := ∀ r ∈ E, r.l.length ≤ 1048575
set_option maxHeartbeats 4000000 in
set_option maxRecDepth 100000 in
theorem env_Find (nm : ByteArray) (i0 : Int) (c0 : Nat) (hi0 : i0 + 1 = (c0 : Int)) (hc0 : c0 ≤ E.length) (hch : Chain E) (hsz : Sizes E) (H : EvM m h B cM v kn E used w) :
    Calls Tryz.prog 40 #[.pointer (some ⟨m, 0, none⟩), .int .i64 i0, .string nm] w fun e w' => e = .returned (.int .i64 (lastHas nm E c0)) ∧ Below w.heap.size w w' := by
  have HH := Lib.hid H
  have HC := Lib.hid hch
  have HS := Lib.hid hsz
  clear H hch hsz
  go_enter Tryz.func40, Tryz.ntmps40
  go_wp2_with fail
  go_loopw [1] (fun s1 wr => ∃ (i : Int) (c : Nat), s1 = .int .i64 i ∧ i + 1 = (c : Int) ∧ c ≤ E.length ∧ Aft (lastHas nm E c = lastHas nm E c0) ∧ Aft (Below w.heap.size w wr))
    (fun s1 _ => (intOf s1 + 1).toNat)
  case atStart => exact ⟨i0, c0, rfl, hi0, hc0, rfl, Below.refl _ w⟩
  case round =>
    obtain ⟨i, c, rfl, hi, hc, HR, BW⟩ := hrel
    rcases c with _ | n
    · obtain rfl : i = -1 := by omega
      clear hi0 hi hc
      go_wp2_with (first
        | (go_at_call 94; refine (Machine_Env_none (HH.out.below BW.out)).mono ?_; rintro e w' ⟨rfl, k⟩; have HB := Lib.hid (below_via k BW.out BW.out.size); clear k)
        | ((with_reducible refine at_store 138 ?_); refine wpList_storeB (HasB.new _ _ _) env0 rfl rfl rfl rfl rfl (by kernel_rfl) (by kernel_rfl) ?_; intro V h1 hk hoff; have kk := hk _ _ (Nat.le_refl _) (Below.alloc (Below.refl _ _) (Nat.le_refl _) _); replace HB := Lib.hid (below_via kk HB.out HB.out.size); clear h1 hk hoff kk))
      go_ret
      exact ⟨by rw [← HR.out]; rfl, HB.out⟩
    · obtain rfl : i = (n : Int) := by omega
      have hn : n < E.length := by omega
      have hr : E[n]? = some E[n] := List.getElem?_eq_getElem hn
      have hbang : E[n]! = E[n] := getElem!_pos E n hn
      have ho := HC.out n _ hr
      have hl := HS.out _ (List.getElem_mem hn)
      have HR2 := Lib.hid HR.out
      simp only [lastHas, hbang] at HR2
      generalize E[n] = r at hr ho hl HR2
      obtain ⟨o, nv, l⟩ := r
      have ho : o = (n : Int) - 1 := ho
      subst ho
      have hge : ¬ ((n : Int) ≤ (n : Int) - 1) := by omega
      have HR3 := Lib.hid HR2.out
      clear HR HR2 hbang hi0 hi hc
      cases hb : bhas nm l with
      | true =>
        have HR4 := Lib.hid (show (n : Int) = lastHas nm E c0 by have := HR3.out; rw [if_pos (by exact hb)] at this; exact this)
        go_wp2_with (first
          | (go_at_call 94; refine (Machine_Env n _ hr (Nat.le_succ_of_le hl) (HH.out.below BW.out)).mono ?_; rintro e w' ⟨v', rfl, hN', k⟩; obtain ⟨a2, c2, rfl⟩ := names_shape hN'.at; have HB := Lib.hid (below_via k BW.out BW.out.size); have HN := Lib.hid hN'.at; clear k hN')
          | ((with_reducible refine at_store 138 ?_); refine wpList_storeB (HasB.new _ _ _) (env3 ((n : Int) - 1) (.slice a2 l.length c2)) rfl rfl rfl rfl rfl (by kernel_rfl) (by kernel_rfl) ?_; intro V h1 hk hoff; have kk := hk _ _ (Nat.le_refl _) (Below.alloc (Below.refl _ _) (Nat.le_refl _) _); replace HB := Lib.hid (below_via kk HB.out HB.out.size); replace HN := Lib.hid (owns_below HN.out kk); have H11 := Lib.hid h1; clear h1 hk hoff kk)
          | ((with_reducible refine at_load 138 ?_); refine wpList_loadB H11.out _ rfl rfl rfl rfl rfl (by kernel_rfl) ?_)
          | (go_at_call 95; refine (env_has _ ((n : Int) - 1) (.slice a2 l.length c2) l nm _ (Nat.le_succ_of_le hl) HN.out).mono ?_; rw [hb]; rintro e w' ⟨rfl, k⟩; replace HB := Lib.hid (below_via k HB.out HB.out.size); clear k))
        go_ret
        exact ⟨by rw [← HR4.out]; rfl, HB.out⟩
      | false =>
        have HR4 := Lib.hid (show lastHas nm E n = lastHas nm E c0 by have := HR3.out; rw [if_neg (by simpa using hb)] at this; exact this)
        go_wp2_with (first
          | (go_at_call 94; refine (Machine_Env n _ hr (Nat.le_succ_of_le hl) (HH.out.below BW.out)).mono ?_; rintro e w' ⟨v', rfl, hN', k⟩; obtain ⟨a2, c2, rfl⟩ := names_shape hN'.at; have HB := Lib.hid (below_via k BW.out BW.out.size); have HN := Lib.hid hN'.at; clear k hN')
          | ((with_reducible refine at_store 138 ?_); refine wpList_storeB (HasB.new _ _ _) (env3 ((n : Int) - 1) (.slice a2 l.length c2)) rfl rfl rfl rfl rfl (by kernel_rfl) (by kernel_rfl) ?_; intro V h1 hk hoff; have kk := hk _ _ (Nat.le_refl _) (Below.alloc (Below.refl _ _) (Nat.le_refl _) _); replace HB := Lib.hid (below_via kk HB.out HB.out.size); replace HN := Lib.hid (owns_below HN.out kk); have H11 := Lib.hid h1; clear h1 hk hoff kk)
          | ((with_reducible refine at_load 138 ?_); refine wpList_loadB H11.out _ rfl rfl rfl rfl rfl (by kernel_rfl) ?_)
          | (go_at_call 95; refine (env_has _ ((n : Int) - 1) (.slice a2 l.length c2) l nm _ (Nat.le_succ_of_le hl) HN.out).mono ?_; rw [hb]; rintro e w' ⟨rfl, k⟩; replace HB := Lib.hid (below_via k HB.out HB.out.size); have H12 := H11.out.below k; have e0 := H12.cell 0; clear k H12 H11))
        go_roundw
        case measure => simp [intOf]
        case rel => exact ⟨(n : Int) - 1, n, rfl, by omega, by omega, HR4.out, HB.out⟩
end Go.Proofs.YtngodcoefmihlaaGreatDoor
