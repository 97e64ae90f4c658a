/-
  The walk of quilllaw15.EnvHides: it answers true. Conditions: the lists and texts handed in lie in memory as Go lays them.
-/
import Derived.Test.YtngodcoefmihlaaGreatDoorEvEq
namespace Go.Proofs.YtngodcoefmihlaaGreatDoor
open Go.RowKit

def evenB (s : ByteArray) : ByteArray := s.extract 0 (s.size / 2 * 2)
theorem law14_TextE (s : ByteArray) (w : World) (hs : s.size ≤ maxLen) : Calls Tryz.prog 35 #[.string s] w fun e w' => e = .returned (.string (evenB s)) ∧ w = w' := law14_Text s w hs
theorem run_field_kind (w : World) : (Instr.field 37 (.agg #[.int .i64 0, .int .i64 0, .bool false, .float .f64 0, .string ⟨#[]⟩, .int .i64 0, .string ⟨#[]⟩]) 0).run Tryz.prog w = .ok (.int .i64 0) w := by kernel_rfl
/-- What was handed in. -/
structure Handed (b o n : Nat) (A : Nat → Option Addr) (L C : Nat → Nat) (S : Nat → Nat → ByteArray) (W : World) : Prop where
  outer : ∀ i, i < n → W.cell? ⟨b, o + i, none⟩ = some (.slice (A i) (L i) (C i))
  inner : ∀ i, i < n → ∀ j, j < L i → ∃ g q, A i = some ⟨g, q, none⟩ ∧ W.cell? ⟨g, q + j, none⟩ = some (.string (S i j)) ∧ (S i j).size ≤ maxLen
theorem Handed.below {b o n : Nat} {A : Nat → Option Addr} {L C : Nat → Nat} {S : Nat → Nat → ByteArray} {W W' : World} (x : Handed b o n A L C S W) (k : Below W.heap.size W W') : Handed b o n A L C S W' :=
  ⟨fun i hi => below_keep k (x.outer i hi), fun i hi j hj => let ⟨g, q, h1, h2, h3⟩ := x.inner i hi j hj; ⟨g, q, h1, below_keep k h2, h3⟩⟩
theorem law15_long (a : Option Addr) (n cap : Nat) (ask : ByteArray) (w : World) (hn : 1000 < n) :
    Calls Tryz.prog 6 #[.slice a n cap, .string ask] w fun e w' => e = .returned (.bool true) ∧ Below w.heap.size w w' := by
  go_enter Tryz.func6, Tryz.ntmps6
  have h1 : (1000 : Int) < (n : Int) := by omega
  go_wp2_with (first
    | (go_at_call 7; refine (machine_New 10 1048576 0 0 w (by decide) (by decide) (by decide) (by decide) (by decide) (by decide) (by decide)).mono ?_; rintro e w1 ⟨m, h, kv, rfl, hM, hH, hown, hlh, hlm, hb⟩; have HB := Lib.hid hb; clear hM hH hown hb)
    | (go_at_call 34; refine (awake15 _).mono ?_; rintro e w2 ⟨rfl, k⟩; replace HB := Lib.hid (below_via k HB.out HB.out.size); clear k))
  go_ret
  exact ⟨rfl, HB.out⟩
attribute [local go_sem] run_field_kind
set_option maxHeartbeats 8000000 in
set_option maxRecDepth 100000 in
theorem law15 (a : Option Addr) (b o n cap : Nat) (hA : 0 < n → a = some ⟨b, o, none⟩) (A : Nat → Option Addr) (L C : Nat → Nat) (S : Nat → Nat → ByteArray) (ask0 : ByteArray) (w : World) (hn : n ≤ 1000) (ha : ask0.size ≤ maxLen) (hX : Handed b o n A L C S w) :
    Calls Tryz.prog 6 #[.slice a n cap, .string ask0] w fun e w' => e = .returned (.bool true) ∧ Below w.heap.size w w' := by
  have HX := Lib.hid hX
  have hT := fun W => law14_TextE ask0 W ha
  generalize evenB ask0 = ask at hT
  have HT := Lib.hid hT
  clear hX hT ha
  have h1 : ¬ (1000 : Int) < (n : Int) := by omega
  go_enter Tryz.func6, Tryz.ntmps6
  go_wp2_with (first
    | (go_at_call 7; refine (machine_New 10 1048576 0 0 w (by decide) (by decide) (by decide) (by decide) (by decide) (by decide) (by decide)).mono ?_; rintro e w1 ⟨m, h, kv, rfl, hM, hH, hown, hlh, hlm, hb⟩; have hlM := HasB.lt hM; have HM := Lib.hid (EvM.newest hM hH); have HK := Lib.hid (show KnAt w1 kv from owns_le hown (Nat.zero_le _)); have HB := Lib.hid hb; have hBw : w.heap.size ≤ w1.heap.size := hb.size; clear hM hH hown hb)
    | (go_at_call 35; refine (HT.out _).mono ?_; rintro e w2 ⟨rfl, rfl⟩))
  clear HT
  go_loopw [7, 8, 9, 10] (fun s7 s8 s9 s10 wr => ∃ (k : Nat) (v : Value) (E : List EnvR) (used : Int) (want : Nat) (sm : Bool), s10 = .int .i64 k ∧ s7 = .int .i64 ((k : Int) - 1) ∧ s8 = .float .f64 want ∧ s9 = .bool sm ∧ k ≤ n ∧ Aft (Hides w m h w1.heap.size (kv, .slice none 0 0) ask k 100 (101 * k) want sm v E used wr))
    (fun _ _ _ s10 _ => n - (intOf s10).toNat)
  case atStart => exact ⟨0, _, [], 0, 0, false, rfl, rfl, rfl, rfl, Nat.zero_le _, ⟨HM.out, HK.out, HB.out, Nat.le_refl _, rfl, (fun n r hr => by simp at hr), (fun n r hr => by simp at hr), (fun r hr => by cases hr), Int.le_refl _, by decide, rfl, (fun f hf => by simp [look] at hf)⟩⟩
  case round =>
    obtain ⟨k, v, E, used, want, sm, rfl, rfl, rfl, rfl, hk, HS⟩ := hrel
    clear HM HK HB
    by_cases hlt : k < n
    · obtain rfl := hA (by omega)
      have hki : (k : Int) < (n : Int) := by omega
      have hel := HS.out.len
      have hu0 := HS.out.u0
      have hu1 := HS.out.u1
      go_wp2_with (first
        | (go_at_call 36; refine (env_New ((k : Int) - 1) w.heap.size w HS.out.bel (by omega) (by omega) (by omega) hBw hlM (by omega) HS.out.big (by omega) hu0 (by omega) (by decide) HS.out.mach).mono ?_; rw [hel]; rintro e w2 ⟨v2, nv, rfl, hM2, hB2, hK2⟩; have HS2 := Lib.hid (HS.out.next hM2 hB2 hK2); clear hM2 hB2 hK2 HS hel hu0 hu1)
        | ((with_reducible refine at_store 37 ?_); refine wpList_storeB (HasB.new _ _ _) done7 rfl rfl rfl rfl rfl (by kernel_rfl) (by kernel_rfl) ?_; intro V h1 hk1 hoff; have kk := hk1 _ _ (Nat.le_refl _) (Below.alloc (Below.refl _ _) (Nat.le_refl _) _); replace HS2 := Lib.hid (HS2.out.go kk); have c0 := h1.cell 0; clear h1 hk1 hoff kk))
      clear c0
      go_loopw [8, 9, 13] (fun s8 s9 s13 wr => ∃ (j : Nat) (v : Value) (E : List EnvR) (used : Int) (want : Nat) (sm : Bool), s13 = .int .i64 j ∧ s8 = .float .f64 want ∧ s9 = .bool sm ∧ j ≤ 100 ∧ j ≤ L k ∧ Aft (Hides w m h w1.heap.size (kv, .slice none 0 0) ask (k + 1) j (101 * k + 1 + j) want sm v E used wr))
        (fun _ _ s13 _ => 100 - (intOf s13).toNat)
      case atStart => exact ⟨0, _, _, _, want, sm, rfl, rfl, rfl, Nat.zero_le _, Nat.zero_le _, (by have h := HS2.out; rw [show (101 * (k : Int) + 1 + ((0 : Nat) : Int)) = 101 * (k : Int) + 1 by omega]; exact h)⟩
      case round =>
        obtain ⟨j, v3, E3, used3, want3, sm3, rfl, rfl, rfl, hj, hjL, HS⟩ := hrel
        clear HS2
        have hX := HX.out.below HS.out.bel
        have q0 := hX.outer k hlt
        by_cases hin : j < L k ∧ j < 100
        · obtain ⟨h1j, h2j⟩ := hin
          obtain ⟨g, q, eA, qs, hs⟩ := hX.inner k hlt j h1j
          rw [eA] at q0
          have hTs := fun W => law14_TextE (S k j) W hs
          generalize evenB (S k j) = nm at hTs
          have HTs := Lib.hid hTs
          clear hX eA hs hTs
          have h1i : (j : Int) < (L k : Int) := by omega
          have h2i : (j : Int) < 100 := by omega
          have hek : E3[k]? = some E3[k]! := by
            have hl3 := HS.out.len
            rw [List.getElem?_eq_getElem (by omega), getElem!_pos E3 k (by omega)]
          have hkE : k < E3.length := by have hl3 := HS.out.len; omega
          have h2j' : j < 100 := h2j
          have hsz := (HS.out.siz k _ hek).1
          have hch := HS.out.chain k _ hek
          have hu0 := HS.out.u0
          have hu1 := HS.out.u1
          generalize hr : E3[k]! = r at hek hsz hch
          clear hr
          obtain ⟨jj, hjj⟩ := Option.isSome_iff_exists.1 (badd_has nm r.l)
          have HJ := Lib.hid hjj
          have hbl := badd_len nm r.l
          clear hjj
          cases hq : (nm.toList == ask.toList) with
          | true =>
            go_wp2_with (first
              | (go_at_call 35; refine (HTs.out _).mono ?_; rintro e w3 ⟨rfl, rfl⟩)
              | ((with_reducible refine at_store 35 ?_); refine wpList_storeB (HasB.new _ _ _) (num5 _) rfl rfl rfl rfl rfl (by kernel_rfl) (by kernel_rfl) ?_; intro V h1 hk1 hoff; have kk := hk1 _ _ (Nat.le_refl _) (Below.alloc (Below.refl _ _) (Nat.le_refl _) _); replace HS := Lib.hid (HS.out.go kk); have HV := Lib.hid h1; clear h1 hk1 hoff kk)
              | (go_at_call 37; go_loud (refine (env_Create k r nm hek (by omega) w.heap.size w HS.out.bel (by omega) (by omega) (by omega) hBw hu0 (by omega) (by decide) HS.out.mach).mono ?_; rintro e w4 ⟨nv2, u2, rfl, hM2, hu2, hB2, hK2⟩; have HM2 := Lib.hid hM2; have HB2 := Lib.hid hB2; have HK2 := Lib.hid hK2; have hV4 := hK2.2 _ _ _ HV.out (by decide) (by decide) (by decide); obtain ⟨z0, z1, z2, z3, z4, zf⟩ := hV4.five; have HV4 := Lib.hid hV4; clear hM2 hB2 hK2 hV4 HV))
              | (go_at_call 38; go_loud (refine (env_Set k ⟨r.outer, nv2, badd nm r.l⟩ nm _ (List.getElem?_set_self hkE) (show (badd nm r.l).length ≤ 1048575 by omega) jj HJ.out w.heap.size w HB2.out (by omega) hBw HM2.out).mono ?_; rintro e w5 ⟨nv3, rfl, hM3, hB3, hK3⟩; simp only [List.set_set] at hM3; have HS3 := Lib.hid (HS.out.put h2j' rfl hek nm _ (nearest_order _) hu2 hM3 hB3 (HK2.out.trans hK3)); have hV5 := hK3.2 _ _ _ HV4.out (by decide) (by decide) (by decide); have y2 := hV5.cell 2; clear z0 z1 z2 z3 z4 zf hM3 hB3 hK3 hV5 HM2 HB2 HK2 HV4)))
            have hS3 := HS3.out
            simp only [hq, if_true, Bool.true_or] at hS3
            have HS4 := Lib.hid hS3
            clear hS3 HS3 y2
            go_roundw
            case measure => simp [intOf]; omega
            case rel => exact ⟨j + 1, _, _, _, _, _, by go_num, rfl, rfl, by omega, by omega, (by have h := HS4.out; rw [show 101 * (k : Int) + 1 + ((j + 1 : Nat) : Int) = 101 * (k : Int) + 1 + (j : Int) + 1 by omega]; exact h)⟩
          | false =>
            go_wp2_with (first
              | (go_at_call 35; refine (HTs.out _).mono ?_; rintro e w3 ⟨rfl, rfl⟩)
              | ((with_reducible refine at_store 35 ?_); refine wpList_storeB (HasB.new _ _ _) (num5 _) rfl rfl rfl rfl rfl (by kernel_rfl) (by kernel_rfl) ?_; intro V h1 hk1 hoff; have kk := hk1 _ _ (Nat.le_refl _) (Below.alloc (Below.refl _ _) (Nat.le_refl _) _); replace HS := Lib.hid (HS.out.go kk); have HV := Lib.hid h1; clear h1 hk1 hoff kk)
              | (go_at_call 37; go_loud (refine (env_Create k r nm hek (by omega) w.heap.size w HS.out.bel (by omega) (by omega) (by omega) hBw hu0 (by omega) (by decide) HS.out.mach).mono ?_; rintro e w4 ⟨nv2, u2, rfl, hM2, hu2, hB2, hK2⟩; have HM2 := Lib.hid hM2; have HB2 := Lib.hid hB2; have HK2 := Lib.hid hK2; have hV4 := hK2.2 _ _ _ HV.out (by decide) (by decide) (by decide); obtain ⟨z0, z1, z2, z3, z4, zf⟩ := hV4.five; have HV4 := Lib.hid hV4; clear hM2 hB2 hK2 hV4 HV))
              | (go_at_call 38; go_loud (refine (env_Set k ⟨r.outer, nv2, badd nm r.l⟩ nm _ (List.getElem?_set_self hkE) (show (badd nm r.l).length ≤ 1048575 by omega) jj HJ.out w.heap.size w HB2.out (by omega) hBw HM2.out).mono ?_; rintro e w5 ⟨nv3, rfl, hM3, hB3, hK3⟩; simp only [List.set_set] at hM3; have HS3 := Lib.hid (HS.out.put h2j' rfl hek nm _ (nearest_order _) hu2 hM3 hB3 (HK2.out.trans hK3)); have hV5 := hK3.2 _ _ _ HV4.out (by decide) (by decide) (by decide); have y2 := hV5.cell 2; clear z0 z1 z2 z3 z4 zf hM3 hB3 hK3 hV5 HM2 HB2 HK2 HV4)))
            have hS3 := HS3.out
            simp only [hq, Bool.false_eq_true, if_false, Bool.false_or] at hS3
            have HS4 := Lib.hid hS3
            clear hS3 HS3 y2
            go_roundw
            case measure => simp [intOf]; omega
            case rel => exact ⟨j + 1, _, _, _, _, _, by go_num, rfl, rfl, by omega, by omega, (by have h := HS4.out; rw [show 101 * (k : Int) + 1 + ((j + 1 : Nat) : Int) = 101 * (k : Int) + 1 + (j : Int) + 1 by omega]; exact h)⟩
        · have hW := HS.out.wide (j' := 100) (U' := 101 * ((k + 1 : Nat) : Int)) hj (by omega)
          have HW := Lib.hid hW
          clear hW hX HS
          by_cases h1j : j < L k
          · have h1i : (j : Int) < (L k : Int) := by omega
            have h2i : ¬ (j : Int) < 100 := by omega
            clear hin
            go_wp2
            go_roundw
            case measure => simp [intOf]; omega
            case rel => exact ⟨k + 1, _, _, _, _, _, by go_num, by rw [show (((k + 1 : Nat) : Int) - 1) = (k : Int) by omega], rfl, rfl, by omega, HW.out⟩
          · have h1i : ¬ (j : Int) < (L k : Int) := by omega
            clear hin
            go_wp2
            go_roundw
            case measure => simp [intOf]; omega
            case rel => exact ⟨k + 1, _, _, _, _, _, by go_num, by rw [show (((k + 1 : Nat) : Int) - 1) = (k : Int) by omega], rfl, rfl, by omega, HW.out⟩
    · have hke : k = n := by omega
      subst hke
      have hml := last_look ask E k (by rw [HS.out.len]; exact Nat.le_refl _)
      rw [List.take_of_length_le (by rw [HS.out.len]; exact Nat.le_refl _)] at hml
      have hu0 := HS.out.u0
      have hu1 := HS.out.u1
      have hsm := HS.out.som
      rcases hml with ⟨hl, hk0⟩ | ⟨nn, r, jj, bb, hl, hr, hjj, hbb, hk0⟩
      · rw [hk0] at hsm
        replace hsm : sm = false := hsm
        subst hsm
        have HLa := Lib.hid hl
        clear hl hk0
        go_wp2_with (first
          | (go_at_call 10; refine (Machine_Over HS.out.mach.1).mono ?_; rintro e w3 ⟨rfl, rfl⟩)
          | (go_at_call 39; go_loud (refine (env_Lookup_none ask ((k : Int) - 1) k (by omega) (by rw [HS.out.len]; exact Nat.le_refl _) HS.out.chain HS.out.sizes HLa.out w.heap.size w HS.out.bel (by omega) (by omega) (by omega) hu0 (by omega) (by decide) rfl HS.out.known HS.out.mach).mono ?_; rintro e w4 ⟨l2, rfl, hM2, hB2, hK2⟩; have HM2 := Lib.hid hM2; have HB2 := Lib.hid hB2; clear hM2 hB2 hK2))
          | ((with_reducible refine at_store 37 ?_); refine wpList_storeB (HasB.new _ _ _) throw7 rfl rfl rfl rfl rfl (by kernel_rfl) (by kernel_rfl) ?_; intro V h1 hk1 hoff; have kk := hk1 _ _ (Nat.le_refl _) (Below.alloc (Below.refl _ _) (Nat.le_refl _) _); replace HM2 := Lib.hid (HM2.out.below kk); replace HB2 := Lib.hid (below_via kk HB2.out HB2.out.size); have c0 := h1.cell 0; clear h1 hk1 hoff kk)
          | (go_at_call 40; go_loud (refine (env_Find ask ((k : Int) - 1) k (by omega) (by rw [HS.out.len]; exact Nat.le_refl _) HS.out.chain HS.out.sizes HM2.out).mono ?_; rw [HLa.out]; rintro e w5 ⟨rfl, kk⟩; replace HB2 := Lib.hid (below_via kk HB2.out HB2.out.size); clear kk))
          | (go_at_call 34; refine (awake15 _).mono ?_; rintro e w6 ⟨rfl, kk⟩; replace HB2 := Lib.hid (below_via kk HB2.out HB2.out.size); clear kk))
        go_ret
        exact ⟨rfl, HB2.out⟩
      · rw [hk0] at hsm
        replace hsm : sm = true := hsm
        subst hsm
        obtain ⟨hw, hor⟩ := HS.out.tel _ hk0
        have hb3 := HS.out.k3 r (List.mem_of_getElem? hr) bb (List.mem_of_getElem? hbb)
        obtain ⟨bn, bk, bf⟩ := bb
        replace hb3 : bk = 3 := hb3
        replace hw : want = bf := hw
        subst hb3 hw
        have heq := eq_number want hor
        have HLa := Lib.hid hl
        have HR := Lib.hid hr
        have HJ := Lib.hid hjj
        have HBb := Lib.hid hbb
        clear hl hk0 hr hjj hbb hor
        go_wp2_with (first
          | (go_at_call 10; refine (Machine_Over HS.out.mach.1).mono ?_; rintro e w3 ⟨rfl, rfl⟩)
          | (go_at_call 39; go_loud (refine (env_Lookup ask ((k : Int) - 1) k (by omega) (by rw [HS.out.len]; exact Nat.le_refl _) HS.out.chain HS.out.sizes nn HLa.out r HR.out jj HJ.out ⟨bn, 3, want⟩ HBb.out w.heap.size w HS.out.bel (by omega) HS.out.mach).mono ?_; rintro e w4 ⟨rfl, hM2, hB2, hK2⟩; have HB2 := Lib.hid hB2; clear hM2 hB2 hK2))
          | ((with_reducible refine at_store 37 ?_); refine wpList_storeB (HasB.new _ _ _) (bnum7 ⟨bn, 3, want⟩) rfl rfl rfl rfl rfl (by kernel_rfl) (by kernel_rfl) ?_; intro V h1 hk1 hoff; have kk := hk1 _ _ (Nat.le_refl _) (Below.alloc (Below.refl _ _) (Nat.le_refl _) _); replace HB2 := Lib.hid (below_via kk HB2.out HB2.out.size); have HD := Lib.hid h1; clear h1 hk1 hoff kk)
          | ((with_reducible refine at_load 37 ?_); refine wpList_loadB HD.out _ rfl rfl rfl rfl rfl (by kernel_rfl) ?_)
          | (go_at_call 34; refine (awake15 _).mono ?_; rintro e w6 ⟨rfl, kk⟩; replace HB2 := Lib.hid (below_via kk HB2.out HB2.out.size); clear kk))
        go_ret
        exact ⟨rfl, HB2.out⟩
end Go.Proofs.YtngodcoefmihlaaGreatDoor
