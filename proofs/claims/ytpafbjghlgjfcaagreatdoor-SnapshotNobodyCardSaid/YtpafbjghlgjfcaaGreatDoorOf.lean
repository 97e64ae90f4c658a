/-
  Contract of snapshot.Of, of one plain object. Conditions: the machine and its heap are as said; the roots are the object.
-/
import Derived.Test.YtpafbjghlgjfcaaGreatDoorString
namespace Go.Proofs.YtpafbjghlgjfcaaGreatDoor
open Go.RowKit

theorem info_string : (Tryz.prog.info? 9).map (fun i => (i.zero, i.size, i.bytes)) = some (some (.string ⟨#[]⟩), 1, 16) := by kernel_rfl
theorem HasB.newAt {w : World} {cs : Array Value} {t : TypeId} {n : Nat} (hn : n = w.heap.size) : HasB (w.alloc (.cells cs t)) n cs t := by
  subst hn
  exact HasB.new w cs t

theorem Rest.grown1 {S : Nat → Prop} {w w' : World} {o : Obj} {r : Option Nat} (hg : (w.alloc o).grownBy w' r) (hS : ∀ k, r = some k → S k) : Rest S w w' :=
  ⟨hg.os, hg.tape, hg.output, by have := hg.size; simp at this; omega, fun k hk hn => (hg.block k (by simp; omega) (fun hh => hn (hS k hh.symm))).trans (Below.heap_alloc w o k hk)⟩
theorem OneThing.keep {S : Nat → Prop} {w w' : World} {g : Nat} {n : Int} (h : OneThing w g n) (r : Rest S w w') (hn : ¬ S g) : OneThing w' g n :=
  ⟨⟨Rest.cell r h.1.1 hn, Rest.cell r h.1.2 hn⟩, Nat.lt_of_lt_of_le h.2 r.size⟩
theorem OneThing.butB {T B : Nat} {w w' : World} {g : Nat} {n : Int} (h : OneThing w g n) (r : ButB T B w w') (hB : g < B) (hn : g ≠ T) : OneThing w' g n :=
  ⟨⟨(World.cell?_of_block (r.block g hB hn)).trans h.1.1, (World.cell?_of_block (r.block g hB hn)).trans h.1.2⟩, Nat.lt_of_lt_of_le h.2 r.size⟩
theorem ownsRow_but {w w' : World} {base e size n T : Nat} {v : Value} {xs : List Value} (h : w.ownsRow base e size v n xs) (k : But T w w') (hT : T < base) : w'.ownsRow base e size v n xs := by
  obtain ⟨h1, h2⟩ := h
  refine ⟨h1, ?_⟩
  rcases h2 with h2 | ⟨g, cap, cur, e1, e2, e3, e4⟩
  · exact .inl h2
  · exact .inr ⟨g, cap, cur, e1, e2, (k.block g ((Array.getElem?_eq_some_iff.1 e3).1) (by omega)).trans e3, e4⟩
theorem ownsRow_elsewhere {w : World} {base e size n : Nat} {v : Value} {xs : List Value} (h : w.ownsRow base e size v n xs) {a : Addr} (ha : v.ownBlock ≠ some a.block) (u : Value) : (w.setCell a u).ownsRow base e size v n xs := by
  obtain ⟨h1, h2⟩ := h
  refine ⟨h1, ?_⟩
  rcases h2 with h2 | ⟨g, cap, cur, e1, e2, e3, e4⟩
  · exact .inl h2
  · refine .inr ⟨g, cap, cur, e1, e2, (Below.heap_setCell w a u g ?_).trans e3, e4⟩
    rintro rfl
    apply ha
    rw [e1]
    rfl
theorem ownsRow_words {w : World} {base : Nat} {e : TypeId} {v : Value} {a b : ByteArray} (h : w.ownsRow base e 1 v 2 [.string a, .string b]) : ∃ g c, v = .slice (some ⟨g, 0, none⟩) 2 c ∧ WordsAt w g 0 [a, b] ∧ 2 ≤ c := by
  rcases h.2 with ⟨-, h0⟩ | ⟨g, c, cur, rfl, hg, hh, hn, hm, hs, ht⟩
  · cases h0
  · refine ⟨g, c, rfl, ⟨(Array.getElem?_eq_some_iff.1 hh).1, fun j x hx => ?_⟩, hn⟩
    have hj : j < 2 := by
      have := (List.getElem?_eq_some_iff.1 hx).1
      simpa using this
    rw [Nat.zero_add, h.cellAt j (by omega)]
    match j, hj with
    | 0, _ => simp at hx; simp [hx]
    | 1, _ => simp at hx; simp [hx]

set_option maxRecDepth 200000 in
theorem snapshot_Of_one {m : Nat} {f c ch d left : Int} {over : Bool} {h : Nat} {envs codes natives body known draws : Value} {drawn calls : Int} {B' : Nat} {room used : Int} (rb : Nat) (w : World)
    (M : MachAt w m f c ch d left over h envs codes natives body known draws drawn calls) (hO : OneObj w h B' 1 0 room used) (hr : HasB w rb #[.int .i64 5, .bool false, .float .f64 0, .string ⟨#[]⟩, .int .i64 0] 56) :
    Calls Tryz.prog 4 #[.pointer (some ⟨m, 0, none⟩), .slice (some ⟨rb, 0, none⟩) 1 1] w fun e w' => e = .returned (.string ⟨(joined [⟨#[114, 111, 111, 116, 115]⟩, ⟨#[35, 48]⟩] ++ joined [⟨#[10]⟩] ++ told).toArray⟩) ∧ Below w.heap.size w w' := by
  have hmm := @run_makeMap Tryz.prog
  have HM := Machine_Heap M
  go_enter Tryz.func4, Tryz.ntmps4
  go_wp2_with (go_at_call 7; refine HM.mono ?_; rintro e w' ⟨rfl, rfl⟩)
  have hb0 : Below w.heap.size w (((w.alloc (.map #[] 0)).alloc (.cells #[.pointer (some ⟨m, 0, none⟩), .pointer none, .slice none 0 0, .map (some w.heap.size), .int .i64 0, .int .i64 0, .slice none 0 0, .int .i64 0] 52)).alloc (.cells #[.string ⟨#[114, 111, 111, 116, 115]⟩] 9)) := (((Below.refl _ w).alloc (Nat.le_refl _) _).alloc (by simp) _).alloc (by simp; omega) _
  have hn0 : (((w.alloc (.map #[] 0)).alloc (.cells #[.pointer (some ⟨m, 0, none⟩), .pointer none, .slice none 0 0, .map (some w.heap.size), .int .i64 0, .int .i64 0, .slice none 0 0, .int .i64 0] 52)).alloc (.cells #[.string ⟨#[114, 111, 111, 116, 115]⟩] 9)).heap[w.heap.size]? = some (.map #[] 0) := ((Below.heap_alloc _ _ _ (by simp; omega)).trans (Below.heap_alloc _ _ _ (by simp))).trans (heap_alloc_new w _)
  have hT0 : TellAt (((w.alloc (.map #[] 0)).alloc (.cells #[.pointer (some ⟨m, 0, none⟩), .pointer none, .slice none 0 0, .map (some w.heap.size), .int .i64 0, .int .i64 0, .slice none 0 0, .int .i64 0] 52)).alloc (.cells #[.string ⟨#[114, 111, 111, 116, 115]⟩] 9)) (w.heap.size + 1) m (.pointer none) (.slice none 0 0) w.heap.size 0 (.slice none 0 0) 0 := HasB.alloc (HasB.newAt (by simp)) _
  have hL0 : HasB (((w.alloc (.map #[] 0)).alloc (.cells #[.pointer (some ⟨m, 0, none⟩), .pointer none, .slice none 0 0, .map (some w.heap.size), .int .i64 0, .int .i64 0, .slice none 0 0, .int .i64 0] 52)).alloc (.cells #[.string ⟨#[114, 111, 111, 116, 115]⟩] 9)) (w.heap.size + 1 + 1) #[.string ⟨#[114, 111, 111, 116, 115]⟩] 9 := HasB.newAt (by simp)
  have hls : w.heap.size + 1 + 1 < (((w.alloc (.map #[] 0)).alloc (.cells #[.pointer (some ⟨m, 0, none⟩), .pointer none, .slice none 0 0, .map (some w.heap.size), .int .i64 0, .int .i64 0, .slice none 0 0, .int .i64 0] 52)).alloc (.cells #[.string ⟨#[114, 111, 111, 116, 115]⟩] 9)).heap.size := by simp
  revert hb0 hn0 hT0 hL0 hls
  generalize (((w.alloc (.map #[] 0)).alloc (.cells #[.pointer (some ⟨m, 0, none⟩), .pointer none, .slice none 0 0, .map (some w.heap.size), .int .i64 0, .int .i64 0, .slice none 0 0, .int .i64 0] 52)).alloc (.cells #[.string ⟨#[114, 111, 111, 116, 115]⟩] 9)) = w0
  intro hb0 hn0 hT0 hL0 hls
  have hr0 := HasB.below hr hb0
  have hM0 : MachAt w0 m f c ch d left over h envs codes natives body known draws drawn calls := HasB.below M hb0
  have hO0 := OneObj.below hO hb0
  have hlr := HasB.lt hr
  have hlm := HasB.lt M
  obtain ⟨q0, q1, q2, q3, q4, qf⟩ := hr0.five
  refine wp_loop_rounds 2 ?_
  rw [rounds_succ]
  go_wp2_with fail
  obtain ⟨g0, cp0, x0, bb1, bb2, mp, hg0, hx0, hHp, hcl, hob⟩ := hO0
  have hmT : m ≠ w.heap.size + 1 := by omega
  have hmN : m ≠ w.heap.size := by omega
  refine (teller_value (w.heap.size + 1) m (.pointer none) (.slice none 0 0) w.heap.size (some ⟨g0, 0, none⟩) 1 cp0 room used (w0.alloc (.cells #[.int .i64 5, .bool false, .float .f64 0, .string ⟨#[]⟩, .int .i64 0] 56)) (HasB.alloc hT0 _) (HasB.alloc hM0 _) (HasB.alloc hHp _) (by decide) ((Below.heap_alloc w0 _ _ (by omega)).trans hn0)).mono ?_
  rintro e w1 ⟨rfl, g, cc, hg, hT1, hTh1, hn1, hR1⟩
  have hs1 := hR1.size
  have hs2 : w0.heap.size + 1 ≤ w1.heap.size := by simpa using hs1
  have hL1 : HasB w1 (w.heap.size + 1 + 1) #[.string ⟨#[114, 111, 111, 116, 115]⟩] 9 := Rest.hasB hR1 (HasB.alloc hL0 _) (by rintro (h | h) <;> omega)
  have hown : w1.ownsRow (w.heap.size + 1 + 1) 9 1 (.slice (some ⟨w.heap.size + 1 + 1, 0, none⟩) 1 1) 1 [.string ⟨#[114, 111, 111, 116, 115]⟩] := ⟨rfl, .inr ⟨_, 1, #[.string ⟨#[114, 111, 111, 116, 115]⟩], rfl, Nat.le_refl _, hL1, by decide, by decide, rfl, rfl⟩⟩
  have hRw : Rest (fun k => k = w.heap.size + 1 ∨ k = w.heap.size) w0 w1 := Rest.trans (Rest.of ((Below.refl w0.heap.size w0).alloc (Nat.le_refl _) (.cells #[.int .i64 5, .bool false, .float .f64 0, .string ⟨#[]⟩, .int .i64 0] 56))) hR1
  obtain ⟨i0, hi, hz0, hz1, hz2⟩ := info_parts info_string
  clear hR1 hL0 hT0 hn0 q0 q1 q2 q3 q4 qf
  go_wp2_with (at_builtin; go_must (refine wpList_append_own _ rfl _ _ 53 rfl (w.heap.size + 1 + 1) 9 i0 (.string ⟨#[]⟩) 1 16 Tryz.underlying53 hi hz0 hz1 hz2 rfl (by decide) _ 1 _ rfl (hown.alloc _) ⟨w1.heap.size, 0, none⟩ 1 1 [.string ⟨#[35, 48]⟩] rfl rfl (World.news_of_block (cs := #[.string ⟨#[35, 48]⟩]) (t := 9) (fr := (0, 0)) (heap_alloc_new w1 _)) (by simp [Value.oneCell']) (by decide) (by decide) (by simp; omega) ?_))
  intro v1 w2 hown2 hg2 _
  have hR2 : Rest (fun k => k = w.heap.size + 1 + 1) w1 w2 := Rest.grown1 hg2 (fun k h => by simpa [Value.ownBlock] using h.symm)
  obtain ⟨g2, c2, hv1, hc2, hcap2⟩ := ownsRow_words hown2
  subst hv1
  have hs3 := hR2.size
  have hT2 : TellAt w2 (w.heap.size + 1) m (.pointer none) (.slice none 0 0) w.heap.size 1 (.slice (some ⟨g, 0, none⟩) 1 cc) 0 := Rest.hasB hR2 hT1 (by omega)
  have hn2 : w2.heap[w.heap.size]? = some (.map #[{ key := thing 0, val := .int .i64 0, born := 0 }] 1) := (hR2.block _ (by omega) (by omega)).trans hn1
  have hWd : WordsAt w2 g2 0 [⟨#[114, 111, 111, 116, 115]⟩, ⟨#[35, 48]⟩] := hc2
  have hg3 : w0.heap.size + 1 ≤ g := by simpa using hg
  have hTh2 : OneThing w2 g 0 := OneThing.keep hTh1 hR2 (by omega)
  have hb2 : Below w.heap.size w w2 := ⟨hR2.os.trans (hRw.os.trans hb0.os), hR2.tape.trans (hRw.tape.trans hb0.tape), hR2.output.trans (hRw.output.trans hb0.output), by omega,
    fun k hk => (hR2.block k (by omega) (by omega)).trans ((hRw.block k (by omega) (by omega)).trans (hb0.block k hk))⟩
  have hgl2 := hTh2.2
  clear hown hown2 hg2 hL1 hT1 hTh1 hn1 hR2 hRw hg hr0 hM0 hHp hcl hob hc2 HM hb0
  go_wp2_with fail
  rw [rounds_succ]
  go_wp2_with fail
  have hj0 : (joined [⟨#[114, 111, 111, 116, 115]⟩, ⟨#[35, 48]⟩]).length = 8 := by kernel_rfl
  have hj2 : (joined [⟨#[10]⟩]).length = 1 := by kernel_rfl
  have hTB : w.heap.size + 1 < w2.heap.size := by omega
  refine (teller_put (w.heap.size + 1) m (.pointer none) (.slice none 0 0) w.heap.size 1 _ 0 w2.heap.size [] g2 0 c2 [⟨#[114, 111, 111, 116, 115]⟩, ⟨#[35, 48]⟩] w2 hT2 ⟨.inl rfl, World.ownsRow_nil _ _ _ _⟩ hTB (Nat.le_refl _) hWd hcap2 (by decide) (by rw [hj0]; decide) (by rw [hj0]; decide)).mono ?_
  rintro e w3 ⟨rfl, buf3, hT3, hW3, hB3, -⟩
  have hs4 := hB3.size
  go_wp2_with fail
  refine (teller_put (w.heap.size + 1) m _ buf3 w.heap.size 1 _ 0 w2.heap.size _ w3.heap.size 0 1 [⟨#[10]⟩] (w3.alloc (.cells #[.string ⟨#[10]⟩] 9)) (HasB.alloc hT3 _) ⟨hW3.1, hW3.2.alloc _⟩ hTB (by simp; omega) (words_of_block (HasB.new w3 _ _)) (by decide) (by decide) (by rw [hj2]; decide) (by rw [hj2, List.length_append, hj0]; decide)).mono ?_
  rintro e w5 ⟨rfl, buf5, hT5, hW5, hB5, -⟩
  have hs5 : w3.heap.size + 1 ≤ w5.heap.size := by simpa using hB5.size
  have hB25 : ButB (w.heap.size + 1) w2.heap.size w2 w5 := ButB.trans hB3 (ButB.trans (ButB.of ((Below.refl _ w3).alloc (by omega) _)) hB5)
  have hb5 : Below w.heap.size w w5 := ButB.below hB25 hb2 (by omega) (by omega)
  have hn5 : w5.heap[w.heap.size]? = some (.map #[{ key := thing 0, val := .int .i64 0, born := 0 }] 1) := (hB25.block _ (by omega) (by omega)).trans hn2
  have hTh5 : OneThing w5 g 0 := OneThing.butB hTh2 hB25 hgl2 (by omega)
  clear hT2 hWd hT3 hW3 hB3 hB5 hB25 hTh2 hn2 hb2
  go_wp2_with fail
  refine (queue_next (w.heap.size + 1) m _ buf5 w.heap.size 1 0 g cc w5 hT5 hTh5).mono ?_
  rintro e w6 ⟨rfl, hT6, hB6⟩
  have hs6 := hB6.size
  have hW6 : Wrote w6 (w.heap.size + 1) (.pointer (some ⟨w.heap.size + 1, 1, none⟩)) buf5 w2.heap.size _ := ⟨.inr rfl, ownsRow_but hW5.2 hB6 hTB⟩
  have hb6 : Below w.heap.size w w6 := But.below hB6 hb5 (by omega) (by omega)
  have hn6 : w6.heap[w.heap.size]? = some (.map #[{ key := thing 0, val := .int .i64 0, born := 0 }] 1) := (hB6.block _ (by omega) (by omega)).trans hn5
  clear hT5 hTh5 hW5 hB6 hb5 hn5
  go_wp2_with fail
  have hX7 : HasB (w6.alloc (.cells #[.bool false, .int .i64 0] 60)) w6.heap.size #[.bool false, .int .i64 0] 60 := HasB.new w6 _ _
  have hT7 : TellAt (w6.alloc (.cells #[.bool false, .int .i64 0] 60)) (w.heap.size + 1) m (.pointer (some ⟨w.heap.size + 1, 1, none⟩)) buf5 w.heap.size 1 (.slice (some ⟨g, 0, none⟩) 1 cc) 1 := HasB.alloc hT6 _
  have hW7 : Wrote (w6.alloc (.cells #[.bool false, .int .i64 0] 60)) (w.heap.size + 1) (.pointer (some ⟨w.heap.size + 1, 1, none⟩)) buf5 w2.heap.size _ := ⟨hW6.1, hW6.2.alloc _⟩
  have hb7 : Below w.heap.size w (w6.alloc (.cells #[.bool false, .int .i64 0] 60)) := hb6.alloc (by omega) _
  have hn7 : (w6.alloc (.cells #[.bool false, .int .i64 0] 60)).heap[w.heap.size]? = some (.map #[{ key := thing 0, val := .int .i64 0, born := 0 }] 1) := (Below.heap_alloc w6 _ _ (by omega)).trans hn6
  have hs7 : w6.heap.size < (w6.alloc (.cells #[.bool false, .int .i64 0] 60)).heap.size := by simp
  clear hT6 hW6 hb6 hn6
  revert hX7 hT7 hW7 hb7 hn7 hs7
  generalize w6.alloc (.cells #[.bool false, .int .i64 0] 60) = w7
  intro hX7 hT7 hW7 hb7 hn7 hs7
  have hM7 : MachAt w7.drew m f c ch d left over h envs codes natives body known draws drawn calls := HasB.drew (HasB.below M hb7)
  have hO7 : OneObj w7.drew h B' 1 0 room used := OneObj.below hO hb7.drew
  obtain ⟨g7, cp7, x7, ba7, bb7, mp7, -, -, hHp7, -, -⟩ := OneObj.below hO hb7.drew
  have p0 : w7.cell? ⟨w6.heap.size, 0, none⟩ = some (.bool false) := HasB.cell hX7 0
  have p1 : w7.cell? ⟨w6.heap.size, 1, none⟩ = some (.int .i64 0) := HasB.cell hX7 1
  have pf := HasB.free hX7
  refine wp_loop_rounds 2 ?_
  rw [rounds_succ]
  go_wp2_with fail
  go_region_law (first
    | (go_simp; go_at_call 12; refine (teller_name_old (w.heap.size + 1) m _ buf5 w.heap.size _ 1 (some ⟨g7, 0, none⟩) 1 cp7 room used w7.drew (HasB.drew hT7) hM7 hHp7 (by decide) hn7).mono ?_; rintro e w8 ⟨rfl, k8⟩; have p0' := below_keep k8 p0; have p1' := below_keep k8 p1)
    | (go_simp; go_at_call 13; refine (teller_object (w.heap.size + 1) m _ buf5 w.heap.size 1 _ 1 w2.heap.size _ w8 (HasB.below (HasB.drew hT7) k8) ⟨.inr rfl, ownsRow_keep (w := w7.drew) hW7.2 k8⟩ hTB (by have := k8.size; have : w7.heap.size ≤ w8.heap.size := this; omega) (HasB.below hM7 k8) (OneObj.below hO7 k8) (by rw [List.length_append, hj2]; show _ + 1 ≤ 50000; rw [List.nil_append, hj0]; decide)).mono ?_; rintro e w9 ⟨rfl, buf9, hT9, hW9, hB9, hK9⟩))
  all_goals (
    have hs8 : w7.heap.size ≤ w8.heap.size := k8.size
    have hs9 := hB9.size
    have hX9 := hK9 _ _ _ (HasB.below (HasB.drew hX7) k8) (by decide) (by omega)
    have hb9 : Below w.heap.size w w9 := ButB.below hB9 (below_via k8 hb7.drew (by have : w.heap.size ≤ w7.heap.size := by omega
                                                                                   exact this)) (by omega) (by omega)
    clear hK9 hX7 hT7 hW7 hb7 hn7 hM7 hO7 hHp7 p0 p1 pf p0' p1' k8 hB9
    have p0 : w9.cell? ⟨w6.heap.size, 0, none⟩ = some (.bool false) := HasB.cell hX9 0
    have p1 : w9.cell? ⟨w6.heap.size, 1, none⟩ = some (.int .i64 0) := HasB.cell hX9 1
    have hlx := HasB.lt hX9
    go_wp2_with fail
    refine (queue_none (w.heap.size + 1) m _ buf9 w.heap.size 1 g cc (w9.alloc (.cells #[.bool false, .int .i64 0] 60)) (HasB.alloc hT9 _)).mono ?_
    rintro e w10 ⟨rfl, k10⟩
    have hX10 := HasB.below (HasB.newAt (w := w9) (cs := #[.bool false, .int .i64 0]) (t := 60) rfl) k10
    have hT10 := HasB.below (HasB.alloc hT9 (.cells #[.bool false, .int .i64 0] 60)) k10
    have hW10 := ownsRow_keep (hW9.2.alloc (.cells #[.bool false, .int .i64 0] 60)) k10
    have hb10 : Below w.heap.size w w10 := below_via k10 (hb9.alloc (by omega) _) (by simp; omega)
    have hl10 := HasB.lt hX10
    have u0 : w10.cell? ⟨w9.heap.size, 0, none⟩ = some (.bool false) := HasB.cell hX10 0
    have u1 : w10.cell? ⟨w9.heap.size, 1, none⟩ = some (.int .i64 0) := HasB.cell hX10 1
    have uf := HasB.free hX10
    clear hT9 hW9 hb9 k10 p0 p1
    go_wp2_with fail
    rw [rounds_succ]
    go_wp2_with fail
    refine (Builder_String (w.heap.size + 1) m _ buf9 w.heap.size 1 _ 1 w2.heap.size _ _ (HasB.far (HasB.far hT10 (by simp; omega) _) (by simp; omega) _) (ownsRow_elsewhere (ownsRow_elsewhere hW10 (HasB.ne_own hX10 hW10 (by decide)) _) (HasB.ne_own (HasB.set hX10 0 (.bool false)) (ownsRow_elsewhere hW10 (HasB.ne_own hX10 hW10 (by decide)) _) (by decide)) _) (by simp [told, joined, Lib.join])).mono ?_
    rintro e w11 ⟨rfl, k11⟩
    go_wp2_with fail
    go_ret
    exact ⟨rfl, ((hb10.setCell (p := ⟨w9.heap.size, 0, none⟩) (by show w.heap.size ≤ w9.heap.size; omega) _).setCell (p := ⟨w9.heap.size, 1, none⟩) (by show w.heap.size ≤ w9.heap.size; omega) _).trans (k11.mono (by omega))⟩)
end Go.Proofs.YtpafbjghlgjfcaaGreatDoor
