/-
  QuorumAsks: who votes, who learns, and all of any roster.
-/
import Derived.Test.YtbfpdahbmdaenaaAsk
import Derived.Test.YtbfpdahbmdaenaaLong
import Derived.Test.YtbfpdahbmdaenaaAwake
import Derived.Test.YtbfpdahbmdaenaaOpen
namespace Go.Proofs.Ytbfpdahbmdaenaa
open Go.ChangeShapes Go.WideShapes Go.ChangeAt Go.RowKit

set_option linter.unusedSimpArgs false in
set_option linter.unusedVariables false in
set_option maxRecDepth 100000 in
set_option maxHeartbeats 4000000 in
theorem asks_walk (A1 A2 : Option Addr) (n1 c1 n2 c2 : Nat) (vs ls : List Int) (x : Int) (w : World) (h1 : Rd w A1 n1 vs) (h2 : Rd w A2 n2 ls) (e1 : A1 = none → c1 = 0) (e2 : A2 = none → c2 = 0) : Calls Try.prog 11 #[.agg #[.slice A1 n1 c1, .slice A2 n2 c2], .int .i64 x] w fun e w' => e = .returned (.bool true) ∧ Below w.heap.size w w' := by
  have HA := Kp.mk h1
  have HB := Kp.mk h2
  have E1 := Kp.mk e1
  have E2 := Kp.mk e2
  have hl1 := h1.bd
  have hl2 := h2.bd
  clear h1 h2 e1 e2
  cases hl : lon n1 n2 with
  | true =>
    have HLON : Kp ([(A1, n1, c1, A2, n2, c2)].any lonB = true) := ⟨by simp [lonB, hl]⟩
    clear hl
    have HRO : Kp (Ros ((w.alloc (.cells #[.slice A1 n1 c1, .slice A2 n2 c2] 24)).alloc (.cells #[.slice A1 n1 c1, .slice A2 n2 c2] 24)) (w.heap.size + 1) [(A1, n1, c1, A2, n2, c2)]) := ⟨by have := ros_new1 (w.alloc (.cells #[.slice A1 n1 c1, .slice A2 n2 c2] 24)) A1 n1 c1 A2 n2 c2; rwa [World.size_alloc] at this⟩
    go_enter Try.func11, Try.ntmps11
    go_wp2_with fail
    refine (long_any _ 1 [(A1, n1, c1, A2, n2, c2)] _ HRO.it (by simp)).mono ?_
    rintro e w1 ⟨rfl, hb1⟩
    rw [HLON.it]
    have z0 : w1.cell? ⟨w.heap.size, 0, none⟩ = some (.slice A1 n1 c1) := (hb1.cell (p := ⟨w.heap.size, 0, none⟩) (by simp; omega)).trans (blk_cell (blk_old _ (blk_new _ _)) rfl)
    have z1 : w1.cell? ⟨w.heap.size, 1, none⟩ = some (.slice A2 n2 c2) := (hb1.cell (p := ⟨w.heap.size, 1, none⟩) (by simp; omega)).trans (blk_cell (blk_old _ (blk_new _ _)) rfl)
    have hs1 : w.heap.size < w1.heap.size := by have := hb1.size; simp at this; omega
    have HBW1 : Kp (Below w.heap.size w w1) := ⟨(((Below.refl _ _).alloc (Nat.le_refl _) _).alloc (by simp) _).trans (hb1.mono (by simp; omega))⟩
    clear hb1
    go_wp2_with (go_at_call 14; refine (awake_any _).mono ?_; rintro e w' ⟨rfl, hb'⟩)
    go_ret
    exact ⟨rfl, HBW1.it.trans (hb'.mono HBW1.it.size)⟩
  | false =>
    have HLON : Kp ([(A1, n1, c1, A2, n2, c2)].any lonB = false) := ⟨by simp [lonB, hl]⟩
    have hn12 : n1 ≤ 500 ∧ n2 ≤ 500 := by unfold lon at hl; simp at hl; omega
    have HNL : Kp (n1 + n2 ≤ 1000000000) := ⟨by omega⟩
    have HIL : Kp ((insAll (vs ++ ls)).length ≤ 1000) := ⟨by have := insAll_length (vs ++ ls); rw [List.length_append, HA.it.len, HB.it.len] at this; omega⟩
    clear hl
    have HRO : Kp (Ros ((w.alloc (.cells #[.slice A1 n1 c1, .slice A2 n2 c2] 24)).alloc (.cells #[.slice A1 n1 c1, .slice A2 n2 c2] 24)) (w.heap.size + 1) [(A1, n1, c1, A2, n2, c2)]) := ⟨by have := ros_new1 (w.alloc (.cells #[.slice A1 n1 c1, .slice A2 n2 c2] 24)) A1 n1 c1 A2 n2 c2; rwa [World.size_alloc] at this⟩
    go_enter Try.func11, Try.ntmps11
    go_wp2_with fail
    refine (long_any _ 1 [(A1, n1, c1, A2, n2, c2)] _ HRO.it (by simp)).mono ?_
    rintro e w1 ⟨rfl, hb1⟩
    rw [HLON.it]
    have z0 : w1.cell? ⟨w.heap.size, 0, none⟩ = some (.slice A1 n1 c1) := (hb1.cell (p := ⟨w.heap.size, 0, none⟩) (by simp; omega)).trans (blk_cell (blk_old _ (blk_new _ _)) rfl)
    have z1 : w1.cell? ⟨w.heap.size, 1, none⟩ = some (.slice A2 n2 c2) := (hb1.cell (p := ⟨w.heap.size, 1, none⟩) (by simp; omega)).trans (blk_cell (blk_old _ (blk_new _ _)) rfl)
    have hs1 : w.heap.size < w1.heap.size := by have := hb1.size; simp at this; omega
    have HBW1 : Kp (Below w.heap.size w w1) := ⟨(((Below.refl _ _).alloc (Nat.le_refl _) _).alloc (by simp) _).trans (hb1.mono (by simp; omega))⟩
    clear hb1
    go_wp2_with fail
    refine wp_region_last 8 (askSp w.heap.size w1.heap.size (.slice A1 n1 c1) (.slice A2 n2 c2) vs ls) (by kernel_rfl) (askSp_mono _ _ _ _ _ _) (by kernel_rfl) (by decide) rfl ?_ ?_ ?_
    · intro l hc h j hj hne
      have h6 := h 6 (by decide)
      have h7 := h 7 (by decide)
      have h2 := hc 6 h6 2 (by decide)
      have h5 := hc 6 h6 5 (by decide)
      have h1 := hc 2 h2 1 (by decide)
      have h0 := hc 1 h1 0 (by decide)
      have h4 := hc 5 h5 4 (by decide)
      have h3 := hc 4 h4 3 (by decide)
      match j, hj, hne with
      | 0, _, _ => exact h0
      | 1, _, _ => exact h1
      | 2, _, _ => exact h2
      | 3, _, _ => exact h3
      | 4, _, _ => exact h4
      | 5, _, _ => exact h5
      | 6, _, _ => exact h6
      | 7, _, _ => exact h7
      | 8, _, hne => exact absurd rfl hne
      | q + 9, hj, _ => exact absurd hj (by simp)
    · intro i o ho hne a W hbW hG
      match i with
      | 0 =>
        have ho1 := ho
        cases ho
        have t2 : a.tmps.getD 2 undef = .pointer (some ⟨w.heap.size, 0, none⟩) := hG.old 2 (by decide)
        exact op_value_g (w1 := W) ho1 (wanted_none rfl) (.pointer (some ⟨w.heap.size, 0, none⟩)) (by simp [go_sem, Act.eval, -Array.getD_eq_getD_getElem?, t2]) (Gr.refl _) rfl
      | 1 =>
        have ho1 := ho
        cases ho
        have t13 : a.tmps.getD 13 undef = .pointer (some ⟨w.heap.size, 0, none⟩) := hG.dep 0 (by decide) 13 rfl
        have z0 := (hbW.cell (p := ⟨w.heap.size, 0, none⟩) hs1).trans z0
        exact op_value_g (w1 := W) ho1 (wanted_none rfl) (.slice A1 n1 c1) (by simp [go_sem, Act.eval, -Array.getD_eq_getD_getElem?, t13, z0]) (Gr.refl _) rfl
      | 2 =>
        have ho1 := ho
        cases ho
        have t14 : a.tmps.getD 14 undef = .slice A1 n1 c1 := hG.dep 1 (by decide) 14 rfl
        refine op_call_g ho1 (wanted_none rfl) 30 #[.slice A1 n1 c1] (by simp [go_sem, Act.eval, -Array.getD_eq_getD_getElem?, t14]) ?_
        refine (clone_any A1 n1 c1 vs W (HA.it.below (HBW1.it.trans (hbW.mono HBW1.it.size))) E1.it).mono ?_
        rintro e W' ⟨v, rfl, ho, hb'⟩
        obtain ⟨A, c, rfl, hn, _, _, hr⟩ := ho.form3 (by rw [HA.it.len]; exact HA.it.bd)
        exact ⟨_, rfl, hb', _, _, _, rfl, hr, hn⟩
      | 3 =>
        have ho1 := ho
        cases ho
        have t2 : a.tmps.getD 2 undef = .pointer (some ⟨w.heap.size, 0, none⟩) := hG.old 2 (by decide)
        exact op_value_g (w1 := W) ho1 (wanted_none rfl) (.pointer (some ⟨w.heap.size, 1, none⟩)) (by simp [go_sem, Act.eval, -Array.getD_eq_getD_getElem?, t2]) (Gr.refl _) rfl
      | 4 =>
        have ho1 := ho
        cases ho
        have t16 : a.tmps.getD 16 undef = .pointer (some ⟨w.heap.size, 1, none⟩) := hG.dep 3 (by decide) 16 rfl
        have z1 := (hbW.cell (p := ⟨w.heap.size, 1, none⟩) hs1).trans z1
        exact op_value_g (w1 := W) ho1 (wanted_none rfl) (.slice A2 n2 c2) (by simp [go_sem, Act.eval, -Array.getD_eq_getD_getElem?, t16, z1]) (Gr.refl _) rfl
      | 5 =>
        have ho1 := ho
        cases ho
        have t17 : a.tmps.getD 17 undef = .slice A2 n2 c2 := hG.dep 4 (by decide) 17 rfl
        refine op_call_g ho1 (wanted_none rfl) 30 #[.slice A2 n2 c2] (by simp [go_sem, Act.eval, -Array.getD_eq_getD_getElem?, t17]) ?_
        refine (clone_any A2 n2 c2 ls W (HB.it.below (HBW1.it.trans (hbW.mono HBW1.it.size))) E2.it).mono ?_
        rintro e W' ⟨v, rfl, ho, hb'⟩
        obtain ⟨A, c, rfl, hn, _, _, hr⟩ := ho.form3 (by rw [HB.it.len]; exact HB.it.bd)
        exact ⟨_, rfl, hb', _, _, _, rfl, hr, hn⟩
      | 6 =>
        have ho1 := ho
        cases ho
        obtain ⟨A15, n15, c15, t15, r15, q15⟩ : SlN vs (a.tmps.getD 15 undef) W := hG.dep 2 (by decide) 15 rfl
        obtain ⟨A18, n18, c18, t18, r18, q18⟩ : SlN ls (a.tmps.getD 18 undef) W := hG.dep 5 (by decide) 18 rfl
        exact op_value_g (w1 := W) ho1 (wanted_none rfl) (.agg #[.slice A15 n15 c15, .slice A18 n18 c18]) (by simp [go_sem, Act.eval, -Array.getD_eq_getD_getElem?, t15, t18]) (Gr.refl _) ⟨_, _, _, _, _, _, rfl, r15, r18, q15, q18⟩
      | 7 =>
        have ho1 := ho
        cases ho
        exact op_value_g (w1 := W.alloc (.cells #[.slice none 0 0, .slice none 0 0] 24)) ho1 (wanted_none rfl) (.pointer (some ⟨W.heap.size, 0, none⟩)) (by simp [go_sem, Act.eval, -Array.getD_eq_getD_getElem?]) ((Below.refl _ _).alloc (Nat.le_refl _) _) ⟨_, rfl, hbW.size, blk_new _ _⟩
      | 8 => exact absurd rfl hne
      | q + 9 => cases ho
    intro a W hbW hD
    have hfr := hD.frame [13, 14, 15, 16, 17, 18, 19, 5] (by kernel_rfl)
    have t13 : a.tmps.getD 13 undef = .pointer (some ⟨w.heap.size, 0, none⟩) := hD.sp 0 (by decide) 13 rfl
    have t14 : a.tmps.getD 14 undef = .slice A1 n1 c1 := hD.sp 1 (by decide) 14 rfl
    have t16 : a.tmps.getD 16 undef = .pointer (some ⟨w.heap.size, 1, none⟩) := hD.sp 3 (by decide) 16 rfl
    have t17 : a.tmps.getD 17 undef = .slice A2 n2 c2 := hD.sp 4 (by decide) 17 rfl
    obtain ⟨A15, n15, c15, A18, n18, c18, t19, r15, r18, q15, q18⟩ : RoN vs ls (a.tmps.getD 19 undef) W := hD.sp 6 (by decide) 19 rfl
    obtain ⟨b5, t5, nb5, hb5⟩ : BoxP w1.heap.size #[.slice none 0 0, .slice none 0 0] 24 (a.tmps.getD 5 undef) W := hD.sp 7 (by decide) 5 rfl
    simp only [List.foldl_cons, List.foldl_nil] at hfr
    rw [t13, t14, t16, t17, t19, t5] at hfr
    generalize a.tmps.getD 15 undef = u15 at hfr
    generalize a.tmps.getD 18 undef = u18 at hfr
    rw [hfr]
    clear hfr hD t13 t14 t16 t17 t19 t5
    simp only [Act.put, List.setIfInBounds_toArray, List.set_cons_succ, List.set_cons_zero]
    have y0 := blk_cell (o := 0) hb5 rfl
    have y1 := blk_cell (o := 1) hb5 rfl
    have f0 : W.frozen? ⟨b5, 0, none⟩ = false := blk_free hb5
    have f1 : W.frozen? ⟨b5, 1, none⟩ = false := blk_free hb5
    obtain ⟨w4, hw4⟩ : ∃ w4, w4 = (W.setCell ⟨b5, 0, none⟩ (.slice A15 n15 c15)).setCell ⟨b5, 1, none⟩ (.slice A18 n18 c18) := ⟨_, rfl⟩
    have hh4 : w4.heap[b5]? = some (.cells #[.slice A15 n15 c15, .slice A18 n18 c18] 24 (0, 0)) := by rw [hw4, blk_set _ (blk_set _ hb5)]; rfl
    have HG1 : Kp (Rd w4 A15 n15 vs) := ⟨by rw [hw4]; exact (r15.box hb5 (fun _ _ h => by cases h) (fun _ _ h => by cases h) 0 _).box (blk_set _ hb5) (fun _ _ h => by cases h) (fun _ _ h => by cases h) 1 _⟩
    have HG2 : Kp (Rd w4 A18 n18 ls) := ⟨by rw [hw4]; exact (r18.box hb5 (fun _ _ h => by cases h) (fun _ _ h => by cases h) 0 _).box (blk_set _ hb5) (fun _ _ h => by cases h) (fun _ _ h => by cases h) 1 _⟩
    have HBW4 : Kp (Below w1.heap.size w1 w4) := ⟨by rw [hw4]; exact (hbW.setCell nb5 _).setCell nb5 _⟩
    refine op_any (w1 := w4) rfl rfl (by rw [hw4]; simp [go_sem, Act.eval, y0, y1, f0, f1]) ?_
    simp only [Act.put]
    clear y0 y1 f0 f1 hb5 hw4 r15 r18 hbW
    have hs5 : b5 < w4.heap.size := (Array.getElem?_eq_some_iff.1 hh4).1
    have hs4 : w.heap.size < w4.heap.size := Nat.lt_of_lt_of_le hs1 HBW4.it.size
    have y0 : w4.cell? ⟨b5, 0, none⟩ = some (.slice A15 n15 c15) := blk_cell hh4 rfl
    have y1 : w4.cell? ⟨b5, 1, none⟩ = some (.slice A18 n18 c18) := blk_cell hh4 rfl
    have z0 := (HBW4.it.cell (p := ⟨w.heap.size, 0, none⟩) hs1).trans z0
    have z1 := (HBW4.it.cell (p := ⟨w.heap.size, 1, none⟩) hs1).trans z1
    have HBA := Kp.mk (HBW1.it.trans (HBW4.it.mono HBW1.it.size))
    have Q15 := Kp.mk q15
    have Q18 := Kp.mk q18
    have HNM : Kp (n15 + n18 ≤ 1000000000) := ⟨by have := HG1.it.len; have := HG2.it.len; have := HA.it.len; have := HB.it.len; omega⟩
    clear hh4 q15 q18
    go_wp2_with fail
    refine (all_any A15 A18 n15 c15 n18 c18 vs ls w4 HG1.it HG2.it Q15.it Q18.it HNM.it).mono ?_
    rintro e w5 ⟨v, rfl, ho, hb5⟩
    obtain ⟨A6, c6, hv, _, _, _, hr6⟩ := ho.form3 (by have := HIL.it; rw [allL_insAll]; omega)
    obtain ⟨m, hm⟩ : ∃ m, m = (allL vs ls).length := ⟨_, rfl⟩
    have hm1 : m ≤ 1000 := by have := HIL.it; rw [hm, allL_insAll]; omega
    rw [← hm] at hv hr6
    subst hv
    have HL6 := Kp.mk hr6
    have HWR := Kp.mk (ho.wr hm)
    have HB5 := Kp.mk hb5
    have hz0 := (hb5.cell (p := ⟨w.heap.size, 0, none⟩) hs4).trans z0
    have hz1 := (hb5.cell (p := ⟨w.heap.size, 1, none⟩) hs4).trans z1
    have hy0 := (hb5.cell (p := ⟨b5, 0, none⟩) hs5).trans y0
    have hy1 := (hb5.cell (p := ⟨b5, 1, none⟩) hs5).trans y1
    have Z0 := Kp.mk z0
    have Z1 := Kp.mk z1
    have Y0 := Kp.mk y0
    have Y1 := Kp.mk y1
    have HS4 := Kp.mk hs4
    have HS5 := Kp.mk hs5
    have hs0 : w.heap.size < w5.heap.size := Nat.lt_of_lt_of_le hs4 hb5.size
    have hs5 : b5 < w5.heap.size := Nat.lt_of_lt_of_le HS5.it hb5.size
    have HH1 := Kp.mk (HG1.it.below hb5)
    have HH2 := Kp.mk (HG2.it.below hb5)
    have HBW5 := Kp.mk (HBA.it.trans (hb5.mono HBA.it.size))
    clear hb5 ho hm hr6 z0 z1 y0 y1 hs4
    go_wp2_with fail
    have hbw := HBW5.it
    refine wp_region_sp [.ex (.slice A6 m c6), .ex (.agg #[.slice A1 n1 c1, .slice A2 n2 c2]), .sl (insAll (vs ++ ls)), .ex (.bool true), .ex (.bool true), .ex (.agg #[.slice A15 n15 c15, .slice A18 n18 c18]), .ex (.int .i64 x), .ex (.bool (inB vs x)), .ex (.agg #[.slice A1 n1 c1, .slice A2 n2 c2]), .ex (.int .i64 x), .ex (.bool (inB vs x)), .ex (.bool true), .ex (.bool true), .ex (.bool true), .ex (.agg #[.slice A15 n15 c15, .slice A18 n18 c18]), .ex (.int .i64 x), .ex (.bool (inB vs x || inB ls x)), .ex (.agg #[.slice A1 n1 c1, .slice A2 n2 c2]), .ex (.int .i64 x), .ex (.bool (inB vs x || inB ls x)), .ex (.bool true), .ex (.bool true), .ex (.bool true)] (by kernel_rfl) (by kernel_rfl) ?_ ?_
    · intro i o ho a W hbW hG
      match i with
      | 0 =>
        have ho1 := ho
        cases ho
        have t6 : a.tmps.getD 6 undef = .slice A6 m c6 := hG.old 6 (by decide)
        exact op_value_g (w1 := W) ho1 (wanted_none rfl) (.slice A6 m c6) (by simp [go_sem, Act.eval, -Array.getD_eq_getD_getElem?, t6]) (Gr.refl _) rfl
      | 1 =>
        have ho1 := ho
        cases ho
        have t2 : a.tmps.getD 2 undef = .pointer (some ⟨w.heap.size, 0, none⟩) := hG.old 2 (by decide)
        have z0 := (hbW.cell (p := ⟨w.heap.size, 0, none⟩) hs0).trans hz0
        have z1 := (hbW.cell (p := ⟨w.heap.size, 1, none⟩) hs0).trans hz1
        have y0 := (hbW.cell (p := ⟨b5, 0, none⟩) hs5).trans hy0
        have y1 := (hbW.cell (p := ⟨b5, 1, none⟩) hs5).trans hy1
        exact op_value_g (w1 := W) ho1 (wanted_none rfl) (.agg #[.slice A1 n1 c1, .slice A2 n2 c2]) (by simp [go_sem, Act.eval, -Array.getD_eq_getD_getElem?, t2, z0, z1, y0, y1]) (Gr.refl _) rfl
      | 2 =>
        have ho1 := ho
        cases ho
        have t23 : a.tmps.getD 23 undef = .agg #[.slice A1 n1 c1, .slice A2 n2 c2] := hG.dep 1 (by decide) 23 rfl
        refine op_call_g ho1 (wanted_none rfl) 31 #[.agg #[.slice A1 n1 c1, .slice A2 n2 c2]] (by simp [go_sem, Act.eval, -Array.getD_eq_getD_getElem?, t23]) ?_
        refine (rall_any A1 A2 n1 c1 n2 c2 vs ls W (HA.it.below (hbw.trans (hbW.mono hbw.size))) (HB.it.below (hbw.trans (hbW.mono hbw.size))) HNL.it).mono ?_
        rintro e W' ⟨v, rfl, ho, hb'⟩
        obtain ⟨A, c, rfl, hr⟩ := ho.form
        exact ⟨_, rfl, hb', _, _, _, rfl, hr (by have := HIL.it; omega)⟩
      | 3 =>
        have ho1 := ho
        cases ho
        have t22 : a.tmps.getD 22 undef = .slice A6 m c6 := hG.dep 0 (by decide) 22 rfl
        obtain ⟨A24, n24, c24, t24, r24⟩ : (SpK.sl (insAll (vs ++ ls))).holds (a.tmps.getD 24 undef) W := hG.dep 2 (by decide) 24 rfl
        refine op_call_g ho1 (wanted_none rfl) 24 #[.slice A6 m c6, .slice A24 n24 c24] (by simp [go_sem, Act.eval, -Array.getD_eq_getD_getElem?, t22, t24]) ?_
        refine (equal_gr A6 A24 m c6 n24 c24 (allL vs ls) (insAll (vs ++ ls)) W (HL6.it.below hbW) r24).mono ?_
        rintro e W' ⟨rfl, hb'⟩
        exact ⟨_, rfl, hb', by show Value.bool _ = _; rw [allL_insAll, eqB_refl]⟩
      | 4 =>
        have ho1 := ho
        cases ho
        have t25 : a.tmps.getD 25 undef = .bool true := hG.dep 3 (by decide) 25 rfl
        exact op_value_g (w1 := W) ho1 (wanted_none rfl) (.bool true) (by simp [go_sem, Act.eval, -Array.getD_eq_getD_getElem?, t25]) (Gr.refl _) rfl
      | 5 =>
        have ho1 := ho
        cases ho
        have t5 : a.tmps.getD 5 undef = .pointer (some ⟨b5, 0, none⟩) := hG.old 5 (by decide)
        have t26 : a.tmps.getD 26 undef = .bool true := hG.dep 4 (by decide) 26 rfl
        have z0 := (hbW.cell (p := ⟨w.heap.size, 0, none⟩) hs0).trans hz0
        have z1 := (hbW.cell (p := ⟨w.heap.size, 1, none⟩) hs0).trans hz1
        have y0 := (hbW.cell (p := ⟨b5, 0, none⟩) hs5).trans hy0
        have y1 := (hbW.cell (p := ⟨b5, 1, none⟩) hs5).trans hy1
        exact op_value_g (w1 := W) ho1 (wanted_yes rfl rfl t26) (.agg #[.slice A15 n15 c15, .slice A18 n18 c18]) (by simp [go_sem, Act.eval, -Array.getD_eq_getD_getElem?, t5, t26, z0, z1, y0, y1]) (Gr.refl _) rfl
      | 6 =>
        have ho1 := ho
        cases ho
        have t1 : a.tmps.getD 1 undef = .int .i64 x := hG.old 1 (by decide)
        have t26 : a.tmps.getD 26 undef = .bool true := hG.dep 4 (by decide) 26 rfl
        exact op_value_g (w1 := W) ho1 (wanted_yes rfl rfl t26) (.int .i64 x) (by simp [go_sem, Act.eval, -Array.getD_eq_getD_getElem?, t1, t26]) (Gr.refl _) rfl
      | 7 =>
        have ho1 := ho
        cases ho
        have t27 : a.tmps.getD 27 undef = .agg #[.slice A15 n15 c15, .slice A18 n18 c18] := hG.dep 5 (by decide) 27 rfl
        have t28 : a.tmps.getD 28 undef = .int .i64 x := hG.dep 6 (by decide) 28 rfl
        have t26 : a.tmps.getD 26 undef = .bool true := hG.dep 4 (by decide) 26 rfl
        refine op_call_g ho1 (wanted_yes rfl rfl t26) 23 #[.agg #[.slice A15 n15 c15, .slice A18 n18 c18], .int .i64 x] (by simp [go_sem, Act.eval, -Array.getD_eq_getD_getElem?, t27, t28, t26]) ?_
        refine (votes_any _ _ _ _ _ _ vs W (HH1.it.below hbW) x).mono ?_
        rintro e W' ⟨rfl, hb'⟩
        exact ⟨_, rfl, hb', rfl⟩
      | 8 =>
        have ho1 := ho
        cases ho
        have t2 : a.tmps.getD 2 undef = .pointer (some ⟨w.heap.size, 0, none⟩) := hG.old 2 (by decide)
        have t26 : a.tmps.getD 26 undef = .bool true := hG.dep 4 (by decide) 26 rfl
        have z0 := (hbW.cell (p := ⟨w.heap.size, 0, none⟩) hs0).trans hz0
        have z1 := (hbW.cell (p := ⟨w.heap.size, 1, none⟩) hs0).trans hz1
        have y0 := (hbW.cell (p := ⟨b5, 0, none⟩) hs5).trans hy0
        have y1 := (hbW.cell (p := ⟨b5, 1, none⟩) hs5).trans hy1
        exact op_value_g (w1 := W) ho1 (wanted_yes rfl rfl t26) (.agg #[.slice A1 n1 c1, .slice A2 n2 c2]) (by simp [go_sem, Act.eval, -Array.getD_eq_getD_getElem?, t2, t26, z0, z1, y0, y1]) (Gr.refl _) rfl
      | 9 =>
        have ho1 := ho
        cases ho
        have t1 : a.tmps.getD 1 undef = .int .i64 x := hG.old 1 (by decide)
        have t26 : a.tmps.getD 26 undef = .bool true := hG.dep 4 (by decide) 26 rfl
        exact op_value_g (w1 := W) ho1 (wanted_yes rfl rfl t26) (.int .i64 x) (by simp [go_sem, Act.eval, -Array.getD_eq_getD_getElem?, t1, t26]) (Gr.refl _) rfl
      | 10 =>
        have ho1 := ho
        cases ho
        have t30 : a.tmps.getD 30 undef = .agg #[.slice A1 n1 c1, .slice A2 n2 c2] := hG.dep 8 (by decide) 30 rfl
        have t31 : a.tmps.getD 31 undef = .int .i64 x := hG.dep 9 (by decide) 31 rfl
        have t26 : a.tmps.getD 26 undef = .bool true := hG.dep 4 (by decide) 26 rfl
        refine op_call_g ho1 (wanted_yes rfl rfl t26) 32 #[.agg #[.slice A1 n1 c1, .slice A2 n2 c2], .int .i64 x] (by simp [go_sem, Act.eval, -Array.getD_eq_getD_getElem?, t30, t31, t26]) ?_
        refine (rvotes_any _ _ _ _ _ _ vs W (HA.it.below (hbw.trans (hbW.mono hbw.size))) x).mono ?_
        rintro e W' ⟨rfl, hb'⟩
        exact ⟨_, rfl, hb', by show Value.bool _ = _; rw [vote_eq]⟩
      | 11 =>
        have ho1 := ho
        cases ho
        have t29 : a.tmps.getD 29 undef = .bool (inB vs x) := hG.dep 7 (by decide) 29 rfl
        have t32 : a.tmps.getD 32 undef = .bool (inB vs x) := hG.dep 10 (by decide) 32 rfl
        have t26 : a.tmps.getD 26 undef = .bool true := hG.dep 4 (by decide) 26 rfl
        exact op_value_g (w1 := W) ho1 (wanted_yes rfl rfl t26) (.bool true) (by simp [go_sem, Act.eval, -Array.getD_eq_getD_getElem?, t29, t32, t26]) (Gr.refl _) rfl
      | 12 =>
        have ho1 := ho
        cases ho
        have t26 : a.tmps.getD 26 undef = .bool true := hG.dep 4 (by decide) 26 rfl
        have t33 : a.tmps.getD 33 undef = .bool true := hG.dep 11 (by decide) 33 rfl
        exact op_value_g (w1 := W) ho1 (wanted_none rfl) (.bool true) (by simp [go_sem, Act.eval, -Array.getD_eq_getD_getElem?, t26, t33]) (Gr.refl _) rfl
      | 13 =>
        have ho1 := ho
        cases ho
        have t34 : a.tmps.getD 34 undef = .bool true := hG.dep 12 (by decide) 34 rfl
        exact op_value_g (w1 := W) ho1 (wanted_none rfl) (.bool true) (by simp [go_sem, Act.eval, -Array.getD_eq_getD_getElem?, t34]) (Gr.refl _) rfl
      | 14 =>
        have ho1 := ho
        cases ho
        have t5 : a.tmps.getD 5 undef = .pointer (some ⟨b5, 0, none⟩) := hG.old 5 (by decide)
        have t35 : a.tmps.getD 35 undef = .bool true := hG.dep 13 (by decide) 35 rfl
        have z0 := (hbW.cell (p := ⟨w.heap.size, 0, none⟩) hs0).trans hz0
        have z1 := (hbW.cell (p := ⟨w.heap.size, 1, none⟩) hs0).trans hz1
        have y0 := (hbW.cell (p := ⟨b5, 0, none⟩) hs5).trans hy0
        have y1 := (hbW.cell (p := ⟨b5, 1, none⟩) hs5).trans hy1
        exact op_value_g (w1 := W) ho1 (wanted_yes rfl rfl t35) (.agg #[.slice A15 n15 c15, .slice A18 n18 c18]) (by simp [go_sem, Act.eval, -Array.getD_eq_getD_getElem?, t5, t35, z0, z1, y0, y1]) (Gr.refl _) rfl
      | 15 =>
        have ho1 := ho
        cases ho
        have t1 : a.tmps.getD 1 undef = .int .i64 x := hG.old 1 (by decide)
        have t35 : a.tmps.getD 35 undef = .bool true := hG.dep 13 (by decide) 35 rfl
        exact op_value_g (w1 := W) ho1 (wanted_yes rfl rfl t35) (.int .i64 x) (by simp [go_sem, Act.eval, -Array.getD_eq_getD_getElem?, t1, t35]) (Gr.refl _) rfl
      | 16 =>
        have ho1 := ho
        cases ho
        have t36 : a.tmps.getD 36 undef = .agg #[.slice A15 n15 c15, .slice A18 n18 c18] := hG.dep 14 (by decide) 36 rfl
        have t37 : a.tmps.getD 37 undef = .int .i64 x := hG.dep 15 (by decide) 37 rfl
        have t35 : a.tmps.getD 35 undef = .bool true := hG.dep 13 (by decide) 35 rfl
        refine op_call_g ho1 (wanted_yes rfl rfl t35) 33 #[.agg #[.slice A15 n15 c15, .slice A18 n18 c18], .int .i64 x] (by simp [go_sem, Act.eval, -Array.getD_eq_getD_getElem?, t36, t37, t35]) ?_
        refine (has_any _ _ _ _ _ _ vs ls W (HH1.it.below hbW) (HH2.it.below hbW) x).mono ?_
        rintro e W' ⟨rfl, hb'⟩
        exact ⟨_, rfl, hb', rfl⟩
      | 17 =>
        have ho1 := ho
        cases ho
        have t2 : a.tmps.getD 2 undef = .pointer (some ⟨w.heap.size, 0, none⟩) := hG.old 2 (by decide)
        have t35 : a.tmps.getD 35 undef = .bool true := hG.dep 13 (by decide) 35 rfl
        have z0 := (hbW.cell (p := ⟨w.heap.size, 0, none⟩) hs0).trans hz0
        have z1 := (hbW.cell (p := ⟨w.heap.size, 1, none⟩) hs0).trans hz1
        have y0 := (hbW.cell (p := ⟨b5, 0, none⟩) hs5).trans hy0
        have y1 := (hbW.cell (p := ⟨b5, 1, none⟩) hs5).trans hy1
        exact op_value_g (w1 := W) ho1 (wanted_yes rfl rfl t35) (.agg #[.slice A1 n1 c1, .slice A2 n2 c2]) (by simp [go_sem, Act.eval, -Array.getD_eq_getD_getElem?, t2, t35, z0, z1, y0, y1]) (Gr.refl _) rfl
      | 18 =>
        have ho1 := ho
        cases ho
        have t1 : a.tmps.getD 1 undef = .int .i64 x := hG.old 1 (by decide)
        have t35 : a.tmps.getD 35 undef = .bool true := hG.dep 13 (by decide) 35 rfl
        exact op_value_g (w1 := W) ho1 (wanted_yes rfl rfl t35) (.int .i64 x) (by simp [go_sem, Act.eval, -Array.getD_eq_getD_getElem?, t1, t35]) (Gr.refl _) rfl
      | 19 =>
        have ho1 := ho
        cases ho
        have t39 : a.tmps.getD 39 undef = .agg #[.slice A1 n1 c1, .slice A2 n2 c2] := hG.dep 17 (by decide) 39 rfl
        have t40 : a.tmps.getD 40 undef = .int .i64 x := hG.dep 18 (by decide) 40 rfl
        have t35 : a.tmps.getD 35 undef = .bool true := hG.dep 13 (by decide) 35 rfl
        refine op_call_g ho1 (wanted_yes rfl rfl t35) 34 #[.agg #[.slice A1 n1 c1, .slice A2 n2 c2], .int .i64 x] (by simp [go_sem, Act.eval, -Array.getD_eq_getD_getElem?, t39, t40, t35]) ?_
        refine (rhas_any _ _ _ _ _ _ vs ls W (HA.it.below (hbw.trans (hbW.mono hbw.size))) (HB.it.below (hbw.trans (hbW.mono hbw.size))) x).mono ?_
        rintro e W' ⟨rfl, hb'⟩
        exact ⟨_, rfl, hb', by show Value.bool _ = _; rw [has_eq]⟩
      | 20 =>
        have ho1 := ho
        cases ho
        have t38 : a.tmps.getD 38 undef = .bool (inB vs x || inB ls x) := hG.dep 16 (by decide) 38 rfl
        have t41 : a.tmps.getD 41 undef = .bool (inB vs x || inB ls x) := hG.dep 19 (by decide) 41 rfl
        have t35 : a.tmps.getD 35 undef = .bool true := hG.dep 13 (by decide) 35 rfl
        exact op_value_g (w1 := W) ho1 (wanted_yes rfl rfl t35) (.bool true) (by simp [go_sem, Act.eval, -Array.getD_eq_getD_getElem?, t38, t41, t35]) (Gr.refl _) rfl
      | 21 =>
        have ho1 := ho
        cases ho
        have t35 : a.tmps.getD 35 undef = .bool true := hG.dep 13 (by decide) 35 rfl
        have t42 : a.tmps.getD 42 undef = .bool true := hG.dep 20 (by decide) 42 rfl
        exact op_value_g (w1 := W) ho1 (wanted_none rfl) (.bool true) (by simp [go_sem, Act.eval, -Array.getD_eq_getD_getElem?, t35, t42]) (Gr.refl _) rfl
      | 22 =>
        have ho1 := ho
        cases ho
        have t43 : a.tmps.getD 43 undef = .bool true := hG.dep 21 (by decide) 43 rfl
        exact op_value_g (w1 := W) ho1 (wanted_none rfl) (.bool true) (by simp [go_sem, Act.eval, -Array.getD_eq_getD_getElem?, t43]) (Gr.refl _) rfl
      | q + 23 => cases ho
    · intro a W hbW hD
      have hfr := hD.frame [22, 23, 24, 25, 26, 27, 28, 29, 30, 31, 32, 33, 34, 35, 36, 37, 38, 39, 40, 41, 42, 43, 7] (by kernel_rfl)
      have t22 : a.tmps.getD 22 undef = .slice A6 m c6 := hD.sp 0 (by decide) 22 rfl
      have t23 : a.tmps.getD 23 undef = .agg #[.slice A1 n1 c1, .slice A2 n2 c2] := hD.sp 1 (by decide) 23 rfl
      have t25 : a.tmps.getD 25 undef = .bool true := hD.sp 3 (by decide) 25 rfl
      have t26 : a.tmps.getD 26 undef = .bool true := hD.sp 4 (by decide) 26 rfl
      have t27 : a.tmps.getD 27 undef = .agg #[.slice A15 n15 c15, .slice A18 n18 c18] := hD.sp 5 (by decide) 27 rfl
      have t28 : a.tmps.getD 28 undef = .int .i64 x := hD.sp 6 (by decide) 28 rfl
      have t29 : a.tmps.getD 29 undef = .bool (inB vs x) := hD.sp 7 (by decide) 29 rfl
      have t30 : a.tmps.getD 30 undef = .agg #[.slice A1 n1 c1, .slice A2 n2 c2] := hD.sp 8 (by decide) 30 rfl
      have t31 : a.tmps.getD 31 undef = .int .i64 x := hD.sp 9 (by decide) 31 rfl
      have t32 : a.tmps.getD 32 undef = .bool (inB vs x) := hD.sp 10 (by decide) 32 rfl
      have t33 : a.tmps.getD 33 undef = .bool true := hD.sp 11 (by decide) 33 rfl
      have t34 : a.tmps.getD 34 undef = .bool true := hD.sp 12 (by decide) 34 rfl
      have t35 : a.tmps.getD 35 undef = .bool true := hD.sp 13 (by decide) 35 rfl
      have t36 : a.tmps.getD 36 undef = .agg #[.slice A15 n15 c15, .slice A18 n18 c18] := hD.sp 14 (by decide) 36 rfl
      have t37 : a.tmps.getD 37 undef = .int .i64 x := hD.sp 15 (by decide) 37 rfl
      have t38 : a.tmps.getD 38 undef = .bool (inB vs x || inB ls x) := hD.sp 16 (by decide) 38 rfl
      have t39 : a.tmps.getD 39 undef = .agg #[.slice A1 n1 c1, .slice A2 n2 c2] := hD.sp 17 (by decide) 39 rfl
      have t40 : a.tmps.getD 40 undef = .int .i64 x := hD.sp 18 (by decide) 40 rfl
      have t41 : a.tmps.getD 41 undef = .bool (inB vs x || inB ls x) := hD.sp 19 (by decide) 41 rfl
      have t42 : a.tmps.getD 42 undef = .bool true := hD.sp 20 (by decide) 42 rfl
      have t43 : a.tmps.getD 43 undef = .bool true := hD.sp 21 (by decide) 43 rfl
      have t7 : a.tmps.getD 7 undef = .bool true := hD.sp 22 (by decide) 7 rfl
      simp only [List.foldl_cons, List.foldl_nil] at hfr
      rw [t22, t23, t25, t26, t27, t28, t29, t30, t31, t32, t33, t34, t35, t36, t37, t38, t39, t40, t41, t42, t43, t7] at hfr
      generalize a.tmps.getD 24 undef = u24 at hfr
      rw [hfr]
      clear hfr hD t22 t23 t25 t26 t27 t28 t29 t30 t31 t32 t33 t34 t35 t36 t37 t38 t39 t40 t41 t42 t43 t7
      have HBW := Kp.mk hbW
      clear hbW
      simp only [Act.put, List.setIfInBounds_toArray, List.set_cons_succ, List.set_cons_zero]
      go_wp2
      clear hz0 hz1 hy0 hy1
      go_loopw [46] (fun i wr => ∃ k : Nat, k ≤ m ∧ i = .int .i64 k ∧ Kp (Below w4.heap.size w4 wr) ∧ Kp (Wr wr w4.heap.size A6 m)) (fun i _ => m - (intOf i).toNat)
      case atStart => exact ⟨0, by omega, rfl, ⟨HB5.it.trans (HBW.it.mono HB5.it.size)⟩, ⟨HWR.it.below HBW.it⟩⟩
      case round =>
        obtain ⟨k, hk, rfl, hB, hWr⟩ := hrel
        by_cases hkm : k < m
        · obtain ⟨g, cur, hA, hge, hh, hcs⟩ := hWr.it (by omega)
          cases hA
          have hd : decide ((k : Int) < (m : Int)) = true := by simp; omega
          have hcell : wr.cell? ⟨g, k, none⟩ = some cur[k] := blk_cell hh (Array.getElem?_eq_getElem (by omega))
          have hfz : wr.frozen? ⟨g, k, none⟩ = false := blk_free hh
          generalize cur[k] = old at hcell
          have HH := Kp.mk hh
          clear hh
          go_wp2
          go_roundw
          case rel => exact ⟨k + 1, by omega, by go_num, ⟨hB.it.setCell hge _⟩, ⟨fun _ => ⟨g, _, rfl, hge, blk_set _ HH.it, by simpa using hcs⟩⟩⟩
          case measure => simp [intOf]; omega
        · obtain rfl : k = m := by omega
          have z0 := (hB.it.cell (p := ⟨w.heap.size, 0, none⟩) HS4.it).trans Z0.it
          have y0 := (hB.it.cell (p := ⟨b5, 0, none⟩) HS5.it).trans Y0.it
          have HC1 := Kp.mk (HBA.it.trans (hB.it.mono HBA.it.size))
          go_wp2_with fail
          refine (equal_gr A15 A1 n15 c15 n1 c1 vs vs wr (HG1.it.below hB.it) (HA.it.below HC1.it)).mono ?_
          rintro e w6 ⟨rfl, hb6⟩
          rw [eqB_refl]
          have hs4 := HS4.it
          have hs5 := HS5.it
          have hsw := hB.it.size
          have z1 := (hb6.cell (p := ⟨w.heap.size, 1, none⟩) (by show w.heap.size < wr.heap.size; omega)).trans ((hB.it.cell (p := ⟨w.heap.size, 1, none⟩) HS4.it).trans Z1.it)
          have y1 := (hb6.cell (p := ⟨b5, 1, none⟩) (by show b5 < wr.heap.size; omega)).trans ((hB.it.cell (p := ⟨b5, 1, none⟩) HS5.it).trans Y1.it)
          have HB6 := Kp.mk hb6
          have HC2 := Kp.mk (HC1.it.trans (hb6.mono HC1.it.size))
          clear hb6 z0 y0
          go_wp2_with fail
          refine (equal_gr A18 A2 n18 c18 n2 c2 ls ls w6 ((HG2.it.below hB.it).below HB6.it) (HB.it.below HC2.it)).mono ?_
          rintro e w7 ⟨rfl, hb7⟩
          rw [eqB_refl]
          have HC3 := Kp.mk (HC2.it.trans (hb7.mono HC2.it.size))
          clear hb7
          go_wp2_with (go_at_call 14; refine (awake_any _).mono ?_; rintro e w' ⟨rfl, hb'⟩)
          go_ret
          exact ⟨rfl, HC3.it.trans (hb'.mono HC3.it.size)⟩
set_option linter.unusedVariables false in
set_option maxRecDepth 100000 in
theorem quorumAsks_lifted (os : Os) (started : os.Started) (H : Type) (enc : TypeId × Value → H) :
    ReturnsInHanded {} Try.checked os 11 .any (Rows.quorumAsksSpec.pre6 enc Try.prog Try.f11 Rows.quorumAsksRow.domain false) (Rows.quorumAsksSpec.post enc Try.prog Try.f11 false true false false) := by
  refine returnsInHanded_of_change_sized (C := Try.checked) (by kernel_rfl) started (by kernel_rfl) Try.func11
    (ChangeSpec.witness6 (enc := enc) (C := Try.checked) false ⟨#[], #[.agg #[.slice none 0 0, .slice none 0 0], .int .i64 0], []⟩ 8 (by kernel_rfl) (by kernel_rfl) (by kernel_rfl) (by kernel_rfl)) ?_
  intro W base args ds gs before hval0 hW hcnd hsz0 _
  have hval : ∀ (j : Nat) t v, Try.f11.params[j]? = some t → args[j]? = some v → Value.okWide Try.prog W .any base t v := hval0
  have hW' := hW
  obtain ⟨p, q, hA0, hV, rfl, hfz, hnd⟩ := hW
  have hA : DataW.TrodAll enc Try.prog W 0 (fun _ => true) true Try.f11.params.toList args.toList ds p := hA0
  have hsz : (DataW.weightsEach Try.prog (Try.f11.params.toList ++ Rows.quorumAsksSpec.plain.varTypes Try.prog) (ds ++ gs)).all (· ≤ reachBytes) = true := hsz0
  rw [Try.params11] at hA hval hsz
  obtain ⟨v0, vs0, d0, ds0, p0, q0, hargs, rfl, rfl, h0, r0⟩ := trodAll_cons hA
  obtain ⟨v1, vs1, d1, ds1, p1, q1, rfl, rfl, rfl, h1, r1⟩ := trodAll_cons r0
  obtain ⟨rfl, rfl, rfl⟩ := trodAll_nil r1
  obtain rfl : args = #[v0, v1] := by cases args; simp_all
  obtain ⟨rfl, rfl⟩ := trodVars_none hV
  have k0 := h0
  have lt0 : ∀ x ∈ p0, x.block < W.heap.size := by obtain ⟨m, hm⟩ := k0; exact DataW.trod_lt m _ _ _ hm
  obtain ⟨A0, n0, c0, B0, m0, e0, vs0', ls0', rfl, ra0, rb0, ea0, eb0⟩ := ro_open2 (hval 0 24 v0 rfl rfl) h0 (fun x hx => by simpa using List.all_eq_true.1 hsz x (DataW.weights_mem_each (j := 0) (t := 24) rfl rfl x hx))
  have k1 := h1
  have lt1 : ∀ x ∈ p1, x.block < W.heap.size := by obtain ⟨m, hm⟩ := k1; exact DataW.trod_lt m _ _ _ hm
  obtain ⟨a1, rfl, rfl, rfl, w1⟩ := open_int Try.underlying3 (hval 1 3 v1 rfl rfl) h1
  clear hA0 hval0 hsz hsz0
  refine (asks_walk _ _ _ _ _ _ _ _ a1 W ra0 rb0 ea0 eb0).mono fun e W' ⟨he, bel⟩ => ?_
  subst he
  exact ⟨_, rfl, _, _, _, [], _, [], hW', trodAll_mk1 (shut_bool Try.underlying4 _), (trodAll_cons_mk (Below.trod (by kernel_rfl) (by kernel_rfl) (of_decide_eq_true (by kernel_rfl)) k0 bel lt0) (trodAll_cons_mk (shut_int Try.underlying3 w1) trodAll_mk0)), rfl, bel.frame _, fun h => by cases h⟩

theorem QuorumAsks_holds : Rows.QuorumAsksSaid :=
  OpenClaim.holds_of_wide 11 Try.f11 rfl rfl rfl rfl rfl rfl rfl ⟨rfl, rfl, rfl, rfl, rfl⟩ rfl rfl rfl rfl rfl (by kernel_rfl) Try.func11 (by kernel_rfl)
    (of_decide_eq_true (by kernel_rfl)) (by unfold Func.isWrapper; first | (rw [if_pos (by decide +kernel)]; kernel_rfl) | (rw [if_neg (by decide +kernel)]; exact ⟨rfl, rfl⟩))
    (fun os started H enc _ => quorumAsks_lifted os started H enc)

end Go.Proofs.Ytbfpdahbmdaenaa
