/-
  QuorumMays: May of any two rosters answers what the reference answers.
-/
import Derived.Test.YtbfpdahbmdaenaaLong
import Derived.Test.YtbfpdahbmdaenaaMays
import Derived.Test.YtbfpdahbmdaenaaRMays
import Derived.Test.YtbfpdahbmdaenaaAwake
import Derived.Test.YtbfpdahbmdaenaaOpen
namespace Go.Proofs.Ytbfpdahbmdaenaa
open Go.ChangeShapes Go.WideShapes Go.ChangeAt Go.RowKit

set_option linter.unusedSimpArgs false in
set_option linter.unusedVariables false in
set_option maxRecDepth 100000 in
set_option maxHeartbeats 4000000 in
theorem mays_walk (A1 A2 : Option Addr) (n1 c1 n2 c2 : Nat) (vs ls : List Int) (A3 A4 : Option Addr) (n3 c3 n4 c4 : Nat) (vs' ls' : List Int) (w : World) (h1 : Rd w A1 n1 vs) (h2 : Rd w A2 n2 ls) (h3 : Rd w A3 n3 vs') (h4 : Rd w A4 n4 ls') : Calls Try.prog 5 #[.agg #[.slice A1 n1 c1, .slice A2 n2 c2], .agg #[.slice A3 n3 c3, .slice A4 n4 c4]] w fun e w' => e = .returned (.bool true) ∧ Below w.heap.size w w' := by
  have HA := Kp.mk h1
  have HB := Kp.mk h2
  have HC := Kp.mk h3
  have HD := Kp.mk h4
  clear h1 h2 h3 h4
  obtain ⟨lg, hl⟩ : ∃ lg, lg = [(A1, n1, c1, A2, n2, c2), (A3, n3, c3, A4, n4, c4)].any lonB := ⟨_, rfl⟩
  have HLON := Kp.mk hl.symm
  clear hl
  cases lg with
  | true =>
    go_enter Try.func5, Try.ntmps5
    go_wp2_with fail
    obtain ⟨w0, hw0⟩ : ∃ w0, w0 = (w.alloc (.cells #[.slice A1 n1 c1, .slice A2 n2 c2] 24)).alloc (.cells #[.slice A3 n3 c3, .slice A4 n4 c4] 24) := ⟨_, rfl⟩
    rw [← hw0]
    have hb0 : Below w.heap.size w w0 := by rw [hw0]; exact ((Below.refl _ _).alloc (Nat.le_refl _) _).alloc (by simp) _
    have hs0 : w.heap.size < w0.heap.size := by rw [hw0]; simp; omega
    have hs1 : w.heap.size + 1 < w0.heap.size := by rw [hw0]; simp
    have hz0 : w0.cell? ⟨w.heap.size, 0, none⟩ = some (.slice A1 n1 c1) := by rw [hw0]; exact blk_cell (blk_old _ (blk_new _ _)) rfl
    have hz1 : w0.cell? ⟨w.heap.size, 1, none⟩ = some (.slice A2 n2 c2) := by rw [hw0]; exact blk_cell (blk_old _ (blk_new _ _)) rfl
    have hz2 : w0.cell? ⟨w.heap.size + 1, 0, none⟩ = some (.slice A3 n3 c3) := by rw [hw0]; exact blk_cell (blk_new1 _ _ _) rfl
    have hz3 : w0.cell? ⟨w.heap.size + 1, 1, none⟩ = some (.slice A4 n4 c4) := by rw [hw0]; exact blk_cell (blk_new1 _ _ _) rfl
    clear hw0
    refine wp_region_sp [.ex (.agg #[.slice A1 n1 c1, .slice A2 n2 c2]), .ex (.agg #[.slice A3 n3 c3, .slice A4 n4 c4]), .ros [(A1, n1, c1, A2, n2, c2), (A3, n3, c3, A4, n4, c4)], .ex (.bool true), .ex (.bool true), .any, .any, .any, .any, .any, .any, .any, .ex (.bool true), .ex (.bool true), .ex (.bool true), .ex (.bool true), .ex (.bool true)] (by kernel_rfl) (by kernel_rfl) ?_ ?_
    · intro i o ho a W hbW hG
      match i with
      | 0 =>
        have ho1 := ho
        cases ho
        have t2 : a.tmps.getD 2 undef = .pointer (some ⟨w.heap.size, 0, none⟩) := hG.old 2 (by decide)
        have z0 := (hbW.cell (p := ⟨w.heap.size, 0, none⟩) hs0).trans hz0
        have z1 := (hbW.cell (p := ⟨w.heap.size, 1, none⟩) hs0).trans hz1
        have z2 := (hbW.cell (p := ⟨w.heap.size + 1, 0, none⟩) hs1).trans hz2
        have z3 := (hbW.cell (p := ⟨w.heap.size + 1, 1, none⟩) hs1).trans hz3
        exact op_value_g (w1 := W) ho1 (wanted_none rfl) (.agg #[.slice A1 n1 c1, .slice A2 n2 c2]) (by simp [go_sem, Act.eval, -Array.getD_eq_getD_getElem?, t2, z0, z1, z2, z3]) (Gr.refl _) rfl
      | 1 =>
        have ho1 := ho
        cases ho
        have t3 : a.tmps.getD 3 undef = .pointer (some ⟨w.heap.size + 1, 0, none⟩) := hG.old 3 (by decide)
        have z0 := (hbW.cell (p := ⟨w.heap.size, 0, none⟩) hs0).trans hz0
        have z1 := (hbW.cell (p := ⟨w.heap.size, 1, none⟩) hs0).trans hz1
        have z2 := (hbW.cell (p := ⟨w.heap.size + 1, 0, none⟩) hs1).trans hz2
        have z3 := (hbW.cell (p := ⟨w.heap.size + 1, 1, none⟩) hs1).trans hz3
        exact op_value_g (w1 := W) ho1 (wanted_none rfl) (.agg #[.slice A3 n3 c3, .slice A4 n4 c4]) (by simp [go_sem, Act.eval, -Array.getD_eq_getD_getElem?, t3, z0, z1, z2, z3]) (Gr.refl _) rfl
      | 2 =>
        have ho1 := ho
        cases ho
        have t5 : a.tmps.getD 5 undef = .agg #[.slice A1 n1 c1, .slice A2 n2 c2] := hG.dep 0 (by decide) 5 rfl
        have t6 : a.tmps.getD 6 undef = .agg #[.slice A3 n3 c3, .slice A4 n4 c4] := hG.dep 1 (by decide) 6 rfl
        exact op_value_g ho1 (wanted_none rfl) (.slice (some ⟨W.heap.size, 0, none⟩) 2 2) (by simp [go_sem, Act.eval, -Array.getD_eq_getD_getElem?, t5, t6]) ((Below.refl _ _).alloc (Nat.le_refl _) _) ⟨_, rfl, ros_new2 W _ _ _ _ _ _ _ _ _ _ _ _⟩
      | 3 =>
        have ho1 := ho
        cases ho
        obtain ⟨b7, t7, g7⟩ : (SpK.ros [(A1, n1, c1, A2, n2, c2), (A3, n3, c3, A4, n4, c4)]).holds (a.tmps.getD 7 undef) W := hG.dep 2 (by decide) 7 rfl
        refine op_call_g ho1 (wanted_none rfl) 17 #[.slice (some ⟨b7, 0, none⟩) 2 2] (by simp [go_sem, Act.eval, -Array.getD_eq_getD_getElem?, t7]) ?_
        refine (long_any b7 2 [(A1, n1, c1, A2, n2, c2), (A3, n3, c3, A4, n4, c4)] W g7 (by simp)).mono ?_
        rintro e W' ⟨rfl, hb'⟩
        exact ⟨_, rfl, hb', by show Value.bool _ = _; rw [HLON.it]⟩
      | 4 =>
        have ho1 := ho
        cases ho
        have t8 : a.tmps.getD 8 undef = .bool true := hG.dep 3 (by decide) 8 rfl
        exact op_value_g (w1 := W) ho1 (wanted_none rfl) (.bool true) (by simp [go_sem, Act.eval, -Array.getD_eq_getD_getElem?, t8]) (Gr.refl _) rfl
      | 5 =>
        have ho1 := ho
        cases ho
        have t2 : a.tmps.getD 2 undef = .pointer (some ⟨w.heap.size, 0, none⟩) := hG.old 2 (by decide)
        have t9 : a.tmps.getD 9 undef = .bool true := hG.dep 4 (by decide) 9 rfl
        exact op_idle ho1 (wanted_no rfl rfl t9) (Gr.refl _) trivial
      | 6 =>
        have ho1 := ho
        cases ho
        have t3 : a.tmps.getD 3 undef = .pointer (some ⟨w.heap.size + 1, 0, none⟩) := hG.old 3 (by decide)
        have t9 : a.tmps.getD 9 undef = .bool true := hG.dep 4 (by decide) 9 rfl
        exact op_idle ho1 (wanted_no rfl rfl t9) (Gr.refl _) trivial
      | 7 =>
        have ho1 := ho
        cases ho
        have t9 : a.tmps.getD 9 undef = .bool true := hG.dep 4 (by decide) 9 rfl
        exact op_idle ho1 (wanted_no rfl rfl t9) (Gr.refl _) trivial
      | 8 =>
        have ho1 := ho
        cases ho
        have t2 : a.tmps.getD 2 undef = .pointer (some ⟨w.heap.size, 0, none⟩) := hG.old 2 (by decide)
        have t9 : a.tmps.getD 9 undef = .bool true := hG.dep 4 (by decide) 9 rfl
        exact op_idle ho1 (wanted_no rfl rfl t9) (Gr.refl _) trivial
      | 9 =>
        have ho1 := ho
        cases ho
        have t3 : a.tmps.getD 3 undef = .pointer (some ⟨w.heap.size + 1, 0, none⟩) := hG.old 3 (by decide)
        have t9 : a.tmps.getD 9 undef = .bool true := hG.dep 4 (by decide) 9 rfl
        exact op_idle ho1 (wanted_no rfl rfl t9) (Gr.refl _) trivial
      | 10 =>
        have ho1 := ho
        cases ho
        have t9 : a.tmps.getD 9 undef = .bool true := hG.dep 4 (by decide) 9 rfl
        exact op_idle ho1 (wanted_no rfl rfl t9) (Gr.refl _) trivial
      | 11 =>
        have ho1 := ho
        cases ho
        have t9 : a.tmps.getD 9 undef = .bool true := hG.dep 4 (by decide) 9 rfl
        exact op_idle ho1 (wanted_no rfl rfl t9) (Gr.refl _) trivial
      | 12 =>
        have ho1 := ho
        cases ho
        have t9 : a.tmps.getD 9 undef = .bool true := hG.dep 4 (by decide) 9 rfl
        exact op_value_g (w1 := W) ho1 (wanted_none rfl) (.bool true) (by simp [go_sem, Act.eval, -Array.getD_eq_getD_getElem?, t9]) (Gr.refl _) rfl
      | 13 =>
        have ho1 := ho
        cases ho
        have t17 : a.tmps.getD 17 undef = .bool true := hG.dep 12 (by decide) 17 rfl
        exact op_value_g (w1 := W) ho1 (wanted_none rfl) (.bool true) (by simp [go_sem, Act.eval, -Array.getD_eq_getD_getElem?, t17]) (Gr.refl _) rfl
      | 14 =>
        have ho1 := ho
        cases ho
        have t18 : a.tmps.getD 18 undef = .bool true := hG.dep 13 (by decide) 18 rfl
        refine op_call_g ho1 (wanted_yes rfl rfl t18) 14 #[] (by simp [go_sem, Act.eval, -Array.getD_eq_getD_getElem?, t18]) ?_
        refine (awake_any W).mono ?_
        rintro e W' ⟨rfl, hb'⟩
        exact ⟨_, rfl, hb', rfl⟩
      | 15 =>
        have ho1 := ho
        cases ho
        have t18 : a.tmps.getD 18 undef = .bool true := hG.dep 13 (by decide) 18 rfl
        have t19 : a.tmps.getD 19 undef = .bool true := hG.dep 14 (by decide) 19 rfl
        exact op_value_g (w1 := W) ho1 (wanted_none rfl) (.bool true) (by simp [go_sem, Act.eval, -Array.getD_eq_getD_getElem?, t18, t19]) (Gr.refl _) rfl
      | 16 =>
        have ho1 := ho
        cases ho
        have t20 : a.tmps.getD 20 undef = .bool true := hG.dep 15 (by decide) 20 rfl
        exact op_value_g (w1 := W) ho1 (wanted_none rfl) (.bool true) (by simp [go_sem, Act.eval, -Array.getD_eq_getD_getElem?, t20]) (Gr.refl _) rfl
      | q + 17 => cases ho
    · intro a W hbW hD
      have hfr := hD.frame [5, 6, 7, 8, 9, 10, 11, 12, 13, 14, 15, 16, 17, 18, 19, 20, 4] (by kernel_rfl)
      have t5 : a.tmps.getD 5 undef = .agg #[.slice A1 n1 c1, .slice A2 n2 c2] := hD.sp 0 (by decide) 5 rfl
      have t6 : a.tmps.getD 6 undef = .agg #[.slice A3 n3 c3, .slice A4 n4 c4] := hD.sp 1 (by decide) 6 rfl
      have t8 : a.tmps.getD 8 undef = .bool true := hD.sp 3 (by decide) 8 rfl
      have t9 : a.tmps.getD 9 undef = .bool true := hD.sp 4 (by decide) 9 rfl
      have t17 : a.tmps.getD 17 undef = .bool true := hD.sp 12 (by decide) 17 rfl
      have t18 : a.tmps.getD 18 undef = .bool true := hD.sp 13 (by decide) 18 rfl
      have t19 : a.tmps.getD 19 undef = .bool true := hD.sp 14 (by decide) 19 rfl
      have t20 : a.tmps.getD 20 undef = .bool true := hD.sp 15 (by decide) 20 rfl
      have t4 : a.tmps.getD 4 undef = .bool true := hD.sp 16 (by decide) 4 rfl
      simp only [List.foldl_cons, List.foldl_nil] at hfr
      rw [t5, t6, t8, t9, t17, t18, t19, t20, t4] at hfr
      generalize a.tmps.getD 7 undef = u7 at hfr
      generalize a.tmps.getD 10 undef = u10 at hfr
      generalize a.tmps.getD 11 undef = u11 at hfr
      generalize a.tmps.getD 12 undef = u12 at hfr
      generalize a.tmps.getD 13 undef = u13 at hfr
      generalize a.tmps.getD 14 undef = u14 at hfr
      generalize a.tmps.getD 15 undef = u15 at hfr
      generalize a.tmps.getD 16 undef = u16 at hfr
      rw [hfr]
      clear hfr hD t5 t6 t8 t9 t17 t18 t19 t20 t4
      have HBW := Kp.mk hbW
      clear hbW
      simp only [Act.put, List.setIfInBounds_toArray, List.set_cons_succ, List.set_cons_zero]
      go_wp2
      go_ret
      exact ⟨rfl, hb0.trans (HBW.it.mono hb0.size)⟩
  | false =>
    go_enter Try.func5, Try.ntmps5
    go_wp2_with fail
    obtain ⟨w0, hw0⟩ : ∃ w0, w0 = (w.alloc (.cells #[.slice A1 n1 c1, .slice A2 n2 c2] 24)).alloc (.cells #[.slice A3 n3 c3, .slice A4 n4 c4] 24) := ⟨_, rfl⟩
    rw [← hw0]
    have hb0 : Below w.heap.size w w0 := by rw [hw0]; exact ((Below.refl _ _).alloc (Nat.le_refl _) _).alloc (by simp) _
    have hs0 : w.heap.size < w0.heap.size := by rw [hw0]; simp; omega
    have hs1 : w.heap.size + 1 < w0.heap.size := by rw [hw0]; simp
    have hz0 : w0.cell? ⟨w.heap.size, 0, none⟩ = some (.slice A1 n1 c1) := by rw [hw0]; exact blk_cell (blk_old _ (blk_new _ _)) rfl
    have hz1 : w0.cell? ⟨w.heap.size, 1, none⟩ = some (.slice A2 n2 c2) := by rw [hw0]; exact blk_cell (blk_old _ (blk_new _ _)) rfl
    have hz2 : w0.cell? ⟨w.heap.size + 1, 0, none⟩ = some (.slice A3 n3 c3) := by rw [hw0]; exact blk_cell (blk_new1 _ _ _) rfl
    have hz3 : w0.cell? ⟨w.heap.size + 1, 1, none⟩ = some (.slice A4 n4 c4) := by rw [hw0]; exact blk_cell (blk_new1 _ _ _) rfl
    clear hw0
    refine wp_region_sp [.ex (.agg #[.slice A1 n1 c1, .slice A2 n2 c2]), .ex (.agg #[.slice A3 n3 c3, .slice A4 n4 c4]), .ros [(A1, n1, c1, A2, n2, c2), (A3, n3, c3, A4, n4, c4)], .ex (.bool false), .ex (.bool false), .ex (.agg #[.slice A1 n1 c1, .slice A2 n2 c2]), .ex (.agg #[.slice A3 n3 c3, .slice A4 n4 c4]), .ex (.int .i64 (errM vs ls vs' ls')), .ex (.agg #[.slice A1 n1 c1, .slice A2 n2 c2]), .ex (.agg #[.slice A3 n3 c3, .slice A4 n4 c4]), .ex (.int .i64 (errM vs ls vs' ls')), .ex (.bool true), .ex (.bool true), .ex (.bool true), .ex (.bool true), .ex (.bool true), .ex (.bool true)] (by kernel_rfl) (by kernel_rfl) ?_ ?_
    · intro i o ho a W hbW hG
      match i with
      | 0 =>
        have ho1 := ho
        cases ho
        have t2 : a.tmps.getD 2 undef = .pointer (some ⟨w.heap.size, 0, none⟩) := hG.old 2 (by decide)
        have z0 := (hbW.cell (p := ⟨w.heap.size, 0, none⟩) hs0).trans hz0
        have z1 := (hbW.cell (p := ⟨w.heap.size, 1, none⟩) hs0).trans hz1
        have z2 := (hbW.cell (p := ⟨w.heap.size + 1, 0, none⟩) hs1).trans hz2
        have z3 := (hbW.cell (p := ⟨w.heap.size + 1, 1, none⟩) hs1).trans hz3
        exact op_value_g (w1 := W) ho1 (wanted_none rfl) (.agg #[.slice A1 n1 c1, .slice A2 n2 c2]) (by simp [go_sem, Act.eval, -Array.getD_eq_getD_getElem?, t2, z0, z1, z2, z3]) (Gr.refl _) rfl
      | 1 =>
        have ho1 := ho
        cases ho
        have t3 : a.tmps.getD 3 undef = .pointer (some ⟨w.heap.size + 1, 0, none⟩) := hG.old 3 (by decide)
        have z0 := (hbW.cell (p := ⟨w.heap.size, 0, none⟩) hs0).trans hz0
        have z1 := (hbW.cell (p := ⟨w.heap.size, 1, none⟩) hs0).trans hz1
        have z2 := (hbW.cell (p := ⟨w.heap.size + 1, 0, none⟩) hs1).trans hz2
        have z3 := (hbW.cell (p := ⟨w.heap.size + 1, 1, none⟩) hs1).trans hz3
        exact op_value_g (w1 := W) ho1 (wanted_none rfl) (.agg #[.slice A3 n3 c3, .slice A4 n4 c4]) (by simp [go_sem, Act.eval, -Array.getD_eq_getD_getElem?, t3, z0, z1, z2, z3]) (Gr.refl _) rfl
      | 2 =>
        have ho1 := ho
        cases ho
        have t5 : a.tmps.getD 5 undef = .agg #[.slice A1 n1 c1, .slice A2 n2 c2] := hG.dep 0 (by decide) 5 rfl
        have t6 : a.tmps.getD 6 undef = .agg #[.slice A3 n3 c3, .slice A4 n4 c4] := hG.dep 1 (by decide) 6 rfl
        exact op_value_g ho1 (wanted_none rfl) (.slice (some ⟨W.heap.size, 0, none⟩) 2 2) (by simp [go_sem, Act.eval, -Array.getD_eq_getD_getElem?, t5, t6]) ((Below.refl _ _).alloc (Nat.le_refl _) _) ⟨_, rfl, ros_new2 W _ _ _ _ _ _ _ _ _ _ _ _⟩
      | 3 =>
        have ho1 := ho
        cases ho
        obtain ⟨b7, t7, g7⟩ : (SpK.ros [(A1, n1, c1, A2, n2, c2), (A3, n3, c3, A4, n4, c4)]).holds (a.tmps.getD 7 undef) W := hG.dep 2 (by decide) 7 rfl
        refine op_call_g ho1 (wanted_none rfl) 17 #[.slice (some ⟨b7, 0, none⟩) 2 2] (by simp [go_sem, Act.eval, -Array.getD_eq_getD_getElem?, t7]) ?_
        refine (long_any b7 2 [(A1, n1, c1, A2, n2, c2), (A3, n3, c3, A4, n4, c4)] W g7 (by simp)).mono ?_
        rintro e W' ⟨rfl, hb'⟩
        exact ⟨_, rfl, hb', by show Value.bool _ = _; rw [HLON.it]⟩
      | 4 =>
        have ho1 := ho
        cases ho
        have t8 : a.tmps.getD 8 undef = .bool false := hG.dep 3 (by decide) 8 rfl
        exact op_value_g (w1 := W) ho1 (wanted_none rfl) (.bool false) (by simp [go_sem, Act.eval, -Array.getD_eq_getD_getElem?, t8]) (Gr.refl _) rfl
      | 5 =>
        have ho1 := ho
        cases ho
        have t2 : a.tmps.getD 2 undef = .pointer (some ⟨w.heap.size, 0, none⟩) := hG.old 2 (by decide)
        have t9 : a.tmps.getD 9 undef = .bool false := hG.dep 4 (by decide) 9 rfl
        have z0 := (hbW.cell (p := ⟨w.heap.size, 0, none⟩) hs0).trans hz0
        have z1 := (hbW.cell (p := ⟨w.heap.size, 1, none⟩) hs0).trans hz1
        have z2 := (hbW.cell (p := ⟨w.heap.size + 1, 0, none⟩) hs1).trans hz2
        have z3 := (hbW.cell (p := ⟨w.heap.size + 1, 1, none⟩) hs1).trans hz3
        exact op_value_g (w1 := W) ho1 (wanted_yes rfl rfl t9) (.agg #[.slice A1 n1 c1, .slice A2 n2 c2]) (by simp [go_sem, Act.eval, -Array.getD_eq_getD_getElem?, t2, t9, z0, z1, z2, z3]) (Gr.refl _) rfl
      | 6 =>
        have ho1 := ho
        cases ho
        have t3 : a.tmps.getD 3 undef = .pointer (some ⟨w.heap.size + 1, 0, none⟩) := hG.old 3 (by decide)
        have t9 : a.tmps.getD 9 undef = .bool false := hG.dep 4 (by decide) 9 rfl
        have z0 := (hbW.cell (p := ⟨w.heap.size, 0, none⟩) hs0).trans hz0
        have z1 := (hbW.cell (p := ⟨w.heap.size, 1, none⟩) hs0).trans hz1
        have z2 := (hbW.cell (p := ⟨w.heap.size + 1, 0, none⟩) hs1).trans hz2
        have z3 := (hbW.cell (p := ⟨w.heap.size + 1, 1, none⟩) hs1).trans hz3
        exact op_value_g (w1 := W) ho1 (wanted_yes rfl rfl t9) (.agg #[.slice A3 n3 c3, .slice A4 n4 c4]) (by simp [go_sem, Act.eval, -Array.getD_eq_getD_getElem?, t3, t9, z0, z1, z2, z3]) (Gr.refl _) rfl
      | 7 =>
        have ho1 := ho
        cases ho
        have t10 : a.tmps.getD 10 undef = .agg #[.slice A1 n1 c1, .slice A2 n2 c2] := hG.dep 5 (by decide) 10 rfl
        have t11 : a.tmps.getD 11 undef = .agg #[.slice A3 n3 c3, .slice A4 n4 c4] := hG.dep 6 (by decide) 11 rfl
        have t9 : a.tmps.getD 9 undef = .bool false := hG.dep 4 (by decide) 9 rfl
        refine op_call_g ho1 (wanted_yes rfl rfl t9) 19 #[.agg #[.slice A1 n1 c1, .slice A2 n2 c2], .agg #[.slice A3 n3 c3, .slice A4 n4 c4]] (by simp [go_sem, Act.eval, -Array.getD_eq_getD_getElem?, t10, t11, t9]) ?_
        refine (may_any _ _ _ _ _ _ vs ls _ _ _ _ _ _ vs' ls' W (HA.it.below (hb0.trans (hbW.mono hb0.size))) (HB.it.below (hb0.trans (hbW.mono hb0.size))) (HC.it.below (hb0.trans (hbW.mono hb0.size))) (HD.it.below (hb0.trans (hbW.mono hb0.size)))).mono ?_
        rintro e W' ⟨rfl, hb'⟩
        exact ⟨_, rfl, hb', rfl⟩
      | 8 =>
        have ho1 := ho
        cases ho
        have t2 : a.tmps.getD 2 undef = .pointer (some ⟨w.heap.size, 0, none⟩) := hG.old 2 (by decide)
        have t9 : a.tmps.getD 9 undef = .bool false := hG.dep 4 (by decide) 9 rfl
        have z0 := (hbW.cell (p := ⟨w.heap.size, 0, none⟩) hs0).trans hz0
        have z1 := (hbW.cell (p := ⟨w.heap.size, 1, none⟩) hs0).trans hz1
        have z2 := (hbW.cell (p := ⟨w.heap.size + 1, 0, none⟩) hs1).trans hz2
        have z3 := (hbW.cell (p := ⟨w.heap.size + 1, 1, none⟩) hs1).trans hz3
        exact op_value_g (w1 := W) ho1 (wanted_yes rfl rfl t9) (.agg #[.slice A1 n1 c1, .slice A2 n2 c2]) (by simp [go_sem, Act.eval, -Array.getD_eq_getD_getElem?, t2, t9, z0, z1, z2, z3]) (Gr.refl _) rfl
      | 9 =>
        have ho1 := ho
        cases ho
        have t3 : a.tmps.getD 3 undef = .pointer (some ⟨w.heap.size + 1, 0, none⟩) := hG.old 3 (by decide)
        have t9 : a.tmps.getD 9 undef = .bool false := hG.dep 4 (by decide) 9 rfl
        have z0 := (hbW.cell (p := ⟨w.heap.size, 0, none⟩) hs0).trans hz0
        have z1 := (hbW.cell (p := ⟨w.heap.size, 1, none⟩) hs0).trans hz1
        have z2 := (hbW.cell (p := ⟨w.heap.size + 1, 0, none⟩) hs1).trans hz2
        have z3 := (hbW.cell (p := ⟨w.heap.size + 1, 1, none⟩) hs1).trans hz3
        exact op_value_g (w1 := W) ho1 (wanted_yes rfl rfl t9) (.agg #[.slice A3 n3 c3, .slice A4 n4 c4]) (by simp [go_sem, Act.eval, -Array.getD_eq_getD_getElem?, t3, t9, z0, z1, z2, z3]) (Gr.refl _) rfl
      | 10 =>
        have ho1 := ho
        cases ho
        have t13 : a.tmps.getD 13 undef = .agg #[.slice A1 n1 c1, .slice A2 n2 c2] := hG.dep 8 (by decide) 13 rfl
        have t14 : a.tmps.getD 14 undef = .agg #[.slice A3 n3 c3, .slice A4 n4 c4] := hG.dep 9 (by decide) 14 rfl
        have t9 : a.tmps.getD 9 undef = .bool false := hG.dep 4 (by decide) 9 rfl
        refine op_call_g ho1 (wanted_yes rfl rfl t9) 20 #[.agg #[.slice A1 n1 c1, .slice A2 n2 c2], .agg #[.slice A3 n3 c3, .slice A4 n4 c4]] (by simp [go_sem, Act.eval, -Array.getD_eq_getD_getElem?, t13, t14, t9]) ?_
        refine (rmay_any _ _ _ _ _ _ vs ls _ _ _ _ _ _ vs' ls' W (HA.it.below (hb0.trans (hbW.mono hb0.size))) (HB.it.below (hb0.trans (hbW.mono hb0.size))) (HC.it.below (hb0.trans (hbW.mono hb0.size))) (HD.it.below (hb0.trans (hbW.mono hb0.size)))).mono ?_
        rintro e W' ⟨rfl, hb'⟩
        exact ⟨_, rfl, hb', rfl⟩
      | 11 =>
        have ho1 := ho
        cases ho
        have t12 : a.tmps.getD 12 undef = .int .i64 (errM vs ls vs' ls') := hG.dep 7 (by decide) 12 rfl
        have t15 : a.tmps.getD 15 undef = .int .i64 (errM vs ls vs' ls') := hG.dep 10 (by decide) 15 rfl
        have t9 : a.tmps.getD 9 undef = .bool false := hG.dep 4 (by decide) 9 rfl
        exact op_value_g (w1 := W) ho1 (wanted_yes rfl rfl t9) (.bool true) (by simp [go_sem, Act.eval, -Array.getD_eq_getD_getElem?, t12, t15, t9]) (Gr.refl _) rfl
      | 12 =>
        have ho1 := ho
        cases ho
        have t9 : a.tmps.getD 9 undef = .bool false := hG.dep 4 (by decide) 9 rfl
        have t16 : a.tmps.getD 16 undef = .bool true := hG.dep 11 (by decide) 16 rfl
        exact op_value_g (w1 := W) ho1 (wanted_none rfl) (.bool true) (by simp [go_sem, Act.eval, -Array.getD_eq_getD_getElem?, t9, t16]) (Gr.refl _) rfl
      | 13 =>
        have ho1 := ho
        cases ho
        have t17 : a.tmps.getD 17 undef = .bool true := hG.dep 12 (by decide) 17 rfl
        exact op_value_g (w1 := W) ho1 (wanted_none rfl) (.bool true) (by simp [go_sem, Act.eval, -Array.getD_eq_getD_getElem?, t17]) (Gr.refl _) rfl
      | 14 =>
        have ho1 := ho
        cases ho
        have t18 : a.tmps.getD 18 undef = .bool true := hG.dep 13 (by decide) 18 rfl
        refine op_call_g ho1 (wanted_yes rfl rfl t18) 14 #[] (by simp [go_sem, Act.eval, -Array.getD_eq_getD_getElem?, t18]) ?_
        refine (awake_any W).mono ?_
        rintro e W' ⟨rfl, hb'⟩
        exact ⟨_, rfl, hb', rfl⟩
      | 15 =>
        have ho1 := ho
        cases ho
        have t18 : a.tmps.getD 18 undef = .bool true := hG.dep 13 (by decide) 18 rfl
        have t19 : a.tmps.getD 19 undef = .bool true := hG.dep 14 (by decide) 19 rfl
        exact op_value_g (w1 := W) ho1 (wanted_none rfl) (.bool true) (by simp [go_sem, Act.eval, -Array.getD_eq_getD_getElem?, t18, t19]) (Gr.refl _) rfl
      | 16 =>
        have ho1 := ho
        cases ho
        have t20 : a.tmps.getD 20 undef = .bool true := hG.dep 15 (by decide) 20 rfl
        exact op_value_g (w1 := W) ho1 (wanted_none rfl) (.bool true) (by simp [go_sem, Act.eval, -Array.getD_eq_getD_getElem?, t20]) (Gr.refl _) rfl
      | q + 17 => cases ho
    · intro a W hbW hD
      have hfr := hD.frame [5, 6, 7, 8, 9, 10, 11, 12, 13, 14, 15, 16, 17, 18, 19, 20, 4] (by kernel_rfl)
      have t5 : a.tmps.getD 5 undef = .agg #[.slice A1 n1 c1, .slice A2 n2 c2] := hD.sp 0 (by decide) 5 rfl
      have t6 : a.tmps.getD 6 undef = .agg #[.slice A3 n3 c3, .slice A4 n4 c4] := hD.sp 1 (by decide) 6 rfl
      have t8 : a.tmps.getD 8 undef = .bool false := hD.sp 3 (by decide) 8 rfl
      have t9 : a.tmps.getD 9 undef = .bool false := hD.sp 4 (by decide) 9 rfl
      have t10 : a.tmps.getD 10 undef = .agg #[.slice A1 n1 c1, .slice A2 n2 c2] := hD.sp 5 (by decide) 10 rfl
      have t11 : a.tmps.getD 11 undef = .agg #[.slice A3 n3 c3, .slice A4 n4 c4] := hD.sp 6 (by decide) 11 rfl
      have t12 : a.tmps.getD 12 undef = .int .i64 (errM vs ls vs' ls') := hD.sp 7 (by decide) 12 rfl
      have t13 : a.tmps.getD 13 undef = .agg #[.slice A1 n1 c1, .slice A2 n2 c2] := hD.sp 8 (by decide) 13 rfl
      have t14 : a.tmps.getD 14 undef = .agg #[.slice A3 n3 c3, .slice A4 n4 c4] := hD.sp 9 (by decide) 14 rfl
      have t15 : a.tmps.getD 15 undef = .int .i64 (errM vs ls vs' ls') := hD.sp 10 (by decide) 15 rfl
      have t16 : a.tmps.getD 16 undef = .bool true := hD.sp 11 (by decide) 16 rfl
      have t17 : a.tmps.getD 17 undef = .bool true := hD.sp 12 (by decide) 17 rfl
      have t18 : a.tmps.getD 18 undef = .bool true := hD.sp 13 (by decide) 18 rfl
      have t19 : a.tmps.getD 19 undef = .bool true := hD.sp 14 (by decide) 19 rfl
      have t20 : a.tmps.getD 20 undef = .bool true := hD.sp 15 (by decide) 20 rfl
      have t4 : a.tmps.getD 4 undef = .bool true := hD.sp 16 (by decide) 4 rfl
      simp only [List.foldl_cons, List.foldl_nil] at hfr
      rw [t5, t6, t8, t9, t10, t11, t12, t13, t14, t15, t16, t17, t18, t19, t20, t4] at hfr
      generalize a.tmps.getD 7 undef = u7 at hfr
      rw [hfr]
      clear hfr hD t5 t6 t8 t9 t10 t11 t12 t13 t14 t15 t16 t17 t18 t19 t20 t4
      have HBW := Kp.mk hbW
      clear hbW
      simp only [Act.put, List.setIfInBounds_toArray, List.set_cons_succ, List.set_cons_zero]
      go_wp2
      go_ret
      exact ⟨rfl, hb0.trans (HBW.it.mono hb0.size)⟩

set_option linter.unusedVariables false in
set_option maxRecDepth 100000 in
theorem quorumMays_lifted (os : Os) (started : os.Started) (H : Type) (enc : TypeId × Value → H) :
    ReturnsInHanded {} Try.checked os 5 .any (Rows.quorumMaysSpec.pre6 enc Try.prog Try.f5 Rows.quorumMaysRow.domain false) (Rows.quorumMaysSpec.post enc Try.prog Try.f5 false true false false) := by
  refine returnsInHanded_of_change_sized (C := Try.checked) (by kernel_rfl) started (by kernel_rfl) Try.func5
    (ChangeSpec.witness6 (enc := enc) (C := Try.checked) false ⟨#[], #[.agg #[.slice none 0 0, .slice none 0 0], .agg #[.slice none 0 0, .slice none 0 0]], []⟩ 8 (by kernel_rfl) (by kernel_rfl) (by kernel_rfl) (by kernel_rfl)) ?_
  intro W base args ds gs before hval0 hW hcnd hsz0 _
  have hval : ∀ (j : Nat) t v, Try.f5.params[j]? = some t → args[j]? = some v → Value.okWide Try.prog W .any base t v := hval0
  have hW' := hW
  obtain ⟨p, q, hA0, hV, rfl, hfz, hnd⟩ := hW
  have hA : DataW.TrodAll enc Try.prog W 0 (fun _ => true) true Try.f5.params.toList args.toList ds p := hA0
  have hsz : (DataW.weightsEach Try.prog (Try.f5.params.toList ++ Rows.quorumMaysSpec.plain.varTypes Try.prog) (ds ++ gs)).all (· ≤ reachBytes) = true := hsz0
  rw [Try.params5] at hA hval hsz
  obtain ⟨v0, vs0, d0, ds0, p0, q0, hargs, rfl, rfl, h0, r0⟩ := trodAll_cons hA
  obtain ⟨v1, vs1, d1, ds1, p1, q1, rfl, rfl, rfl, h1, r1⟩ := trodAll_cons r0
  obtain ⟨rfl, rfl, rfl⟩ := trodAll_nil r1
  obtain rfl : args = #[v0, v1] := by cases args; simp_all
  obtain ⟨rfl, rfl⟩ := trodVars_none hV
  have k0 := h0
  have lt0 : ∀ x ∈ p0, x.block < W.heap.size := by obtain ⟨m, hm⟩ := k0; exact DataW.trod_lt m _ _ _ hm
  obtain ⟨A0, n0, c0, B0, m0, e0, vs0', ls0', rfl, ra0, rb0⟩ := ro_open (hval 0 24 v0 rfl rfl) h0 (fun x hx => by simpa using List.all_eq_true.1 hsz x (DataW.weights_mem_each (j := 0) (t := 24) rfl rfl x hx))
  have k1 := h1
  have lt1 : ∀ x ∈ p1, x.block < W.heap.size := by obtain ⟨m, hm⟩ := k1; exact DataW.trod_lt m _ _ _ hm
  obtain ⟨A1, n1, c1, B1, m1, e1, vs1', ls1', rfl, ra1, rb1⟩ := ro_open (hval 1 24 v1 rfl rfl) h1 (fun x hx => by simpa using List.all_eq_true.1 hsz x (DataW.weights_mem_each (j := 1) (t := 24) rfl rfl x hx))
  clear hA0 hval0 hsz hsz0
  refine (mays_walk _ _ _ _ _ _ _ _ _ _ _ _ _ _ _ _ W ra0 rb0 ra1 rb1).mono fun e W' ⟨he, bel⟩ => ?_
  subst he
  exact ⟨_, rfl, _, _, _, [], _, [], hW', trodAll_mk1 (shut_bool Try.underlying4 _), (trodAll_cons_mk (Below.trod (by kernel_rfl) (by kernel_rfl) (of_decide_eq_true (by kernel_rfl)) k0 bel lt0) (trodAll_cons_mk (Below.trod (by kernel_rfl) (by kernel_rfl) (of_decide_eq_true (by kernel_rfl)) k1 bel lt1) trodAll_mk0)), rfl, bel.frame _, fun h => by cases h⟩

theorem QuorumMays_holds : Rows.QuorumMaysSaid :=
  OpenClaim.holds_of_wide 5 Try.f5 rfl rfl rfl rfl rfl rfl rfl ⟨rfl, rfl, rfl, rfl, rfl⟩ rfl rfl rfl rfl rfl (by kernel_rfl) Try.func5 (by kernel_rfl)
    (of_decide_eq_true (by kernel_rfl)) (by unfold Func.isWrapper; first | (rw [if_pos (by decide +kernel)]; kernel_rfl) | (rw [if_neg (by decide +kernel)]; exact ⟨rfl, rfl⟩))
    (fun os started H enc _ => quorumMays_lifted os started H enc)

end Go.Proofs.Ytbfpdahbmdaenaa
