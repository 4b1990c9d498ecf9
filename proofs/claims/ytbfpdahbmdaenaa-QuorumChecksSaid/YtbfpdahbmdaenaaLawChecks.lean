/-
  QuorumChecks: Check of any roster answers what the reference answers.
-/
import Derived.Test.YtbfpdahbmdaenaaLong
import Derived.Test.YtbfpdahbmdaenaaMay
import Derived.Test.YtbfpdahbmdaenaaAwake
import Derived.Test.YtbfpdahbmdaenaaOpen
namespace Go.Proofs.Ytbfpdahbmdaenaa
open Go.ChangeShapes Go.WideShapes Go.ChangeAt Go.RowKit

set_option linter.unusedSimpArgs false in
set_option linter.unusedVariables false in
set_option maxRecDepth 100000 in
set_option maxHeartbeats 4000000 in
theorem checks_walk (A1 A2 : Option Addr) (n1 c1 n2 c2 : Nat) (vs ls : List Int) (w : World) (h1 : Rd w A1 n1 vs) (h2 : Rd w A2 n2 ls) : Calls Try.prog 4 #[.agg #[.slice A1 n1 c1, .slice A2 n2 c2]] w fun e w' => e = .returned (.bool true) ∧ Below w.heap.size w w' := by
  have hb0 : Below w.heap.size w (w.alloc (.cells #[.slice A1 n1 c1, .slice A2 n2 c2] 24)) := (Below.refl _ _).alloc (Nat.le_refl _) _
  have HA := Kp.mk h1
  have HB := Kp.mk h2
  clear h1 h2
  cases hl : lon n1 n2 with
  | true =>
    have HLON : Kp ([(A1, n1, c1, A2, n2, c2)].any lonB = true) := ⟨by simp [lonB, hl]⟩
    clear hl
    go_enter Try.func4, Try.ntmps4
    go_wp2_with fail
    refine wp_region_sp [.ex (.agg #[.slice A1 n1 c1, .slice A2 n2 c2]), .ros [(A1, n1, c1, A2, n2, c2)], .ex (.bool true), .ex (.bool true), .any, .any, .any, .any, .any, .ex (.bool true), .ex (.bool true), .ex (.bool true), .ex (.bool true), .ex (.bool true)] (by kernel_rfl) (by kernel_rfl) ?_ ?_
    · intro i o ho a W hbW hG
      match i with
      | 0 =>
        have ho1 := ho
        cases ho
        have t1 : a.tmps.getD 1 undef = .pointer (some ⟨w.heap.size, 0, none⟩) := hG.old 1 (by decide)
        have z0 : W.cell? ⟨w.heap.size, 0, none⟩ = some (.slice A1 n1 c1) := (hbW.cell (p := ⟨w.heap.size, 0, none⟩) (by simp)).trans (blk_cell (blk_new _ _) rfl)
        have z1 : W.cell? ⟨w.heap.size, 1, none⟩ = some (.slice A2 n2 c2) := (hbW.cell (p := ⟨w.heap.size, 1, none⟩) (by simp)).trans (blk_cell (blk_new _ _) rfl)
        exact op_value_g (w1 := W) ho1 (wanted_none rfl) (.agg #[.slice A1 n1 c1, .slice A2 n2 c2]) (by simp [go_sem, Act.eval, -Array.getD_eq_getD_getElem?, t1, z0, z1]) (Gr.refl _) rfl
      | 1 =>
        have ho1 := ho
        cases ho
        have t3 : a.tmps.getD 3 undef = .agg #[.slice A1 n1 c1, .slice A2 n2 c2] := hG.dep 0 (by decide) 3 rfl
        exact op_value_g ho1 (wanted_none rfl) (.slice (some ⟨W.heap.size, 0, none⟩) 1 1) (by simp [go_sem, Act.eval, -Array.getD_eq_getD_getElem?, t3]) ((Below.refl _ _).alloc (Nat.le_refl _) _) ⟨_, rfl, ros_new1 W _ _ _ _ _ _⟩
      | 2 =>
        have ho1 := ho
        cases ho
        obtain ⟨b4, t4, g4⟩ : (SpK.ros [(A1, n1, c1, A2, n2, c2)]).holds (a.tmps.getD 4 undef) W := hG.dep 1 (by decide) 4 rfl
        refine op_call_g ho1 (wanted_none rfl) 17 #[.slice (some ⟨b4, 0, none⟩) 1 1] (by simp [go_sem, Act.eval, -Array.getD_eq_getD_getElem?, t4]) ?_
        refine (long_any b4 1 [(A1, n1, c1, A2, n2, c2)] W g4 (by simp)).mono ?_
        rintro e W' ⟨rfl, hb'⟩
        exact ⟨_, rfl, hb', by show Value.bool _ = _; rw [HLON.it]⟩
      | 3 =>
        have ho1 := ho
        cases ho
        have t5 : a.tmps.getD 5 undef = .bool true := hG.dep 2 (by decide) 5 rfl
        exact op_value_g (w1 := W) ho1 (wanted_none rfl) (.bool true) (by simp [go_sem, Act.eval, -Array.getD_eq_getD_getElem?, t5]) (Gr.refl _) rfl
      | 4 =>
        have ho1 := ho
        cases ho
        have t1 : a.tmps.getD 1 undef = .pointer (some ⟨w.heap.size, 0, none⟩) := hG.old 1 (by decide)
        have t6 : a.tmps.getD 6 undef = .bool true := hG.dep 3 (by decide) 6 rfl
        exact op_idle ho1 (wanted_no rfl rfl t6) (Gr.refl _) trivial
      | 5 =>
        have ho1 := ho
        cases ho
        have t6 : a.tmps.getD 6 undef = .bool true := hG.dep 3 (by decide) 6 rfl
        exact op_idle ho1 (wanted_no rfl rfl t6) (Gr.refl _) trivial
      | 6 =>
        have ho1 := ho
        cases ho
        have t1 : a.tmps.getD 1 undef = .pointer (some ⟨w.heap.size, 0, none⟩) := hG.old 1 (by decide)
        have t6 : a.tmps.getD 6 undef = .bool true := hG.dep 3 (by decide) 6 rfl
        exact op_idle ho1 (wanted_no rfl rfl t6) (Gr.refl _) trivial
      | 7 =>
        have ho1 := ho
        cases ho
        have t6 : a.tmps.getD 6 undef = .bool true := hG.dep 3 (by decide) 6 rfl
        exact op_idle ho1 (wanted_no rfl rfl t6) (Gr.refl _) trivial
      | 8 =>
        have ho1 := ho
        cases ho
        have t6 : a.tmps.getD 6 undef = .bool true := hG.dep 3 (by decide) 6 rfl
        exact op_idle ho1 (wanted_no rfl rfl t6) (Gr.refl _) trivial
      | 9 =>
        have ho1 := ho
        cases ho
        have t6 : a.tmps.getD 6 undef = .bool true := hG.dep 3 (by decide) 6 rfl
        exact op_value_g (w1 := W) ho1 (wanted_none rfl) (.bool true) (by simp [go_sem, Act.eval, -Array.getD_eq_getD_getElem?, t6]) (Gr.refl _) rfl
      | 10 =>
        have ho1 := ho
        cases ho
        have t12 : a.tmps.getD 12 undef = .bool true := hG.dep 9 (by decide) 12 rfl
        exact op_value_g (w1 := W) ho1 (wanted_none rfl) (.bool true) (by simp [go_sem, Act.eval, -Array.getD_eq_getD_getElem?, t12]) (Gr.refl _) rfl
      | 11 =>
        have ho1 := ho
        cases ho
        have t13 : a.tmps.getD 13 undef = .bool true := hG.dep 10 (by decide) 13 rfl
        refine op_call_g ho1 (wanted_yes rfl rfl t13) 14 #[] (by simp [go_sem, Act.eval, -Array.getD_eq_getD_getElem?, t13]) ?_
        refine (awake_any W).mono ?_
        rintro e W' ⟨rfl, hb'⟩
        exact ⟨_, rfl, hb', rfl⟩
      | 12 =>
        have ho1 := ho
        cases ho
        have t13 : a.tmps.getD 13 undef = .bool true := hG.dep 10 (by decide) 13 rfl
        have t14 : a.tmps.getD 14 undef = .bool true := hG.dep 11 (by decide) 14 rfl
        exact op_value_g (w1 := W) ho1 (wanted_none rfl) (.bool true) (by simp [go_sem, Act.eval, -Array.getD_eq_getD_getElem?, t13, t14]) (Gr.refl _) rfl
      | 13 =>
        have ho1 := ho
        cases ho
        have t15 : a.tmps.getD 15 undef = .bool true := hG.dep 12 (by decide) 15 rfl
        exact op_value_g (w1 := W) ho1 (wanted_none rfl) (.bool true) (by simp [go_sem, Act.eval, -Array.getD_eq_getD_getElem?, t15]) (Gr.refl _) rfl
      | q + 14 => cases ho
    · intro a W hbW hD
      have hfr := hD.frame [3, 4, 5, 6, 7, 8, 9, 10, 11, 12, 13, 14, 15, 2] (by kernel_rfl)
      have t3 : a.tmps.getD 3 undef = .agg #[.slice A1 n1 c1, .slice A2 n2 c2] := hD.sp 0 (by decide) 3 rfl
      have t5 : a.tmps.getD 5 undef = .bool true := hD.sp 2 (by decide) 5 rfl
      have t6 : a.tmps.getD 6 undef = .bool true := hD.sp 3 (by decide) 6 rfl
      have t12 : a.tmps.getD 12 undef = .bool true := hD.sp 9 (by decide) 12 rfl
      have t13 : a.tmps.getD 13 undef = .bool true := hD.sp 10 (by decide) 13 rfl
      have t14 : a.tmps.getD 14 undef = .bool true := hD.sp 11 (by decide) 14 rfl
      have t15 : a.tmps.getD 15 undef = .bool true := hD.sp 12 (by decide) 15 rfl
      have t2 : a.tmps.getD 2 undef = .bool true := hD.sp 13 (by decide) 2 rfl
      simp only [List.foldl_cons, List.foldl_nil] at hfr
      rw [t3, t5, t6, t12, t13, t14, t15, t2] at hfr
      generalize a.tmps.getD 4 undef = u4 at hfr
      generalize a.tmps.getD 7 undef = u7 at hfr
      generalize a.tmps.getD 8 undef = u8 at hfr
      generalize a.tmps.getD 9 undef = u9 at hfr
      generalize a.tmps.getD 10 undef = u10 at hfr
      generalize a.tmps.getD 11 undef = u11 at hfr
      rw [hfr]
      clear hfr hD t3 t5 t6 t12 t13 t14 t15 t2
      have HBW := Kp.mk hbW
      clear hbW
      simp only [Act.put, List.setIfInBounds_toArray, List.set_cons_succ, List.set_cons_zero]
      go_wp2
      go_ret
      exact ⟨rfl, hb0.trans (HBW.it.mono hb0.size)⟩
  | false =>
    have HLON : Kp ([(A1, n1, c1, A2, n2, c2)].any lonB = false) := ⟨by simp [lonB, hl]⟩
    clear hl
    go_enter Try.func4, Try.ntmps4
    go_wp2_with fail
    refine wp_region_sp [.ex (.agg #[.slice A1 n1 c1, .slice A2 n2 c2]), .ros [(A1, n1, c1, A2, n2, c2)], .ex (.bool false), .ex (.bool false), .ex (.agg #[.slice A1 n1 c1, .slice A2 n2 c2]), .ex (.int .i64 (errC vs ls)), .ex (.agg #[.slice A1 n1 c1, .slice A2 n2 c2]), .ex (.int .i64 (errC vs ls)), .ex (.bool true), .ex (.bool true), .ex (.bool true), .ex (.bool true), .ex (.bool true), .ex (.bool true)] (by kernel_rfl) (by kernel_rfl) ?_ ?_
    · intro i o ho a W hbW hG
      match i with
      | 0 =>
        have ho1 := ho
        cases ho
        have t1 : a.tmps.getD 1 undef = .pointer (some ⟨w.heap.size, 0, none⟩) := hG.old 1 (by decide)
        have z0 : W.cell? ⟨w.heap.size, 0, none⟩ = some (.slice A1 n1 c1) := (hbW.cell (p := ⟨w.heap.size, 0, none⟩) (by simp)).trans (blk_cell (blk_new _ _) rfl)
        have z1 : W.cell? ⟨w.heap.size, 1, none⟩ = some (.slice A2 n2 c2) := (hbW.cell (p := ⟨w.heap.size, 1, none⟩) (by simp)).trans (blk_cell (blk_new _ _) rfl)
        exact op_value_g (w1 := W) ho1 (wanted_none rfl) (.agg #[.slice A1 n1 c1, .slice A2 n2 c2]) (by simp [go_sem, Act.eval, -Array.getD_eq_getD_getElem?, t1, z0, z1]) (Gr.refl _) rfl
      | 1 =>
        have ho1 := ho
        cases ho
        have t3 : a.tmps.getD 3 undef = .agg #[.slice A1 n1 c1, .slice A2 n2 c2] := hG.dep 0 (by decide) 3 rfl
        exact op_value_g ho1 (wanted_none rfl) (.slice (some ⟨W.heap.size, 0, none⟩) 1 1) (by simp [go_sem, Act.eval, -Array.getD_eq_getD_getElem?, t3]) ((Below.refl _ _).alloc (Nat.le_refl _) _) ⟨_, rfl, ros_new1 W _ _ _ _ _ _⟩
      | 2 =>
        have ho1 := ho
        cases ho
        obtain ⟨b4, t4, g4⟩ : (SpK.ros [(A1, n1, c1, A2, n2, c2)]).holds (a.tmps.getD 4 undef) W := hG.dep 1 (by decide) 4 rfl
        refine op_call_g ho1 (wanted_none rfl) 17 #[.slice (some ⟨b4, 0, none⟩) 1 1] (by simp [go_sem, Act.eval, -Array.getD_eq_getD_getElem?, t4]) ?_
        refine (long_any b4 1 [(A1, n1, c1, A2, n2, c2)] W g4 (by simp)).mono ?_
        rintro e W' ⟨rfl, hb'⟩
        exact ⟨_, rfl, hb', by show Value.bool _ = _; rw [HLON.it]⟩
      | 3 =>
        have ho1 := ho
        cases ho
        have t5 : a.tmps.getD 5 undef = .bool false := hG.dep 2 (by decide) 5 rfl
        exact op_value_g (w1 := W) ho1 (wanted_none rfl) (.bool false) (by simp [go_sem, Act.eval, -Array.getD_eq_getD_getElem?, t5]) (Gr.refl _) rfl
      | 4 =>
        have ho1 := ho
        cases ho
        have t1 : a.tmps.getD 1 undef = .pointer (some ⟨w.heap.size, 0, none⟩) := hG.old 1 (by decide)
        have t6 : a.tmps.getD 6 undef = .bool false := hG.dep 3 (by decide) 6 rfl
        have z0 : W.cell? ⟨w.heap.size, 0, none⟩ = some (.slice A1 n1 c1) := (hbW.cell (p := ⟨w.heap.size, 0, none⟩) (by simp)).trans (blk_cell (blk_new _ _) rfl)
        have z1 : W.cell? ⟨w.heap.size, 1, none⟩ = some (.slice A2 n2 c2) := (hbW.cell (p := ⟨w.heap.size, 1, none⟩) (by simp)).trans (blk_cell (blk_new _ _) rfl)
        exact op_value_g (w1 := W) ho1 (wanted_yes rfl rfl t6) (.agg #[.slice A1 n1 c1, .slice A2 n2 c2]) (by simp [go_sem, Act.eval, -Array.getD_eq_getD_getElem?, t1, t6, z0, z1]) (Gr.refl _) rfl
      | 5 =>
        have ho1 := ho
        cases ho
        have t7 : a.tmps.getD 7 undef = .agg #[.slice A1 n1 c1, .slice A2 n2 c2] := hG.dep 4 (by decide) 7 rfl
        have t6 : a.tmps.getD 6 undef = .bool false := hG.dep 3 (by decide) 6 rfl
        refine op_call_g ho1 (wanted_yes rfl rfl t6) 13 #[.agg #[.slice A1 n1 c1, .slice A2 n2 c2]] (by simp [go_sem, Act.eval, -Array.getD_eq_getD_getElem?, t7, t6]) ?_
        refine (check_any _ _ _ _ _ _ vs ls W (HA.it.below (hb0.trans (hbW.mono hb0.size))) (HB.it.below (hb0.trans (hbW.mono hb0.size)))).mono ?_
        rintro e W' ⟨rfl, hb'⟩
        exact ⟨_, rfl, hb', rfl⟩
      | 6 =>
        have ho1 := ho
        cases ho
        have t1 : a.tmps.getD 1 undef = .pointer (some ⟨w.heap.size, 0, none⟩) := hG.old 1 (by decide)
        have t6 : a.tmps.getD 6 undef = .bool false := hG.dep 3 (by decide) 6 rfl
        have z0 : W.cell? ⟨w.heap.size, 0, none⟩ = some (.slice A1 n1 c1) := (hbW.cell (p := ⟨w.heap.size, 0, none⟩) (by simp)).trans (blk_cell (blk_new _ _) rfl)
        have z1 : W.cell? ⟨w.heap.size, 1, none⟩ = some (.slice A2 n2 c2) := (hbW.cell (p := ⟨w.heap.size, 1, none⟩) (by simp)).trans (blk_cell (blk_new _ _) rfl)
        exact op_value_g (w1 := W) ho1 (wanted_yes rfl rfl t6) (.agg #[.slice A1 n1 c1, .slice A2 n2 c2]) (by simp [go_sem, Act.eval, -Array.getD_eq_getD_getElem?, t1, t6, z0, z1]) (Gr.refl _) rfl
      | 7 =>
        have ho1 := ho
        cases ho
        have t9 : a.tmps.getD 9 undef = .agg #[.slice A1 n1 c1, .slice A2 n2 c2] := hG.dep 6 (by decide) 9 rfl
        have t6 : a.tmps.getD 6 undef = .bool false := hG.dep 3 (by decide) 6 rfl
        refine op_call_g ho1 (wanted_yes rfl rfl t6) 18 #[.agg #[.slice A1 n1 c1, .slice A2 n2 c2]] (by simp [go_sem, Act.eval, -Array.getD_eq_getD_getElem?, t9, t6]) ?_
        refine (rcheck_any _ _ _ _ _ _ vs ls W (HA.it.below (hb0.trans (hbW.mono hb0.size))) (HB.it.below (hb0.trans (hbW.mono hb0.size)))).mono ?_
        rintro e W' ⟨rfl, hb'⟩
        exact ⟨_, rfl, hb', rfl⟩
      | 8 =>
        have ho1 := ho
        cases ho
        have t8 : a.tmps.getD 8 undef = .int .i64 (errC vs ls) := hG.dep 5 (by decide) 8 rfl
        have t10 : a.tmps.getD 10 undef = .int .i64 (errC vs ls) := hG.dep 7 (by decide) 10 rfl
        have t6 : a.tmps.getD 6 undef = .bool false := hG.dep 3 (by decide) 6 rfl
        exact op_value_g (w1 := W) ho1 (wanted_yes rfl rfl t6) (.bool true) (by simp [go_sem, Act.eval, -Array.getD_eq_getD_getElem?, t8, t10, t6]) (Gr.refl _) rfl
      | 9 =>
        have ho1 := ho
        cases ho
        have t6 : a.tmps.getD 6 undef = .bool false := hG.dep 3 (by decide) 6 rfl
        have t11 : a.tmps.getD 11 undef = .bool true := hG.dep 8 (by decide) 11 rfl
        exact op_value_g (w1 := W) ho1 (wanted_none rfl) (.bool true) (by simp [go_sem, Act.eval, -Array.getD_eq_getD_getElem?, t6, t11]) (Gr.refl _) rfl
      | 10 =>
        have ho1 := ho
        cases ho
        have t12 : a.tmps.getD 12 undef = .bool true := hG.dep 9 (by decide) 12 rfl
        exact op_value_g (w1 := W) ho1 (wanted_none rfl) (.bool true) (by simp [go_sem, Act.eval, -Array.getD_eq_getD_getElem?, t12]) (Gr.refl _) rfl
      | 11 =>
        have ho1 := ho
        cases ho
        have t13 : a.tmps.getD 13 undef = .bool true := hG.dep 10 (by decide) 13 rfl
        refine op_call_g ho1 (wanted_yes rfl rfl t13) 14 #[] (by simp [go_sem, Act.eval, -Array.getD_eq_getD_getElem?, t13]) ?_
        refine (awake_any W).mono ?_
        rintro e W' ⟨rfl, hb'⟩
        exact ⟨_, rfl, hb', rfl⟩
      | 12 =>
        have ho1 := ho
        cases ho
        have t13 : a.tmps.getD 13 undef = .bool true := hG.dep 10 (by decide) 13 rfl
        have t14 : a.tmps.getD 14 undef = .bool true := hG.dep 11 (by decide) 14 rfl
        exact op_value_g (w1 := W) ho1 (wanted_none rfl) (.bool true) (by simp [go_sem, Act.eval, -Array.getD_eq_getD_getElem?, t13, t14]) (Gr.refl _) rfl
      | 13 =>
        have ho1 := ho
        cases ho
        have t15 : a.tmps.getD 15 undef = .bool true := hG.dep 12 (by decide) 15 rfl
        exact op_value_g (w1 := W) ho1 (wanted_none rfl) (.bool true) (by simp [go_sem, Act.eval, -Array.getD_eq_getD_getElem?, t15]) (Gr.refl _) rfl
      | q + 14 => cases ho
    · intro a W hbW hD
      have hfr := hD.frame [3, 4, 5, 6, 7, 8, 9, 10, 11, 12, 13, 14, 15, 2] (by kernel_rfl)
      have t3 : a.tmps.getD 3 undef = .agg #[.slice A1 n1 c1, .slice A2 n2 c2] := hD.sp 0 (by decide) 3 rfl
      have t5 : a.tmps.getD 5 undef = .bool false := hD.sp 2 (by decide) 5 rfl
      have t6 : a.tmps.getD 6 undef = .bool false := hD.sp 3 (by decide) 6 rfl
      have t7 : a.tmps.getD 7 undef = .agg #[.slice A1 n1 c1, .slice A2 n2 c2] := hD.sp 4 (by decide) 7 rfl
      have t8 : a.tmps.getD 8 undef = .int .i64 (errC vs ls) := hD.sp 5 (by decide) 8 rfl
      have t9 : a.tmps.getD 9 undef = .agg #[.slice A1 n1 c1, .slice A2 n2 c2] := hD.sp 6 (by decide) 9 rfl
      have t10 : a.tmps.getD 10 undef = .int .i64 (errC vs ls) := hD.sp 7 (by decide) 10 rfl
      have t11 : a.tmps.getD 11 undef = .bool true := hD.sp 8 (by decide) 11 rfl
      have t12 : a.tmps.getD 12 undef = .bool true := hD.sp 9 (by decide) 12 rfl
      have t13 : a.tmps.getD 13 undef = .bool true := hD.sp 10 (by decide) 13 rfl
      have t14 : a.tmps.getD 14 undef = .bool true := hD.sp 11 (by decide) 14 rfl
      have t15 : a.tmps.getD 15 undef = .bool true := hD.sp 12 (by decide) 15 rfl
      have t2 : a.tmps.getD 2 undef = .bool true := hD.sp 13 (by decide) 2 rfl
      simp only [List.foldl_cons, List.foldl_nil] at hfr
      rw [t3, t5, t6, t7, t8, t9, t10, t11, t12, t13, t14, t15, t2] at hfr
      generalize a.tmps.getD 4 undef = u4 at hfr
      rw [hfr]
      clear hfr hD t3 t5 t6 t7 t8 t9 t10 t11 t12 t13 t14 t15 t2
      have HBW := Kp.mk hbW
      clear hbW
      simp only [Act.put, List.setIfInBounds_toArray, List.set_cons_succ, List.set_cons_zero]
      go_wp2
      go_ret
      exact ⟨rfl, hb0.trans (HBW.it.mono hb0.size)⟩

set_option linter.unusedVariables false in
set_option maxRecDepth 100000 in
theorem quorumChecks_lifted (os : Os) (started : os.Started) (H : Type) (enc : TypeId × Value → H) :
    ReturnsInHanded {} Try.checked os 4 .any (Rows.quorumChecksSpec.pre6 enc Try.prog Try.f4 Rows.quorumChecksRow.domain false) (Rows.quorumChecksSpec.post enc Try.prog Try.f4 false true false false) := by
  refine returnsInHanded_of_change_sized (C := Try.checked) (by kernel_rfl) started (by kernel_rfl) Try.func4
    (ChangeSpec.witness6 (enc := enc) (C := Try.checked) false ⟨#[], #[.agg #[.slice none 0 0, .slice none 0 0]], []⟩ 8 (by kernel_rfl) (by kernel_rfl) (by kernel_rfl) (by kernel_rfl)) ?_
  intro W base args ds gs before hval0 hW hcnd hsz0 _
  have hval : ∀ (j : Nat) t v, Try.f4.params[j]? = some t → args[j]? = some v → Value.okWide Try.prog W .any base t v := hval0
  have hW' := hW
  obtain ⟨p, q, hA0, hV, rfl, hfz, hnd⟩ := hW
  have hA : DataW.TrodAll enc Try.prog W 0 (fun _ => true) true Try.f4.params.toList args.toList ds p := hA0
  have hsz : (DataW.weightsEach Try.prog (Try.f4.params.toList ++ Rows.quorumChecksSpec.plain.varTypes Try.prog) (ds ++ gs)).all (· ≤ reachBytes) = true := hsz0
  rw [Try.params4] at hA hval hsz
  obtain ⟨v0, vs0, d0, ds0, p0, q0, hargs, rfl, rfl, h0, r0⟩ := trodAll_cons hA
  obtain ⟨rfl, rfl, rfl⟩ := trodAll_nil r0
  obtain rfl : args = #[v0] := by cases args; simp_all
  obtain ⟨rfl, rfl⟩ := trodVars_none hV
  have k0 := h0
  have lt0 : ∀ x ∈ p0, x.block < W.heap.size := by obtain ⟨m, hm⟩ := k0; exact DataW.trod_lt m _ _ _ hm
  obtain ⟨A0, n0, c0, B0, m0, e0, vs0', ls0', rfl, ra0, rb0⟩ := ro_open (hval 0 24 v0 rfl rfl) h0 (fun x hx => by simpa using List.all_eq_true.1 hsz x (DataW.weights_mem_each (j := 0) (t := 24) rfl rfl x hx))
  clear hA0 hval0 hsz hsz0
  refine (checks_walk _ _ _ _ _ _ _ _ W ra0 rb0).mono fun e W' ⟨he, bel⟩ => ?_
  subst he
  exact ⟨_, rfl, _, _, _, [], _, [], hW', trodAll_mk1 (shut_bool Try.underlying4 _), (trodAll_cons_mk (Below.trod (by kernel_rfl) (by kernel_rfl) (of_decide_eq_true (by kernel_rfl)) k0 bel lt0) trodAll_mk0), rfl, bel.frame _, fun h => by cases h⟩

theorem QuorumChecks_holds : Rows.QuorumChecksSaid :=
  OpenClaim.holds_of_wide 4 Try.f4 rfl rfl rfl rfl rfl rfl rfl ⟨rfl, rfl, rfl, rfl, rfl⟩ rfl rfl rfl rfl rfl (by kernel_rfl) Try.func4 (by kernel_rfl)
    (of_decide_eq_true (by kernel_rfl)) (by unfold Func.isWrapper; first | (rw [if_pos (by decide +kernel)]; kernel_rfl) | (rw [if_neg (by decide +kernel)]; exact ⟨rfl, rfl⟩))
    (fun os started H enc _ => quorumChecks_lifted os started H enc)

end Go.Proofs.Ytbfpdahbmdaenaa
