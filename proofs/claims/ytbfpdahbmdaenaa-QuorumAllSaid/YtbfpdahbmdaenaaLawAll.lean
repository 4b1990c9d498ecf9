/-
  QuorumAll: all voters are a majority, none is none; learners count for nothing; all nodes are as many as voters and learners.
-/
import Derived.Test.YtbfpdahbmdaenaaLong
import Derived.Test.YtbfpdahbmdaenaaMays
import Derived.Test.YtbfpdahbmdaenaaMajor
import Derived.Test.YtbfpdahbmdaenaaPlain6
import Derived.Test.YtbfpdahbmdaenaaAwake
import Derived.Test.YtbfpdahbmdaenaaOpen
namespace Go.Proofs.Ytbfpdahbmdaenaa
open Go.ChangeShapes Go.WideShapes Go.ChangeAt Go.RowKit

set_option linter.unusedSimpArgs false in
set_option linter.unusedVariables false in
set_option maxRecDepth 100000 in
set_option maxHeartbeats 4000000 in
theorem all_walk (A1 A2 : Option Addr) (n1 c1 n2 c2 : Nat) (vs ls : List Int) (A5 : Option Addr) (n5 c5 : Nat) (xs : List Int) (w : World) (h1 : Rd w A1 n1 vs) (h2 : Rd w A2 n2 ls) (h5 : Rd w A5 n5 xs) (e1 : A1 = none → c1 = 0) (e2 : A2 = none → c2 = 0) (e5 : A5 = none → c5 = 0) : Calls Try.prog 10 #[.agg #[.slice A1 n1 c1, .slice A2 n2 c2], .slice A5 n5 c5] w fun e w' => e = .returned (.bool true) ∧ Below w.heap.size w w' := by
  have HA := Kp.mk h1
  have HB := Kp.mk h2
  have HX := Kp.mk h5
  have E1 := Kp.mk e1
  have E2 := Kp.mk e2
  have E5 := Kp.mk e5
  have hl1 := h1.bd
  have hl2 := h2.bd
  have hl5 := h5.bd
  clear h1 h2 h5 e1 e2 e5
  cases hl : lon n1 n2 with
  | true =>
    have HLON : Kp ([(A1, n1, c1, A2, n2, c2)].any lonB = true) := ⟨by simp [lonB, hl]⟩
    clear hl
    have HRO : Kp (Ros ((w.alloc (.cells #[.slice A1 n1 c1, .slice A2 n2 c2] 24)).alloc (.cells #[.slice A1 n1 c1, .slice A2 n2 c2] 24)) (w.heap.size + 1) [(A1, n1, c1, A2, n2, c2)]) := ⟨by have := ros_new1 (w.alloc (.cells #[.slice A1 n1 c1, .slice A2 n2 c2] 24)) A1 n1 c1 A2 n2 c2; rwa [World.size_alloc] at this⟩
    go_enter Try.func10, Try.ntmps10
    go_wp2_with fail
    refine (long_any _ 1 [(A1, n1, c1, A2, n2, c2)] _ HRO.it (by simp)).mono ?_
    rintro e w1 ⟨rfl, hb1⟩
    rw [HLON.it]
    have z0 : w1.cell? ⟨w.heap.size, 0, none⟩ = some (.slice A1 n1 c1) := (hb1.cell (p := ⟨w.heap.size, 0, none⟩) (by simp; omega)).trans (blk_cell (blk_old _ (blk_new _ _)) rfl)
    have z1 : w1.cell? ⟨w.heap.size, 1, none⟩ = some (.slice A2 n2 c2) := (hb1.cell (p := ⟨w.heap.size, 1, none⟩) (by simp; omega)).trans (blk_cell (blk_old _ (blk_new _ _)) rfl)
    have hs1 : w.heap.size < w1.heap.size := by have := hb1.size; simp at this; omega
    have HBW1 : Kp (Below w.heap.size w w1) := ⟨(((Below.refl _ _).alloc (Nat.le_refl _) _).alloc (by simp) _).trans (hb1.mono (by simp; omega))⟩
    clear hb1
    go_wp2_with (go_at_call 14; refine (awake_any _).mono ?_; rintro e w' ⟨rfl, hb'⟩)
    go_ret
    exact ⟨rfl, HBW1.it.trans (hb'.mono HBW1.it.size)⟩
  | false =>
    have HLON : Kp ([(A1, n1, c1, A2, n2, c2)].any lonB = false) := ⟨by simp [lonB, hl]⟩
    have hn12 : n1 ≤ 500 ∧ n2 ≤ 500 := by unfold lon at hl; simp at hl; omega
    clear hl
    have HRO : Kp (Ros ((w.alloc (.cells #[.slice A1 n1 c1, .slice A2 n2 c2] 24)).alloc (.cells #[.slice A1 n1 c1, .slice A2 n2 c2] 24)) (w.heap.size + 1) [(A1, n1, c1, A2, n2, c2)]) := ⟨by have := ros_new1 (w.alloc (.cells #[.slice A1 n1 c1, .slice A2 n2 c2] 24)) A1 n1 c1 A2 n2 c2; rwa [World.size_alloc] at this⟩
    go_enter Try.func10, Try.ntmps10
    go_wp2_with fail
    refine (long_any _ 1 [(A1, n1, c1, A2, n2, c2)] _ HRO.it (by simp)).mono ?_
    rintro e w1 ⟨rfl, hb1⟩
    rw [HLON.it]
    have z0 : w1.cell? ⟨w.heap.size, 0, none⟩ = some (.slice A1 n1 c1) := (hb1.cell (p := ⟨w.heap.size, 0, none⟩) (by simp; omega)).trans (blk_cell (blk_old _ (blk_new _ _)) rfl)
    have z1 : w1.cell? ⟨w.heap.size, 1, none⟩ = some (.slice A2 n2 c2) := (hb1.cell (p := ⟨w.heap.size, 1, none⟩) (by simp; omega)).trans (blk_cell (blk_old _ (blk_new _ _)) rfl)
    have hs1 : w.heap.size < w1.heap.size := by have := hb1.size; simp at this; omega
    have HBW1 : Kp (Below w.heap.size w w1) := ⟨(((Below.refl _ _).alloc (Nat.le_refl _) _).alloc (by simp) _).trans (hb1.mono (by simp; omega))⟩
    clear hb1
    by_cases hn : 500 < n5
    · go_wp2_with (go_at_call 14; refine (awake_any _).mono ?_; rintro e w' ⟨rfl, hb'⟩)
      go_ret
      exact ⟨rfl, HBW1.it.trans (hb'.mono HBW1.it.size)⟩
    · go_wp2_with fail
      refine (check_any _ _ _ _ _ _ vs ls _ (HA.it.below HBW1.it) (HB.it.below HBW1.it)).mono ?_
      rintro e w2 ⟨rfl, hb2⟩
      have hz0 := (hb2.cell (p := ⟨w.heap.size, 0, none⟩) hs1).trans z0
      have hz1 := (hb2.cell (p := ⟨w.heap.size, 1, none⟩) hs1).trans z1
      have hs0 : w.heap.size < w2.heap.size := Nat.lt_of_lt_of_le hs1 hb2.size
      have HBW2 := Kp.mk (HBW1.it.trans (hb2.mono HBW1.it.size))
      clear hb2 z0 z1 hs1
      cases hg : goodB vs ls with
      | false =>
        have HE := Kp.mk (errC_bad hg)
        rw [HE.it]
        clear hg
        go_wp2_with (go_at_call 14; refine (awake_any _).mono ?_; rintro e w' ⟨rfl, hb'⟩)
        go_ret
        exact ⟨rfl, HBW2.it.trans (hb'.mono HBW2.it.size)⟩
      | true =>
        have HE := Kp.mk (errC_good hg)
        rw [HE.it]
        have HM1 := Kp.mk (major_all hg)
        have HM2 := Kp.mk (major_learn (xs := xs) hg)
        have HAL : Kp ((allL vs ls).length = n1 + n2 ∧ n1 ≤ 500 ∧ n2 ≤ 500) := ⟨by rw [all_length hg, HA.it.len, HB.it.len]; exact ⟨rfl, hn12⟩⟩
        have HXL : Kp ((xs ++ ls).length ≤ 1000) := ⟨by rw [List.length_append, HX.it.len, HB.it.len]; omega⟩
        have HNL : Kp (n5 + n2 ≤ 1000000000) := ⟨by omega⟩
        have HNL2 : Kp (n1 + n2 ≤ 1000000000) := ⟨by omega⟩
        have hwr : IntKind.i64.wrap ((n1 : Int) + n2) = (n1 : Int) + n2 := IntWalk.i64_in _ (by omega)
        have HWR := Kp.mk hwr
        clear hg hwr
        go_wp2_with fail
        have hwr := HWR.it
        have hbw := HBW2.it
        refine wp_region_sp [.ex (.agg #[.slice A1 n1 c1, .slice A2 n2 c2]), .ex (.pointer (some ⟨w.heap.size, 0, none⟩)), .ex (.slice A1 n1 c1), .ex (.bool true), .ex (.bool true), .ex (.agg #[.slice A1 n1 c1, .slice A2 n2 c2]), .ex (.bool false), .ex (.bool true), .ex (.bool true), .ex (.bool true), .ex (.agg #[.slice A1 n1 c1, .slice A2 n2 c2]), .ex (.slice A5 n5 c5), .ex (.bool (major vs xs)), .ex (.agg #[.slice A1 n1 c1, .slice A2 n2 c2]), .ex (.slice A5 n5 c5), .ex (.pointer (some ⟨w.heap.size, 1, none⟩)), .ex (.slice A2 n2 c2), .cel [.slice A5 n5 c5, .slice A2 n2 c2], .sl (xs ++ ls), .ex (.bool (major vs xs)), .ex (.bool true), .ex (.bool true), .ex (.bool true), .ex (.agg #[.slice A1 n1 c1, .slice A2 n2 c2]), .sl (allL vs ls), .ex (.int .i64 ((n1 : Int) + (n2 : Int))), .ex (.pointer (some ⟨w.heap.size, 0, none⟩)), .ex (.slice A1 n1 c1), .ex (.int .i64 n1), .ex (.pointer (some ⟨w.heap.size, 1, none⟩)), .ex (.slice A2 n2 c2), .ex (.int .i64 n2), .ex (.int .i64 ((n1 : Int) + (n2 : Int))), .ex (.bool true), .ex (.bool true), .ex (.bool true), .ex (.bool true), .ex (.bool true), .ex (.bool true)] (by kernel_rfl) (by kernel_rfl) ?_ ?_
        · intro i o ho a W hbW hG
          match i with
          | 0 =>
            have ho1 := ho
            cases ho
            have t2 : a.tmps.getD 2 undef = .pointer (some ⟨w.heap.size, 0, none⟩) := hG.old 2 (by decide)
            have z0 := (hbW.cell (p := ⟨w.heap.size, 0, none⟩) hs0).trans hz0
            have z1 := (hbW.cell (p := ⟨w.heap.size, 1, none⟩) hs0).trans hz1
            exact op_value_g (w1 := W) ho1 (wanted_none rfl) (.agg #[.slice A1 n1 c1, .slice A2 n2 c2]) (by simp [go_sem, Act.eval, -Array.getD_eq_getD_getElem?, t2, z0, z1]) (Gr.refl _) rfl
          | 1 =>
            have ho1 := ho
            cases ho
            have t2 : a.tmps.getD 2 undef = .pointer (some ⟨w.heap.size, 0, none⟩) := hG.old 2 (by decide)
            exact op_value_g (w1 := W) ho1 (wanted_none rfl) (.pointer (some ⟨w.heap.size, 0, none⟩)) (by simp [go_sem, Act.eval, -Array.getD_eq_getD_getElem?, t2]) (Gr.refl _) rfl
          | 2 =>
            have ho1 := ho
            cases ho
            have t20 : a.tmps.getD 20 undef = .pointer (some ⟨w.heap.size, 0, none⟩) := hG.dep 1 (by decide) 20 rfl
            have z0 := (hbW.cell (p := ⟨w.heap.size, 0, none⟩) hs0).trans hz0
            have z1 := (hbW.cell (p := ⟨w.heap.size, 1, none⟩) hs0).trans hz1
            exact op_value_g (w1 := W) ho1 (wanted_none rfl) (.slice A1 n1 c1) (by simp [go_sem, Act.eval, -Array.getD_eq_getD_getElem?, t20, z0, z1]) (Gr.refl _) rfl
          | 3 =>
            have ho1 := ho
            cases ho
            have t19 : a.tmps.getD 19 undef = .agg #[.slice A1 n1 c1, .slice A2 n2 c2] := hG.dep 0 (by decide) 19 rfl
            have t21 : a.tmps.getD 21 undef = .slice A1 n1 c1 := hG.dep 2 (by decide) 21 rfl
            refine op_call_g ho1 (wanted_none rfl) 16 #[.agg #[.slice A1 n1 c1, .slice A2 n2 c2], .slice A1 n1 c1] (by simp [go_sem, Act.eval, -Array.getD_eq_getD_getElem?, t19, t21]) ?_
            refine (majority_any _ _ _ _ _ _ _ _ _ vs vs W (HA.it.below (hbw.trans (hbW.mono hbw.size))) (HA.it.below (hbw.trans (hbW.mono hbw.size)))).mono ?_
            rintro e W' ⟨rfl, hb'⟩
            exact ⟨_, rfl, hb', by show Value.bool _ = _; rw [HM1.it]⟩
          | 4 =>
            have ho1 := ho
            cases ho
            have t22 : a.tmps.getD 22 undef = .bool true := hG.dep 3 (by decide) 22 rfl
            exact op_value_g (w1 := W) ho1 (wanted_none rfl) (.bool true) (by simp [go_sem, Act.eval, -Array.getD_eq_getD_getElem?, t22]) (Gr.refl _) rfl
          | 5 =>
            have ho1 := ho
            cases ho
            have t2 : a.tmps.getD 2 undef = .pointer (some ⟨w.heap.size, 0, none⟩) := hG.old 2 (by decide)
            have t23 : a.tmps.getD 23 undef = .bool true := hG.dep 4 (by decide) 23 rfl
            have z0 := (hbW.cell (p := ⟨w.heap.size, 0, none⟩) hs0).trans hz0
            have z1 := (hbW.cell (p := ⟨w.heap.size, 1, none⟩) hs0).trans hz1
            exact op_value_g (w1 := W) ho1 (wanted_yes rfl rfl t23) (.agg #[.slice A1 n1 c1, .slice A2 n2 c2]) (by simp [go_sem, Act.eval, -Array.getD_eq_getD_getElem?, t2, t23, z0, z1]) (Gr.refl _) rfl
          | 6 =>
            have ho1 := ho
            cases ho
            have t24 : a.tmps.getD 24 undef = .agg #[.slice A1 n1 c1, .slice A2 n2 c2] := hG.dep 5 (by decide) 24 rfl
            have t23 : a.tmps.getD 23 undef = .bool true := hG.dep 4 (by decide) 23 rfl
            refine op_call_g ho1 (wanted_yes rfl rfl t23) 16 #[.agg #[.slice A1 n1 c1, .slice A2 n2 c2], .slice none 0 0] (by simp [go_sem, Act.eval, -Array.getD_eq_getD_getElem?, t24, t23]) ?_
            refine (majority_any _ _ _ _ _ _ _ _ _ vs [] W (HA.it.below (hbw.trans (hbW.mono hbw.size))) (rd_nil _)).mono ?_
            rintro e W' ⟨rfl, hb'⟩
            exact ⟨_, rfl, hb', by show Value.bool _ = _; rw [major_none]⟩
          | 7 =>
            have ho1 := ho
            cases ho
            have t25 : a.tmps.getD 25 undef = .bool false := hG.dep 6 (by decide) 25 rfl
            have t23 : a.tmps.getD 23 undef = .bool true := hG.dep 4 (by decide) 23 rfl
            exact op_value_g (w1 := W) ho1 (wanted_yes rfl rfl t23) (.bool true) (by simp [go_sem, Act.eval, -Array.getD_eq_getD_getElem?, t25, t23]) (Gr.refl _) rfl
          | 8 =>
            have ho1 := ho
            cases ho
            have t23 : a.tmps.getD 23 undef = .bool true := hG.dep 4 (by decide) 23 rfl
            have t26 : a.tmps.getD 26 undef = .bool true := hG.dep 7 (by decide) 26 rfl
            exact op_value_g (w1 := W) ho1 (wanted_none rfl) (.bool true) (by simp [go_sem, Act.eval, -Array.getD_eq_getD_getElem?, t23, t26]) (Gr.refl _) rfl
          | 9 =>
            have ho1 := ho
            cases ho
            have t27 : a.tmps.getD 27 undef = .bool true := hG.dep 8 (by decide) 27 rfl
            exact op_value_g (w1 := W) ho1 (wanted_none rfl) (.bool true) (by simp [go_sem, Act.eval, -Array.getD_eq_getD_getElem?, t27]) (Gr.refl _) rfl
          | 10 =>
            have ho1 := ho
            cases ho
            have t2 : a.tmps.getD 2 undef = .pointer (some ⟨w.heap.size, 0, none⟩) := hG.old 2 (by decide)
            have t28 : a.tmps.getD 28 undef = .bool true := hG.dep 9 (by decide) 28 rfl
            have z0 := (hbW.cell (p := ⟨w.heap.size, 0, none⟩) hs0).trans hz0
            have z1 := (hbW.cell (p := ⟨w.heap.size, 1, none⟩) hs0).trans hz1
            exact op_value_g (w1 := W) ho1 (wanted_yes rfl rfl t28) (.agg #[.slice A1 n1 c1, .slice A2 n2 c2]) (by simp [go_sem, Act.eval, -Array.getD_eq_getD_getElem?, t2, t28, z0, z1]) (Gr.refl _) rfl
          | 11 =>
            have ho1 := ho
            cases ho
            have t1 : a.tmps.getD 1 undef = .slice A5 n5 c5 := hG.old 1 (by decide)
            have t28 : a.tmps.getD 28 undef = .bool true := hG.dep 9 (by decide) 28 rfl
            exact op_value_g (w1 := W) ho1 (wanted_yes rfl rfl t28) (.slice A5 n5 c5) (by simp [go_sem, Act.eval, -Array.getD_eq_getD_getElem?, t1, t28]) (Gr.refl _) rfl
          | 12 =>
            have ho1 := ho
            cases ho
            have t29 : a.tmps.getD 29 undef = .agg #[.slice A1 n1 c1, .slice A2 n2 c2] := hG.dep 10 (by decide) 29 rfl
            have t30 : a.tmps.getD 30 undef = .slice A5 n5 c5 := hG.dep 11 (by decide) 30 rfl
            have t28 : a.tmps.getD 28 undef = .bool true := hG.dep 9 (by decide) 28 rfl
            refine op_call_g ho1 (wanted_yes rfl rfl t28) 16 #[.agg #[.slice A1 n1 c1, .slice A2 n2 c2], .slice A5 n5 c5] (by simp [go_sem, Act.eval, -Array.getD_eq_getD_getElem?, t29, t30, t28]) ?_
            refine (majority_any _ _ _ _ _ _ _ _ _ vs xs W (HA.it.below (hbw.trans (hbW.mono hbw.size))) (HX.it.below (hbw.trans (hbW.mono hbw.size)))).mono ?_
            rintro e W' ⟨rfl, hb'⟩
            exact ⟨_, rfl, hb', rfl⟩
          | 13 =>
            have ho1 := ho
            cases ho
            have t2 : a.tmps.getD 2 undef = .pointer (some ⟨w.heap.size, 0, none⟩) := hG.old 2 (by decide)
            have t28 : a.tmps.getD 28 undef = .bool true := hG.dep 9 (by decide) 28 rfl
            have z0 := (hbW.cell (p := ⟨w.heap.size, 0, none⟩) hs0).trans hz0
            have z1 := (hbW.cell (p := ⟨w.heap.size, 1, none⟩) hs0).trans hz1
            exact op_value_g (w1 := W) ho1 (wanted_yes rfl rfl t28) (.agg #[.slice A1 n1 c1, .slice A2 n2 c2]) (by simp [go_sem, Act.eval, -Array.getD_eq_getD_getElem?, t2, t28, z0, z1]) (Gr.refl _) rfl
          | 14 =>
            have ho1 := ho
            cases ho
            have t1 : a.tmps.getD 1 undef = .slice A5 n5 c5 := hG.old 1 (by decide)
            have t28 : a.tmps.getD 28 undef = .bool true := hG.dep 9 (by decide) 28 rfl
            exact op_value_g (w1 := W) ho1 (wanted_yes rfl rfl t28) (.slice A5 n5 c5) (by simp [go_sem, Act.eval, -Array.getD_eq_getD_getElem?, t1, t28]) (Gr.refl _) rfl
          | 15 =>
            have ho1 := ho
            cases ho
            have t2 : a.tmps.getD 2 undef = .pointer (some ⟨w.heap.size, 0, none⟩) := hG.old 2 (by decide)
            have t28 : a.tmps.getD 28 undef = .bool true := hG.dep 9 (by decide) 28 rfl
            exact op_value_g (w1 := W) ho1 (wanted_yes rfl rfl t28) (.pointer (some ⟨w.heap.size, 1, none⟩)) (by simp [go_sem, Act.eval, -Array.getD_eq_getD_getElem?, t2, t28]) (Gr.refl _) rfl
          | 16 =>
            have ho1 := ho
            cases ho
            have t34 : a.tmps.getD 34 undef = .pointer (some ⟨w.heap.size, 1, none⟩) := hG.dep 15 (by decide) 34 rfl
            have t28 : a.tmps.getD 28 undef = .bool true := hG.dep 9 (by decide) 28 rfl
            have z0 := (hbW.cell (p := ⟨w.heap.size, 0, none⟩) hs0).trans hz0
            have z1 := (hbW.cell (p := ⟨w.heap.size, 1, none⟩) hs0).trans hz1
            exact op_value_g (w1 := W) ho1 (wanted_yes rfl rfl t28) (.slice A2 n2 c2) (by simp [go_sem, Act.eval, -Array.getD_eq_getD_getElem?, t34, t28, z0, z1]) (Gr.refl _) rfl
          | 17 =>
            have ho1 := ho
            cases ho
            have t33 : a.tmps.getD 33 undef = .slice A5 n5 c5 := hG.dep 14 (by decide) 33 rfl
            have t35 : a.tmps.getD 35 undef = .slice A2 n2 c2 := hG.dep 16 (by decide) 35 rfl
            have t28 : a.tmps.getD 28 undef = .bool true := hG.dep 9 (by decide) 28 rfl
            exact op_value_g (w1 := W.alloc (.cells #[.slice A5 n5 c5, .slice A2 n2 c2] 22)) ho1 (wanted_yes rfl rfl t28) (.slice (some ⟨W.heap.size, 0, none⟩) 2 2) (by simp [go_sem, Act.eval, -Array.getD_eq_getD_getElem?, t33, t35, t28]) ((Below.refl _ _).alloc (Nat.le_refl _) _) ⟨_, rfl, by simp, fun j u hj => blk_cell (blk_new _ _) (by rw [← hj]; simp)⟩
          | 18 =>
            have ho1 := ho
            cases ho
            obtain ⟨b36, t36, l36, g36⟩ : (SpK.cel [.slice A5 n5 c5, .slice A2 n2 c2]).holds (a.tmps.getD 36 undef) W := hG.dep 17 (by decide) 36 rfl
            have t28 : a.tmps.getD 28 undef = .bool true := hG.dep 9 (by decide) 28 rfl
            refine op_call_g ho1 (wanted_yes rfl rfl t28) 28 #[.slice (some ⟨b36, 0, none⟩) 2 2] (by simp [go_sem, Act.eval, -Array.getD_eq_getD_getElem?, t36, t28]) ?_
            refine (concat_any b36 2 A5 A2 n5 c5 n2 c2 xs ls W l36 (g36 0 _ rfl) (g36 1 _ rfl) (HX.it.below (hbw.trans (hbW.mono hbw.size))) (HB.it.below (hbw.trans (hbW.mono hbw.size))) E5.it E2.it HNL.it).mono ?_
            rintro e W' ⟨v, rfl, ho, hb'⟩
            obtain ⟨A, c, rfl, hr⟩ := ho.form
            exact ⟨_, rfl, hb', _, _, _, rfl, hr (by have := HXL.it; omega)⟩
          | 19 =>
            have ho1 := ho
            cases ho
            have t32 : a.tmps.getD 32 undef = .agg #[.slice A1 n1 c1, .slice A2 n2 c2] := hG.dep 13 (by decide) 32 rfl
            obtain ⟨A37, n37, c37, t37, r37⟩ : (SpK.sl (xs ++ ls)).holds (a.tmps.getD 37 undef) W := hG.dep 18 (by decide) 37 rfl
            have t28 : a.tmps.getD 28 undef = .bool true := hG.dep 9 (by decide) 28 rfl
            refine op_call_g ho1 (wanted_yes rfl rfl t28) 16 #[.agg #[.slice A1 n1 c1, .slice A2 n2 c2], .slice A37 n37 c37] (by simp [go_sem, Act.eval, -Array.getD_eq_getD_getElem?, t32, t37, t28]) ?_
            refine (majority_any _ _ _ _ _ _ _ _ _ vs (xs ++ ls) W (HA.it.below (hbw.trans (hbW.mono hbw.size))) r37).mono ?_
            rintro e W' ⟨rfl, hb'⟩
            exact ⟨_, rfl, hb', by show Value.bool _ = _; rw [HM2.it]⟩
          | 20 =>
            have ho1 := ho
            cases ho
            have t31 : a.tmps.getD 31 undef = .bool (major vs xs) := hG.dep 12 (by decide) 31 rfl
            have t38 : a.tmps.getD 38 undef = .bool (major vs xs) := hG.dep 19 (by decide) 38 rfl
            have t28 : a.tmps.getD 28 undef = .bool true := hG.dep 9 (by decide) 28 rfl
            exact op_value_g (w1 := W) ho1 (wanted_yes rfl rfl t28) (.bool true) (by simp [go_sem, Act.eval, -Array.getD_eq_getD_getElem?, t31, t38, t28]) (Gr.refl _) rfl
          | 21 =>
            have ho1 := ho
            cases ho
            have t28 : a.tmps.getD 28 undef = .bool true := hG.dep 9 (by decide) 28 rfl
            have t39 : a.tmps.getD 39 undef = .bool true := hG.dep 20 (by decide) 39 rfl
            exact op_value_g (w1 := W) ho1 (wanted_none rfl) (.bool true) (by simp [go_sem, Act.eval, -Array.getD_eq_getD_getElem?, t28, t39]) (Gr.refl _) rfl
          | 22 =>
            have ho1 := ho
            cases ho
            have t40 : a.tmps.getD 40 undef = .bool true := hG.dep 21 (by decide) 40 rfl
            exact op_value_g (w1 := W) ho1 (wanted_none rfl) (.bool true) (by simp [go_sem, Act.eval, -Array.getD_eq_getD_getElem?, t40]) (Gr.refl _) rfl
          | 23 =>
            have ho1 := ho
            cases ho
            have t2 : a.tmps.getD 2 undef = .pointer (some ⟨w.heap.size, 0, none⟩) := hG.old 2 (by decide)
            have t41 : a.tmps.getD 41 undef = .bool true := hG.dep 22 (by decide) 41 rfl
            have z0 := (hbW.cell (p := ⟨w.heap.size, 0, none⟩) hs0).trans hz0
            have z1 := (hbW.cell (p := ⟨w.heap.size, 1, none⟩) hs0).trans hz1
            exact op_value_g (w1 := W) ho1 (wanted_yes rfl rfl t41) (.agg #[.slice A1 n1 c1, .slice A2 n2 c2]) (by simp [go_sem, Act.eval, -Array.getD_eq_getD_getElem?, t2, t41, z0, z1]) (Gr.refl _) rfl
          | 24 =>
            have ho1 := ho
            cases ho
            have t42 : a.tmps.getD 42 undef = .agg #[.slice A1 n1 c1, .slice A2 n2 c2] := hG.dep 23 (by decide) 42 rfl
            have t41 : a.tmps.getD 41 undef = .bool true := hG.dep 22 (by decide) 41 rfl
            refine op_call_g ho1 (wanted_yes rfl rfl t41) 29 #[.agg #[.slice A1 n1 c1, .slice A2 n2 c2]] (by simp [go_sem, Act.eval, -Array.getD_eq_getD_getElem?, t42, t41]) ?_
            refine (all_any A1 A2 n1 c1 n2 c2 vs ls W (HA.it.below (hbw.trans (hbW.mono hbw.size))) (HB.it.below (hbw.trans (hbW.mono hbw.size))) E1.it E2.it HNL2.it).mono ?_
            rintro e W' ⟨v, rfl, ho, hb'⟩
            obtain ⟨A, c, rfl, hr⟩ := ho.form
            exact ⟨_, rfl, hb', _, _, _, rfl, hr (by have := HAL.it; omega)⟩
          | 25 =>
            have ho1 := ho
            cases ho
            obtain ⟨A43, n43, c43, t43, r43⟩ : (SpK.sl (allL vs ls)).holds (a.tmps.getD 43 undef) W := hG.dep 24 (by decide) 43 rfl
            have t41 : a.tmps.getD 41 undef = .bool true := hG.dep 22 (by decide) 41 rfl
            have hn43 : (n43 : Int) = (n1 : Int) + (n2 : Int) := by have := r43.len; have := HAL.it; omega
            exact op_value_g (w1 := W) ho1 (wanted_yes rfl rfl t41) (.int .i64 ((n1 : Int) + (n2 : Int))) (by rw [← hn43]; simp [go_sem, Act.eval, -Array.getD_eq_getD_getElem?, t43, t41]) (Gr.refl _) rfl
          | 26 =>
            have ho1 := ho
            cases ho
            have t2 : a.tmps.getD 2 undef = .pointer (some ⟨w.heap.size, 0, none⟩) := hG.old 2 (by decide)
            have t41 : a.tmps.getD 41 undef = .bool true := hG.dep 22 (by decide) 41 rfl
            exact op_value_g (w1 := W) ho1 (wanted_yes rfl rfl t41) (.pointer (some ⟨w.heap.size, 0, none⟩)) (by simp [go_sem, Act.eval, -Array.getD_eq_getD_getElem?, t2, t41]) (Gr.refl _) rfl
          | 27 =>
            have ho1 := ho
            cases ho
            have t45 : a.tmps.getD 45 undef = .pointer (some ⟨w.heap.size, 0, none⟩) := hG.dep 26 (by decide) 45 rfl
            have t41 : a.tmps.getD 41 undef = .bool true := hG.dep 22 (by decide) 41 rfl
            have z0 := (hbW.cell (p := ⟨w.heap.size, 0, none⟩) hs0).trans hz0
            have z1 := (hbW.cell (p := ⟨w.heap.size, 1, none⟩) hs0).trans hz1
            exact op_value_g (w1 := W) ho1 (wanted_yes rfl rfl t41) (.slice A1 n1 c1) (by simp [go_sem, Act.eval, -Array.getD_eq_getD_getElem?, t45, t41, z0, z1]) (Gr.refl _) rfl
          | 28 =>
            have ho1 := ho
            cases ho
            have t46 : a.tmps.getD 46 undef = .slice A1 n1 c1 := hG.dep 27 (by decide) 46 rfl
            have t41 : a.tmps.getD 41 undef = .bool true := hG.dep 22 (by decide) 41 rfl
            exact op_value_g (w1 := W) ho1 (wanted_yes rfl rfl t41) (.int .i64 n1) (by simp [go_sem, Act.eval, -Array.getD_eq_getD_getElem?, t46, t41]) (Gr.refl _) rfl
          | 29 =>
            have ho1 := ho
            cases ho
            have t2 : a.tmps.getD 2 undef = .pointer (some ⟨w.heap.size, 0, none⟩) := hG.old 2 (by decide)
            have t41 : a.tmps.getD 41 undef = .bool true := hG.dep 22 (by decide) 41 rfl
            exact op_value_g (w1 := W) ho1 (wanted_yes rfl rfl t41) (.pointer (some ⟨w.heap.size, 1, none⟩)) (by simp [go_sem, Act.eval, -Array.getD_eq_getD_getElem?, t2, t41]) (Gr.refl _) rfl
          | 30 =>
            have ho1 := ho
            cases ho
            have t48 : a.tmps.getD 48 undef = .pointer (some ⟨w.heap.size, 1, none⟩) := hG.dep 29 (by decide) 48 rfl
            have t41 : a.tmps.getD 41 undef = .bool true := hG.dep 22 (by decide) 41 rfl
            have z0 := (hbW.cell (p := ⟨w.heap.size, 0, none⟩) hs0).trans hz0
            have z1 := (hbW.cell (p := ⟨w.heap.size, 1, none⟩) hs0).trans hz1
            exact op_value_g (w1 := W) ho1 (wanted_yes rfl rfl t41) (.slice A2 n2 c2) (by simp [go_sem, Act.eval, -Array.getD_eq_getD_getElem?, t48, t41, z0, z1]) (Gr.refl _) rfl
          | 31 =>
            have ho1 := ho
            cases ho
            have t49 : a.tmps.getD 49 undef = .slice A2 n2 c2 := hG.dep 30 (by decide) 49 rfl
            have t41 : a.tmps.getD 41 undef = .bool true := hG.dep 22 (by decide) 41 rfl
            exact op_value_g (w1 := W) ho1 (wanted_yes rfl rfl t41) (.int .i64 n2) (by simp [go_sem, Act.eval, -Array.getD_eq_getD_getElem?, t49, t41]) (Gr.refl _) rfl
          | 32 =>
            have ho1 := ho
            cases ho
            have t47 : a.tmps.getD 47 undef = .int .i64 n1 := hG.dep 28 (by decide) 47 rfl
            have t50 : a.tmps.getD 50 undef = .int .i64 n2 := hG.dep 31 (by decide) 50 rfl
            have t41 : a.tmps.getD 41 undef = .bool true := hG.dep 22 (by decide) 41 rfl
            exact op_value_g (w1 := W) ho1 (wanted_yes rfl rfl t41) (.int .i64 ((n1 : Int) + (n2 : Int))) (by simp [go_sem, Act.eval, -Array.getD_eq_getD_getElem?, t47, t50, t41, hwr]) (Gr.refl _) rfl
          | 33 =>
            have ho1 := ho
            cases ho
            have t44 : a.tmps.getD 44 undef = .int .i64 ((n1 : Int) + (n2 : Int)) := hG.dep 25 (by decide) 44 rfl
            have t51 : a.tmps.getD 51 undef = .int .i64 ((n1 : Int) + (n2 : Int)) := hG.dep 32 (by decide) 51 rfl
            have t41 : a.tmps.getD 41 undef = .bool true := hG.dep 22 (by decide) 41 rfl
            exact op_value_g (w1 := W) ho1 (wanted_yes rfl rfl t41) (.bool true) (by simp [go_sem, Act.eval, -Array.getD_eq_getD_getElem?, t44, t51, t41]) (Gr.refl _) rfl
          | 34 =>
            have ho1 := ho
            cases ho
            have t41 : a.tmps.getD 41 undef = .bool true := hG.dep 22 (by decide) 41 rfl
            have t52 : a.tmps.getD 52 undef = .bool true := hG.dep 33 (by decide) 52 rfl
            exact op_value_g (w1 := W) ho1 (wanted_none rfl) (.bool true) (by simp [go_sem, Act.eval, -Array.getD_eq_getD_getElem?, t41, t52]) (Gr.refl _) rfl
          | 35 =>
            have ho1 := ho
            cases ho
            have t53 : a.tmps.getD 53 undef = .bool true := hG.dep 34 (by decide) 53 rfl
            exact op_value_g (w1 := W) ho1 (wanted_none rfl) (.bool true) (by simp [go_sem, Act.eval, -Array.getD_eq_getD_getElem?, t53]) (Gr.refl _) rfl
          | 36 =>
            have ho1 := ho
            cases ho
            have t54 : a.tmps.getD 54 undef = .bool true := hG.dep 35 (by decide) 54 rfl
            refine op_call_g ho1 (wanted_yes rfl rfl t54) 14 #[] (by simp [go_sem, Act.eval, -Array.getD_eq_getD_getElem?, t54]) ?_
            refine (awake_any W).mono ?_
            rintro e W' ⟨rfl, hb'⟩
            exact ⟨_, rfl, hb', rfl⟩
          | 37 =>
            have ho1 := ho
            cases ho
            have t54 : a.tmps.getD 54 undef = .bool true := hG.dep 35 (by decide) 54 rfl
            have t55 : a.tmps.getD 55 undef = .bool true := hG.dep 36 (by decide) 55 rfl
            exact op_value_g (w1 := W) ho1 (wanted_none rfl) (.bool true) (by simp [go_sem, Act.eval, -Array.getD_eq_getD_getElem?, t54, t55]) (Gr.refl _) rfl
          | 38 =>
            have ho1 := ho
            cases ho
            have t56 : a.tmps.getD 56 undef = .bool true := hG.dep 37 (by decide) 56 rfl
            exact op_value_g (w1 := W) ho1 (wanted_none rfl) (.bool true) (by simp [go_sem, Act.eval, -Array.getD_eq_getD_getElem?, t56]) (Gr.refl _) rfl
          | q + 39 => cases ho
        · intro a W hbW hD
          have hfr := hD.frame [19, 20, 21, 22, 23, 24, 25, 26, 27, 28, 29, 30, 31, 32, 33, 34, 35, 36, 37, 38, 39, 40, 41, 42, 43, 44, 45, 46, 47, 48, 49, 50, 51, 52, 53, 54, 55, 56, 4] (by kernel_rfl)
          have t19 : a.tmps.getD 19 undef = .agg #[.slice A1 n1 c1, .slice A2 n2 c2] := hD.sp 0 (by decide) 19 rfl
          have t20 : a.tmps.getD 20 undef = .pointer (some ⟨w.heap.size, 0, none⟩) := hD.sp 1 (by decide) 20 rfl
          have t21 : a.tmps.getD 21 undef = .slice A1 n1 c1 := hD.sp 2 (by decide) 21 rfl
          have t22 : a.tmps.getD 22 undef = .bool true := hD.sp 3 (by decide) 22 rfl
          have t23 : a.tmps.getD 23 undef = .bool true := hD.sp 4 (by decide) 23 rfl
          have t24 : a.tmps.getD 24 undef = .agg #[.slice A1 n1 c1, .slice A2 n2 c2] := hD.sp 5 (by decide) 24 rfl
          have t25 : a.tmps.getD 25 undef = .bool false := hD.sp 6 (by decide) 25 rfl
          have t26 : a.tmps.getD 26 undef = .bool true := hD.sp 7 (by decide) 26 rfl
          have t27 : a.tmps.getD 27 undef = .bool true := hD.sp 8 (by decide) 27 rfl
          have t28 : a.tmps.getD 28 undef = .bool true := hD.sp 9 (by decide) 28 rfl
          have t29 : a.tmps.getD 29 undef = .agg #[.slice A1 n1 c1, .slice A2 n2 c2] := hD.sp 10 (by decide) 29 rfl
          have t30 : a.tmps.getD 30 undef = .slice A5 n5 c5 := hD.sp 11 (by decide) 30 rfl
          have t31 : a.tmps.getD 31 undef = .bool (major vs xs) := hD.sp 12 (by decide) 31 rfl
          have t32 : a.tmps.getD 32 undef = .agg #[.slice A1 n1 c1, .slice A2 n2 c2] := hD.sp 13 (by decide) 32 rfl
          have t33 : a.tmps.getD 33 undef = .slice A5 n5 c5 := hD.sp 14 (by decide) 33 rfl
          have t34 : a.tmps.getD 34 undef = .pointer (some ⟨w.heap.size, 1, none⟩) := hD.sp 15 (by decide) 34 rfl
          have t35 : a.tmps.getD 35 undef = .slice A2 n2 c2 := hD.sp 16 (by decide) 35 rfl
          have t38 : a.tmps.getD 38 undef = .bool (major vs xs) := hD.sp 19 (by decide) 38 rfl
          have t39 : a.tmps.getD 39 undef = .bool true := hD.sp 20 (by decide) 39 rfl
          have t40 : a.tmps.getD 40 undef = .bool true := hD.sp 21 (by decide) 40 rfl
          have t41 : a.tmps.getD 41 undef = .bool true := hD.sp 22 (by decide) 41 rfl
          have t42 : a.tmps.getD 42 undef = .agg #[.slice A1 n1 c1, .slice A2 n2 c2] := hD.sp 23 (by decide) 42 rfl
          have t44 : a.tmps.getD 44 undef = .int .i64 ((n1 : Int) + (n2 : Int)) := hD.sp 25 (by decide) 44 rfl
          have t45 : a.tmps.getD 45 undef = .pointer (some ⟨w.heap.size, 0, none⟩) := hD.sp 26 (by decide) 45 rfl
          have t46 : a.tmps.getD 46 undef = .slice A1 n1 c1 := hD.sp 27 (by decide) 46 rfl
          have t47 : a.tmps.getD 47 undef = .int .i64 n1 := hD.sp 28 (by decide) 47 rfl
          have t48 : a.tmps.getD 48 undef = .pointer (some ⟨w.heap.size, 1, none⟩) := hD.sp 29 (by decide) 48 rfl
          have t49 : a.tmps.getD 49 undef = .slice A2 n2 c2 := hD.sp 30 (by decide) 49 rfl
          have t50 : a.tmps.getD 50 undef = .int .i64 n2 := hD.sp 31 (by decide) 50 rfl
          have t51 : a.tmps.getD 51 undef = .int .i64 ((n1 : Int) + (n2 : Int)) := hD.sp 32 (by decide) 51 rfl
          have t52 : a.tmps.getD 52 undef = .bool true := hD.sp 33 (by decide) 52 rfl
          have t53 : a.tmps.getD 53 undef = .bool true := hD.sp 34 (by decide) 53 rfl
          have t54 : a.tmps.getD 54 undef = .bool true := hD.sp 35 (by decide) 54 rfl
          have t55 : a.tmps.getD 55 undef = .bool true := hD.sp 36 (by decide) 55 rfl
          have t56 : a.tmps.getD 56 undef = .bool true := hD.sp 37 (by decide) 56 rfl
          have t4 : a.tmps.getD 4 undef = .bool true := hD.sp 38 (by decide) 4 rfl
          simp only [List.foldl_cons, List.foldl_nil] at hfr
          rw [t19, t20, t21, t22, t23, t24, t25, t26, t27, t28, t29, t30, t31, t32, t33, t34, t35, t38, t39, t40, t41, t42, t44, t45, t46, t47, t48, t49, t50, t51, t52, t53, t54, t55, t56, t4] at hfr
          generalize a.tmps.getD 36 undef = u36 at hfr
          generalize a.tmps.getD 37 undef = u37 at hfr
          generalize a.tmps.getD 43 undef = u43 at hfr
          rw [hfr]
          clear hfr hD t19 t20 t21 t22 t23 t24 t25 t26 t27 t28 t29 t30 t31 t32 t33 t34 t35 t38 t39 t40 t41 t42 t44 t45 t46 t47 t48 t49 t50 t51 t52 t53 t54 t55 t56 t4
          have HBW := Kp.mk hbW
          clear hbW
          simp only [Act.put, List.setIfInBounds_toArray, List.set_cons_succ, List.set_cons_zero]
          go_wp2
          go_ret
          exact ⟨rfl, hbw.trans (HBW.it.mono hbw.size)⟩
set_option linter.unusedVariables false in
set_option maxRecDepth 100000 in
theorem quorumAll_lifted (os : Os) (started : os.Started) (H : Type) (enc : TypeId × Value → H) :
    ReturnsInHanded {} Try.checked os 10 .any (Rows.quorumAllSpec.pre6 enc Try.prog Try.f10 Rows.quorumAllRow.domain false) (Rows.quorumAllSpec.post enc Try.prog Try.f10 false true false false) := by
  refine returnsInHanded_of_change_sized (C := Try.checked) (by kernel_rfl) started (by kernel_rfl) Try.func10
    (ChangeSpec.witness6 (enc := enc) (C := Try.checked) false ⟨#[], #[.agg #[.slice none 0 0, .slice none 0 0], .slice none 0 0], []⟩ 8 (by kernel_rfl) (by kernel_rfl) (by kernel_rfl) (by kernel_rfl)) ?_
  intro W base args ds gs before hval0 hW hcnd hsz0 _
  have hval : ∀ (j : Nat) t v, Try.f10.params[j]? = some t → args[j]? = some v → Value.okWide Try.prog W .any base t v := hval0
  have hW' := hW
  obtain ⟨p, q, hA0, hV, rfl, hfz, hnd⟩ := hW
  have hA : DataW.TrodAll enc Try.prog W 0 (fun _ => true) true Try.f10.params.toList args.toList ds p := hA0
  have hsz : (DataW.weightsEach Try.prog (Try.f10.params.toList ++ Rows.quorumAllSpec.plain.varTypes Try.prog) (ds ++ gs)).all (· ≤ reachBytes) = true := hsz0
  rw [Try.params10] at hA hval hsz
  obtain ⟨v0, vs0, d0, ds0, p0, q0, hargs, rfl, rfl, h0, r0⟩ := trodAll_cons hA
  obtain ⟨v1, vs1, d1, ds1, p1, q1, rfl, rfl, rfl, h1, r1⟩ := trodAll_cons r0
  obtain ⟨rfl, rfl, rfl⟩ := trodAll_nil r1
  obtain rfl : args = #[v0, v1] := by cases args; simp_all
  obtain ⟨rfl, rfl⟩ := trodVars_none hV
  have k0 := h0
  have lt0 : ∀ x ∈ p0, x.block < W.heap.size := by obtain ⟨m, hm⟩ := k0; exact DataW.trod_lt m _ _ _ hm
  obtain ⟨A0, n0, c0, B0, m0, e0, vs0', ls0', rfl, ra0, rb0, ea0, eb0⟩ := ro_open2 (hval 0 24 v0 rfl rfl) h0 (fun x hx => by simpa using List.all_eq_true.1 hsz x (DataW.weights_mem_each (j := 0) (t := 24) rfl rfl x hx))
  have k1 := h1
  have lt1 : ∀ x ∈ p1, x.block < W.heap.size := by obtain ⟨m, hm⟩ := k1; exact DataW.trod_lt m _ _ _ hm
  obtain ⟨A1, n1, c1, xs1, rfl, ra1, ea1⟩ := sl_open2 (hval 1 22 v1 rfl rfl) h1 (fun x hx => by simpa using List.all_eq_true.1 hsz x (DataW.weights_mem_each (j := 1) (t := 22) rfl rfl x hx))
  clear hA0 hval0 hsz hsz0
  refine (all_walk _ _ _ _ _ _ _ _ _ _ _ _ W ra0 rb0 ra1 ea0 eb0 ea1).mono fun e W' ⟨he, bel⟩ => ?_
  subst he
  exact ⟨_, rfl, _, _, _, [], _, [], hW', trodAll_mk1 (shut_bool Try.underlying4 _), (trodAll_cons_mk (Below.trod (by kernel_rfl) (by kernel_rfl) (of_decide_eq_true (by kernel_rfl)) k0 bel lt0) (trodAll_cons_mk (Below.trod (by kernel_rfl) (by kernel_rfl) (of_decide_eq_true (by kernel_rfl)) k1 bel lt1) trodAll_mk0)), rfl, bel.frame _, fun h => by cases h⟩

theorem QuorumAll_holds : Rows.QuorumAllSaid :=
  OpenClaim.holds_of_wide 10 Try.f10 rfl rfl rfl rfl rfl rfl rfl ⟨rfl, rfl, rfl, rfl, rfl⟩ rfl rfl rfl rfl rfl (by kernel_rfl) Try.func10 (by kernel_rfl)
    (of_decide_eq_true (by kernel_rfl)) (by unfold Func.isWrapper; first | (rw [if_pos (by decide +kernel)]; kernel_rfl) | (rw [if_neg (by decide +kernel)]; exact ⟨rfl, rfl⟩))
    (fun os started H enc _ => quorumAll_lifted os started H enc)

end Go.Proofs.Ytbfpdahbmdaenaa
