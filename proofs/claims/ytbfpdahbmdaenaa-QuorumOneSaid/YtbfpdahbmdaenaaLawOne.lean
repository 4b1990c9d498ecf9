/-
  QuorumOne: of a roster and any other one that may come behind it the voters differ in at most one; no roster may come behind itself.
-/
import Derived.Test.YtbfpdahbmdaenaaLong
import Derived.Test.YtbfpdahbmdaenaaMays
import Derived.Test.YtbfpdahbmdaenaaVotes
import Derived.Test.YtbfpdahbmdaenaaPlain4
import Derived.Test.YtbfpdahbmdaenaaAwake
import Derived.Test.YtbfpdahbmdaenaaOpen
namespace Go.Proofs.Ytbfpdahbmdaenaa
open Go.ChangeShapes Go.WideShapes Go.ChangeAt Go.RowKit

set_option linter.unusedSimpArgs false in
set_option linter.unusedVariables false in
set_option maxRecDepth 100000 in
set_option maxHeartbeats 4000000 in
theorem one_walk (A1 A2 : Option Addr) (n1 c1 n2 c2 : Nat) (vs ls : List Int) (A3 A4 : Option Addr) (n3 c3 n4 c4 : Nat) (vs' ls' : List Int) (w : World) (h1 : Rd w A1 n1 vs) (h2 : Rd w A2 n2 ls) (h3 : Rd w A3 n3 vs') (h4 : Rd w A4 n4 ls') : Calls Try.prog 8 #[.agg #[.slice A1 n1 c1, .slice A2 n2 c2], .agg #[.slice A3 n3 c3, .slice A4 n4 c4]] w fun e w' => e = .returned (.bool true) ∧ Below w.heap.size w w' := by
  have HA := Kp.mk h1
  have HB := Kp.mk h2
  have HC := Kp.mk h3
  have HD := Kp.mk h4
  clear h1 h2 h3 h4
  obtain ⟨lg, hl⟩ : ∃ lg, lg = [(A1, n1, c1, A2, n2, c2), (A3, n3, c3, A4, n4, c4)].any lonB := ⟨_, rfl⟩
  have HLON := Kp.mk hl.symm
  clear hl
  have HRO : Kp (Ros (((w.alloc (.cells #[.slice A1 n1 c1, .slice A2 n2 c2] 24)).alloc (.cells #[.slice A3 n3 c3, .slice A4 n4 c4] 24)).alloc (.cells #[.slice A1 n1 c1, .slice A2 n2 c2, .slice A3 n3 c3, .slice A4 n4 c4] 24)) (w.heap.size + 1 + 1) [(A1, n1, c1, A2, n2, c2), (A3, n3, c3, A4, n4, c4)]) := ⟨by have := ros_new2 ((w.alloc (.cells #[.slice A1 n1 c1, .slice A2 n2 c2] 24)).alloc (.cells #[.slice A3 n3 c3, .slice A4 n4 c4] 24)) A1 n1 c1 A2 n2 c2 A3 n3 c3 A4 n4 c4; rwa [World.size_alloc, World.size_alloc] at this⟩
  go_enter Try.func8, Try.ntmps8
  go_wp2_with fail
  refine (long_any _ 2 [(A1, n1, c1, A2, n2, c2), (A3, n3, c3, A4, n4, c4)] _ HRO.it (by simp)).mono ?_
  rintro e w1 ⟨rfl, hb1⟩
  rw [HLON.it]
  have z0 : w1.cell? ⟨w.heap.size, 0, none⟩ = some (.slice A1 n1 c1) := (hb1.cell (p := ⟨w.heap.size, 0, none⟩) (by simp; omega)).trans (blk_cell (blk_old _ (blk_old _ (blk_new _ _))) rfl)
  have z1 : w1.cell? ⟨w.heap.size, 1, none⟩ = some (.slice A2 n2 c2) := (hb1.cell (p := ⟨w.heap.size, 1, none⟩) (by simp; omega)).trans (blk_cell (blk_old _ (blk_old _ (blk_new _ _))) rfl)
  have z2 : w1.cell? ⟨w.heap.size + 1, 0, none⟩ = some (.slice A3 n3 c3) := (hb1.cell (p := ⟨w.heap.size + 1, 0, none⟩) (by simp)).trans (blk_cell (blk_old _ (blk_new1 _ _ _)) rfl)
  have z3 : w1.cell? ⟨w.heap.size + 1, 1, none⟩ = some (.slice A4 n4 c4) := (hb1.cell (p := ⟨w.heap.size + 1, 1, none⟩) (by simp)).trans (blk_cell (blk_old _ (blk_new1 _ _ _)) rfl)
  have hs1 : w.heap.size + 1 < w1.heap.size := by have := hb1.size; simp at this; omega
  have HB1 : Kp (Below w.heap.size w w1) := ⟨((((Below.refl _ _).alloc (Nat.le_refl _) _).alloc (by simp) _).alloc (by simp; omega) _).trans (hb1.mono (by simp; omega))⟩
  clear hb1 HRO
  cases lg with
  | true =>
    go_wp2_with (go_at_call 14; refine (awake_any _).mono ?_; rintro e w' ⟨rfl, hb'⟩)
    go_ret
    exact ⟨rfl, HB1.it.trans (hb'.mono HB1.it.size)⟩
  | false =>
    go_wp2_with fail
    refine (may_any _ _ _ _ _ _ vs ls _ _ _ _ _ _ vs' ls' _ (HA.it.below HB1.it) (HB.it.below HB1.it) (HC.it.below HB1.it) (HD.it.below HB1.it)).mono ?_
    rintro e w2 ⟨rfl, hb2⟩
    have z0' := (hb2.cell (p := ⟨w.heap.size, 0, none⟩) (by simp; omega)).trans z0
    have z1' := (hb2.cell (p := ⟨w.heap.size, 1, none⟩) (by simp; omega)).trans z1
    have z2' := (hb2.cell (p := ⟨w.heap.size + 1, 0, none⟩) (by simp; omega)).trans z2
    have z3' := (hb2.cell (p := ⟨w.heap.size + 1, 1, none⟩) (by simp; omega)).trans z3
    have hs1' : w.heap.size + 1 < w2.heap.size := Nat.lt_of_lt_of_le hs1 hb2.size
    have hs0' : w.heap.size < w2.heap.size := by omega
    have HB2 := Kp.mk (HB1.it.trans (hb2.mono HB1.it.size))
    clear hb2 z0 z1 z2 z3 hs1
    obtain ⟨em, hem⟩ : ∃ em, em = errM vs ls vs' ls' := ⟨_, rfl⟩
    rw [← hem]
    by_cases h0 : em = 0
    · subst h0
      have HO := Kp.mk (one_le hem.symm)
      have HS := Kp.mk (errM_self (errM_ok hem.symm).1)
      have HA2 := Kp.mk (HA.it.below HB2.it)
      have HBB2 := Kp.mk (HB.it.below HB2.it)
      have HC2 := Kp.mk (HC.it.below HB2.it)
      clear hem
      go_wp2
      go_loopw [5, 18] (fun t i wr => ∃ k : Nat, k ≤ 5 ∧ i = .int .i64 k ∧ t = .int .i64 (dif (vot vs) (vot vs') k : Nat) ∧ Kp (Below w2.heap.size w2 wr)) (fun _ i _ => 5 - (intOf i).toNat)
      case atStart => exact ⟨0, by omega, rfl, rfl, ⟨Below.refl _ _⟩⟩
      case round =>
        obtain ⟨k, hk, rfl, rfl, hB⟩ := hrel
        have hdl := dif_le (vot vs) (vot vs') k
        by_cases hk5 : k < 5
        · have hd : decide ((k : Int) < 5) = true := by simp; omega
          have hs0 := hs0'
          have hs1 := hs1'
          cases hne : (inB vs k != inB vs' k) with
          | true =>
            have HD : Kp (dif (vot vs) (vot vs') (k + 1) = dif (vot vs) (vot vs') k + 1) := ⟨by rw [dif, if_neg (by rw [vot_ne]; exact bne_iff_ne.1 hne)]⟩
            have hne2 := eq_false (bne_iff_ne.1 hne)
            go_wp2_with fail
            have hbw := hB.it
            refine wp_region_sp [.ex (.agg #[.slice A1 n1 c1, .slice A2 n2 c2]), .ex (.int .i64 (k : Int)), .ex (.bool (inB vs k)), .ex (.agg #[.slice A3 n3 c3, .slice A4 n4 c4]), .ex (.int .i64 (k : Int)), .ex (.bool (inB vs' k)), .ex (.bool true)] (by kernel_rfl) (by kernel_rfl) ?_ ?_
            · intro i o ho a W hbW hG
              match i with
              | 0 =>
                have ho1 := ho
                cases ho
                have t2 : a.tmps.getD 2 undef = .pointer (some ⟨w.heap.size, 0, none⟩) := hG.old 2 (by decide)
                have z0 := ((hbw.trans (hbW.mono hbw.size)).cell (p := ⟨w.heap.size, 0, none⟩) hs0).trans z0'
                have z1 := ((hbw.trans (hbW.mono hbw.size)).cell (p := ⟨w.heap.size, 1, none⟩) hs0).trans z1'
                have z2 := ((hbw.trans (hbW.mono hbw.size)).cell (p := ⟨w.heap.size + 1, 0, none⟩) hs1).trans z2'
                have z3 := ((hbw.trans (hbW.mono hbw.size)).cell (p := ⟨w.heap.size + 1, 1, none⟩) hs1).trans z3'
                exact op_value_g (w1 := W) ho1 (wanted_none rfl) (.agg #[.slice A1 n1 c1, .slice A2 n2 c2]) (by simp [go_sem, Act.eval, -Array.getD_eq_getD_getElem?, t2, hne2, z0, z1, z2, z3]) (Gr.refl _) rfl
              | 1 =>
                have ho1 := ho
                cases ho
                have t6 : a.tmps.getD 6 undef = .int .i64 (k : Int) := hG.old 6 (by decide)
                exact op_value_g (w1 := W) ho1 (wanted_none rfl) (.int .i64 (k : Int)) (by simp [go_sem, Act.eval, -Array.getD_eq_getD_getElem?, t6, hne2]) (Gr.refl _) rfl
              | 2 =>
                have ho1 := ho
                cases ho
                have t21 : a.tmps.getD 21 undef = .agg #[.slice A1 n1 c1, .slice A2 n2 c2] := hG.dep 0 (by decide) 21 rfl
                have t22 : a.tmps.getD 22 undef = .int .i64 (k : Int) := hG.dep 1 (by decide) 22 rfl
                refine op_call_g ho1 (wanted_none rfl) 23 #[.agg #[.slice A1 n1 c1, .slice A2 n2 c2], .int .i64 (k : Int)] (by simp [go_sem, Act.eval, -Array.getD_eq_getD_getElem?, t21, t22, hne2]) ?_
                refine (votes_any _ _ _ _ _ _ vs W (HA2.it.below (hbw.trans (hbW.mono hbw.size))) k).mono ?_
                rintro e W' ⟨rfl, hb'⟩
                exact ⟨_, rfl, hb', rfl⟩
              | 3 =>
                have ho1 := ho
                cases ho
                have t3 : a.tmps.getD 3 undef = .pointer (some ⟨w.heap.size + 1, 0, none⟩) := hG.old 3 (by decide)
                have z0 := ((hbw.trans (hbW.mono hbw.size)).cell (p := ⟨w.heap.size, 0, none⟩) hs0).trans z0'
                have z1 := ((hbw.trans (hbW.mono hbw.size)).cell (p := ⟨w.heap.size, 1, none⟩) hs0).trans z1'
                have z2 := ((hbw.trans (hbW.mono hbw.size)).cell (p := ⟨w.heap.size + 1, 0, none⟩) hs1).trans z2'
                have z3 := ((hbw.trans (hbW.mono hbw.size)).cell (p := ⟨w.heap.size + 1, 1, none⟩) hs1).trans z3'
                exact op_value_g (w1 := W) ho1 (wanted_none rfl) (.agg #[.slice A3 n3 c3, .slice A4 n4 c4]) (by simp [go_sem, Act.eval, -Array.getD_eq_getD_getElem?, t3, hne2, z0, z1, z2, z3]) (Gr.refl _) rfl
              | 4 =>
                have ho1 := ho
                cases ho
                have t6 : a.tmps.getD 6 undef = .int .i64 (k : Int) := hG.old 6 (by decide)
                exact op_value_g (w1 := W) ho1 (wanted_none rfl) (.int .i64 (k : Int)) (by simp [go_sem, Act.eval, -Array.getD_eq_getD_getElem?, t6, hne2]) (Gr.refl _) rfl
              | 5 =>
                have ho1 := ho
                cases ho
                have t24 : a.tmps.getD 24 undef = .agg #[.slice A3 n3 c3, .slice A4 n4 c4] := hG.dep 3 (by decide) 24 rfl
                have t25 : a.tmps.getD 25 undef = .int .i64 (k : Int) := hG.dep 4 (by decide) 25 rfl
                refine op_call_g ho1 (wanted_none rfl) 23 #[.agg #[.slice A3 n3 c3, .slice A4 n4 c4], .int .i64 (k : Int)] (by simp [go_sem, Act.eval, -Array.getD_eq_getD_getElem?, t24, t25, hne2]) ?_
                refine (votes_any _ _ _ _ _ _ vs' W (HC2.it.below (hbw.trans (hbW.mono hbw.size))) k).mono ?_
                rintro e W' ⟨rfl, hb'⟩
                exact ⟨_, rfl, hb', rfl⟩
              | 6 =>
                have ho1 := ho
                cases ho
                have t23 : a.tmps.getD 23 undef = .bool (inB vs k) := hG.dep 2 (by decide) 23 rfl
                have t26 : a.tmps.getD 26 undef = .bool (inB vs' k) := hG.dep 5 (by decide) 26 rfl
                exact op_value_g (w1 := W) ho1 (wanted_none rfl) (.bool true) (by simp [go_sem, Act.eval, -Array.getD_eq_getD_getElem?, t23, t26, hne2]) (Gr.refl _) rfl
              | q + 7 => cases ho
            · intro a W hbW hD
              have hfr := hD.frame [21, 22, 23, 24, 25, 26, 27] (by kernel_rfl)
              have t21 : a.tmps.getD 21 undef = .agg #[.slice A1 n1 c1, .slice A2 n2 c2] := hD.sp 0 (by decide) 21 rfl
              have t22 : a.tmps.getD 22 undef = .int .i64 (k : Int) := hD.sp 1 (by decide) 22 rfl
              have t23 : a.tmps.getD 23 undef = .bool (inB vs k) := hD.sp 2 (by decide) 23 rfl
              have t24 : a.tmps.getD 24 undef = .agg #[.slice A3 n3 c3, .slice A4 n4 c4] := hD.sp 3 (by decide) 24 rfl
              have t25 : a.tmps.getD 25 undef = .int .i64 (k : Int) := hD.sp 4 (by decide) 25 rfl
              have t26 : a.tmps.getD 26 undef = .bool (inB vs' k) := hD.sp 5 (by decide) 26 rfl
              have t27 : a.tmps.getD 27 undef = .bool true := hD.sp 6 (by decide) 27 rfl
              simp only [List.foldl_cons, List.foldl_nil] at hfr
              rw [t21, t22, t23, t24, t25, t26, t27] at hfr
              rw [hfr]
              clear hfr hD t21 t22 t23 t24 t25 t26 t27
              have HBW := Kp.mk hbW
              clear hbW
              simp only [Act.put, List.setIfInBounds_toArray, List.set_cons_succ, List.set_cons_zero]
              go_wp2
              go_roundw
              case rel => exact ⟨k + 1, by omega, by go_num, by rw [HD.it]; go_num, ⟨hbw.trans (HBW.it.mono hbw.size)⟩⟩
              case measure => simp [intOf]; omega
          | false =>
            have HD : Kp (dif (vot vs) (vot vs') (k + 1) = dif (vot vs) (vot vs') k) := ⟨by rw [dif, if_pos (by rw [vot_ne]; exact bne_eq_false_iff_eq.1 hne)]; rfl⟩
            have hne2 := eq_true (bne_eq_false_iff_eq.1 hne)
            go_wp2_with fail
            have hbw := hB.it
            refine wp_region_sp [.ex (.agg #[.slice A1 n1 c1, .slice A2 n2 c2]), .ex (.int .i64 (k : Int)), .ex (.bool (inB vs k)), .ex (.agg #[.slice A3 n3 c3, .slice A4 n4 c4]), .ex (.int .i64 (k : Int)), .ex (.bool (inB vs' k)), .ex (.bool false)] (by kernel_rfl) (by kernel_rfl) ?_ ?_
            · intro i o ho a W hbW hG
              match i with
              | 0 =>
                have ho1 := ho
                cases ho
                have t2 : a.tmps.getD 2 undef = .pointer (some ⟨w.heap.size, 0, none⟩) := hG.old 2 (by decide)
                have z0 := ((hbw.trans (hbW.mono hbw.size)).cell (p := ⟨w.heap.size, 0, none⟩) hs0).trans z0'
                have z1 := ((hbw.trans (hbW.mono hbw.size)).cell (p := ⟨w.heap.size, 1, none⟩) hs0).trans z1'
                have z2 := ((hbw.trans (hbW.mono hbw.size)).cell (p := ⟨w.heap.size + 1, 0, none⟩) hs1).trans z2'
                have z3 := ((hbw.trans (hbW.mono hbw.size)).cell (p := ⟨w.heap.size + 1, 1, none⟩) hs1).trans z3'
                exact op_value_g (w1 := W) ho1 (wanted_none rfl) (.agg #[.slice A1 n1 c1, .slice A2 n2 c2]) (by simp [go_sem, Act.eval, -Array.getD_eq_getD_getElem?, t2, hne2, z0, z1, z2, z3]) (Gr.refl _) rfl
              | 1 =>
                have ho1 := ho
                cases ho
                have t6 : a.tmps.getD 6 undef = .int .i64 (k : Int) := hG.old 6 (by decide)
                exact op_value_g (w1 := W) ho1 (wanted_none rfl) (.int .i64 (k : Int)) (by simp [go_sem, Act.eval, -Array.getD_eq_getD_getElem?, t6, hne2]) (Gr.refl _) rfl
              | 2 =>
                have ho1 := ho
                cases ho
                have t21 : a.tmps.getD 21 undef = .agg #[.slice A1 n1 c1, .slice A2 n2 c2] := hG.dep 0 (by decide) 21 rfl
                have t22 : a.tmps.getD 22 undef = .int .i64 (k : Int) := hG.dep 1 (by decide) 22 rfl
                refine op_call_g ho1 (wanted_none rfl) 23 #[.agg #[.slice A1 n1 c1, .slice A2 n2 c2], .int .i64 (k : Int)] (by simp [go_sem, Act.eval, -Array.getD_eq_getD_getElem?, t21, t22, hne2]) ?_
                refine (votes_any _ _ _ _ _ _ vs W (HA2.it.below (hbw.trans (hbW.mono hbw.size))) k).mono ?_
                rintro e W' ⟨rfl, hb'⟩
                exact ⟨_, rfl, hb', rfl⟩
              | 3 =>
                have ho1 := ho
                cases ho
                have t3 : a.tmps.getD 3 undef = .pointer (some ⟨w.heap.size + 1, 0, none⟩) := hG.old 3 (by decide)
                have z0 := ((hbw.trans (hbW.mono hbw.size)).cell (p := ⟨w.heap.size, 0, none⟩) hs0).trans z0'
                have z1 := ((hbw.trans (hbW.mono hbw.size)).cell (p := ⟨w.heap.size, 1, none⟩) hs0).trans z1'
                have z2 := ((hbw.trans (hbW.mono hbw.size)).cell (p := ⟨w.heap.size + 1, 0, none⟩) hs1).trans z2'
                have z3 := ((hbw.trans (hbW.mono hbw.size)).cell (p := ⟨w.heap.size + 1, 1, none⟩) hs1).trans z3'
                exact op_value_g (w1 := W) ho1 (wanted_none rfl) (.agg #[.slice A3 n3 c3, .slice A4 n4 c4]) (by simp [go_sem, Act.eval, -Array.getD_eq_getD_getElem?, t3, hne2, z0, z1, z2, z3]) (Gr.refl _) rfl
              | 4 =>
                have ho1 := ho
                cases ho
                have t6 : a.tmps.getD 6 undef = .int .i64 (k : Int) := hG.old 6 (by decide)
                exact op_value_g (w1 := W) ho1 (wanted_none rfl) (.int .i64 (k : Int)) (by simp [go_sem, Act.eval, -Array.getD_eq_getD_getElem?, t6, hne2]) (Gr.refl _) rfl
              | 5 =>
                have ho1 := ho
                cases ho
                have t24 : a.tmps.getD 24 undef = .agg #[.slice A3 n3 c3, .slice A4 n4 c4] := hG.dep 3 (by decide) 24 rfl
                have t25 : a.tmps.getD 25 undef = .int .i64 (k : Int) := hG.dep 4 (by decide) 25 rfl
                refine op_call_g ho1 (wanted_none rfl) 23 #[.agg #[.slice A3 n3 c3, .slice A4 n4 c4], .int .i64 (k : Int)] (by simp [go_sem, Act.eval, -Array.getD_eq_getD_getElem?, t24, t25, hne2]) ?_
                refine (votes_any _ _ _ _ _ _ vs' W (HC2.it.below (hbw.trans (hbW.mono hbw.size))) k).mono ?_
                rintro e W' ⟨rfl, hb'⟩
                exact ⟨_, rfl, hb', rfl⟩
              | 6 =>
                have ho1 := ho
                cases ho
                have t23 : a.tmps.getD 23 undef = .bool (inB vs k) := hG.dep 2 (by decide) 23 rfl
                have t26 : a.tmps.getD 26 undef = .bool (inB vs' k) := hG.dep 5 (by decide) 26 rfl
                exact op_value_g (w1 := W) ho1 (wanted_none rfl) (.bool false) (by simp [go_sem, Act.eval, -Array.getD_eq_getD_getElem?, t23, t26, hne2]) (Gr.refl _) rfl
              | q + 7 => cases ho
            · intro a W hbW hD
              have hfr := hD.frame [21, 22, 23, 24, 25, 26, 27] (by kernel_rfl)
              have t21 : a.tmps.getD 21 undef = .agg #[.slice A1 n1 c1, .slice A2 n2 c2] := hD.sp 0 (by decide) 21 rfl
              have t22 : a.tmps.getD 22 undef = .int .i64 (k : Int) := hD.sp 1 (by decide) 22 rfl
              have t23 : a.tmps.getD 23 undef = .bool (inB vs k) := hD.sp 2 (by decide) 23 rfl
              have t24 : a.tmps.getD 24 undef = .agg #[.slice A3 n3 c3, .slice A4 n4 c4] := hD.sp 3 (by decide) 24 rfl
              have t25 : a.tmps.getD 25 undef = .int .i64 (k : Int) := hD.sp 4 (by decide) 25 rfl
              have t26 : a.tmps.getD 26 undef = .bool (inB vs' k) := hD.sp 5 (by decide) 26 rfl
              have t27 : a.tmps.getD 27 undef = .bool false := hD.sp 6 (by decide) 27 rfl
              simp only [List.foldl_cons, List.foldl_nil] at hfr
              rw [t21, t22, t23, t24, t25, t26, t27] at hfr
              rw [hfr]
              clear hfr hD t21 t22 t23 t24 t25 t26 t27
              have HBW := Kp.mk hbW
              clear hbW
              simp only [Act.put, List.setIfInBounds_toArray, List.set_cons_succ, List.set_cons_zero]
              go_wp2
              go_roundw
              case rel => exact ⟨k + 1, by omega, by go_num, by rw [HD.it], ⟨hbw.trans (HBW.it.mono hbw.size)⟩⟩
              case measure => simp [intOf]; omega
        · obtain rfl : k = 5 := by omega
          obtain ⟨dd, hdd⟩ : ∃ dd, dd = dif (vot vs) (vot vs') 5 := ⟨_, rfl⟩
          rw [← hdd] at HO ⊢
          have h1 : dd ≤ 1 := HO.it
          have z0 := (hB.it.cell (p := ⟨w.heap.size, 0, none⟩) hs0').trans z0'
          have z1 := (hB.it.cell (p := ⟨w.heap.size, 1, none⟩) hs0').trans z1'
          have HA3 := Kp.mk (HA2.it.below hB.it)
          have HB3 := Kp.mk (HBB2.it.below hB.it)
          have HBL := Kp.mk (HB2.it.trans (hB.it.mono HB2.it.size))
          clear hdd z0' z1' z2' z3' hdl
          go_wp2_with fail
          refine (may_any _ _ _ _ _ _ vs ls _ _ _ _ _ _ vs ls _ HA3.it HB3.it HA3.it HB3.it).mono ?_
          rintro e w4 ⟨rfl, hb4⟩
          rw [HS.it]
          have HBM := Kp.mk (HBL.it.trans (hb4.mono HBL.it.size))
          clear hb4
          go_wp2_with (go_at_call 14; refine (awake_any _).mono ?_; rintro e w' ⟨rfl, hb'⟩)
          go_ret
          exact ⟨rfl, HBM.it.trans (hb'.mono HBM.it.size)⟩
    · have h0' : (em != 0) = true := by simpa using h0
      clear h0 hem
      go_wp2_with (go_at_call 14; refine (awake_any _).mono ?_; rintro e w' ⟨rfl, hb'⟩)
      go_ret
      exact ⟨rfl, HB2.it.trans (hb'.mono HB2.it.size)⟩

set_option linter.unusedVariables false in
set_option maxRecDepth 100000 in
theorem quorumOne_lifted (os : Os) (started : os.Started) (H : Type) (enc : TypeId × Value → H) :
    ReturnsInHanded {} Try.checked os 8 .any (Rows.quorumOneSpec.pre6 enc Try.prog Try.f8 Rows.quorumOneRow.domain false) (Rows.quorumOneSpec.post enc Try.prog Try.f8 false true false false) := by
  refine returnsInHanded_of_change_sized (C := Try.checked) (by kernel_rfl) started (by kernel_rfl) Try.func8
    (ChangeSpec.witness6 (enc := enc) (C := Try.checked) false ⟨#[], #[.agg #[.slice none 0 0, .slice none 0 0], .agg #[.slice none 0 0, .slice none 0 0]], []⟩ 8 (by kernel_rfl) (by kernel_rfl) (by kernel_rfl) (by kernel_rfl)) ?_
  intro W base args ds gs before hval0 hW hcnd hsz0 _
  have hval : ∀ (j : Nat) t v, Try.f8.params[j]? = some t → args[j]? = some v → Value.okWide Try.prog W .any base t v := hval0
  have hW' := hW
  obtain ⟨p, q, hA0, hV, rfl, hfz, hnd⟩ := hW
  have hA : DataW.TrodAll enc Try.prog W 0 (fun _ => true) true Try.f8.params.toList args.toList ds p := hA0
  have hsz : (DataW.weightsEach Try.prog (Try.f8.params.toList ++ Rows.quorumOneSpec.plain.varTypes Try.prog) (ds ++ gs)).all (· ≤ reachBytes) = true := hsz0
  rw [Try.params8] at hA hval hsz
  obtain ⟨v0, vs0, d0, ds0, p0, q0, hargs, rfl, rfl, h0, r0⟩ := trodAll_cons hA
  obtain ⟨v1, vs1, d1, ds1, p1, q1, rfl, rfl, rfl, h1, r1⟩ := trodAll_cons r0
  obtain ⟨rfl, rfl, rfl⟩ := trodAll_nil r1
  obtain rfl : args = #[v0, v1] := by cases args; simp_all
  obtain ⟨rfl, rfl⟩ := trodVars_none hV
  have k0 := h0
  have lt0 : ∀ x ∈ p0, x.block < W.heap.size := by obtain ⟨m, hm⟩ := k0; exact DataW.trod_lt m _ _ _ hm
  obtain ⟨A0, n0, c0, B0, m0, e0, vs0', ls0', rfl, ra0, rb0⟩ := ro_open (hval 0 24 v0 rfl rfl) h0 (fun x hx => by simpa using List.all_eq_true.1 hsz x (DataW.weights_mem_each (j := 0) (t := 24) rfl rfl x hx))
  have k1 := h1
  have lt1 : ∀ x ∈ p1, x.block < W.heap.size := by obtain ⟨m, hm⟩ := k1; exact DataW.trod_lt m _ _ _ hm
  obtain ⟨A1, n1, c1, B1, m1, e1, vs1', ls1', rfl, ra1, rb1⟩ := ro_open (hval 1 24 v1 rfl rfl) h1 (fun x hx => by simpa using List.all_eq_true.1 hsz x (DataW.weights_mem_each (j := 1) (t := 24) rfl rfl x hx))
  clear hA0 hval0 hsz hsz0
  refine (one_walk _ _ _ _ _ _ _ _ _ _ _ _ _ _ _ _ W ra0 rb0 ra1 rb1).mono fun e W' ⟨he, bel⟩ => ?_
  subst he
  exact ⟨_, rfl, _, _, _, [], _, [], hW', trodAll_mk1 (shut_bool Try.underlying4 _), (trodAll_cons_mk (Below.trod (by kernel_rfl) (by kernel_rfl) (of_decide_eq_true (by kernel_rfl)) k0 bel lt0) (trodAll_cons_mk (Below.trod (by kernel_rfl) (by kernel_rfl) (of_decide_eq_true (by kernel_rfl)) k1 bel lt1) trodAll_mk0)), rfl, bel.frame _, fun h => by cases h⟩

theorem QuorumOne_holds : Rows.QuorumOneSaid :=
  OpenClaim.holds_of_wide 8 Try.f8 rfl rfl rfl rfl rfl rfl rfl ⟨rfl, rfl, rfl, rfl, rfl⟩ rfl rfl rfl rfl rfl (by kernel_rfl) Try.func8 (by kernel_rfl)
    (of_decide_eq_true (by kernel_rfl)) (by unfold Func.isWrapper; first | (rw [if_pos (by decide +kernel)]; kernel_rfl) | (rw [if_neg (by decide +kernel)]; exact ⟨rfl, rfl⟩))
    (fun os started H enc _ => quorumOne_lifted os started H enc)

end Go.Proofs.Ytbfpdahbmdaenaa
