/-
  QuorumAgrees: Agreed of any roster and any five numbers answers what the reference answers.
-/
import Derived.Test.YtbfpdahbmdaenaaLong
import Derived.Test.YtbfpdahbmdaenaaRAgree
import Derived.Test.YtbfpdahbmdaenaaAwake
import Derived.Test.YtbfpdahbmdaenaaOpen
namespace Go.Proofs.Ytbfpdahbmdaenaa
open Go.ChangeShapes Go.WideShapes Go.ChangeAt Go.RowKit

set_option linter.unusedSimpArgs false in
set_option linter.unusedVariables false in
set_option maxRecDepth 100000 in
set_option maxHeartbeats 4000000 in
theorem agrees_walk (A1 A2 : Option Addr) (n1 c1 n2 c2 : Nat) (vs : List Int) (r : Int → Int) (w : World) (h1 : Rd w A1 n1 vs) : Calls Try.prog 7 #[.agg #[.slice A1 n1 c1, .slice A2 n2 c2], .agg (arr5 r)] w fun e w' => e = .returned (.bool true) ∧ Below w.heap.size w w' := by
  have HA := Kp.mk h1
  clear h1
  obtain ⟨lg, hl⟩ : ∃ lg, lg = [(A1, n1, c1, A2, n2, c2)].any lonB := ⟨_, rfl⟩
  have HLON := Kp.mk hl.symm
  clear hl
  have HRO : Kp (Ros (((w.alloc (.cells #[.slice A1 n1 c1, .slice A2 n2 c2] 24)).alloc (.cells (arr5 r) 25)).alloc (.cells #[.slice A1 n1 c1, .slice A2 n2 c2] 24)) (w.heap.size + 1 + 1) [(A1, n1, c1, A2, n2, c2)]) := ⟨by have := ros_new1 ((w.alloc (.cells #[.slice A1 n1 c1, .slice A2 n2 c2] 24)).alloc (.cells (arr5 r) 25)) A1 n1 c1 A2 n2 c2; rwa [World.size_alloc, World.size_alloc] at this⟩
  have HB1 : Kp ((((w.alloc (.cells #[.slice A1 n1 c1, .slice A2 n2 c2] 24)).alloc (.cells (arr5 r) 25)).alloc (.cells #[.slice A1 n1 c1, .slice A2 n2 c2] 24)).heap[w.heap.size + 1]? = some (.cells (arr5 r) 25 (0, 0))) := ⟨blk_old _ (blk_new1 _ _ _)⟩
  go_enter Try.func7, Try.ntmps7
  go_wp2_with fail
  refine (long_any _ 1 [(A1, n1, c1, A2, n2, c2)] _ HRO.it (by simp)).mono ?_
  rintro e w1 ⟨rfl, hb1⟩
  rw [HLON.it]
  have hz0 : w1.cell? ⟨w.heap.size, 0, none⟩ = some (.slice A1 n1 c1) := (hb1.cell (p := ⟨w.heap.size, 0, none⟩) (by simp; omega)).trans (blk_cell (blk_old _ (blk_old _ (blk_new _ _))) rfl)
  have hz1 : w1.cell? ⟨w.heap.size, 1, none⟩ = some (.slice A2 n2 c2) := (hb1.cell (p := ⟨w.heap.size, 1, none⟩) (by simp; omega)).trans (blk_cell (blk_old _ (blk_old _ (blk_new _ _))) rfl)
  have hy0 : w1.cell? ⟨w.heap.size + 1, 0, none⟩ = some (.int .i64 (r 0)) := (hb1.cell (p := ⟨w.heap.size + 1, 0, none⟩) (by simp)).trans (blk_cell HB1.it rfl)
  have hy1 : w1.cell? ⟨w.heap.size + 1, 1, none⟩ = some (.int .i64 (r 1)) := (hb1.cell (p := ⟨w.heap.size + 1, 1, none⟩) (by simp)).trans (blk_cell HB1.it rfl)
  have hy2 : w1.cell? ⟨w.heap.size + 1, 2, none⟩ = some (.int .i64 (r 2)) := (hb1.cell (p := ⟨w.heap.size + 1, 2, none⟩) (by simp)).trans (blk_cell HB1.it rfl)
  have hy3 : w1.cell? ⟨w.heap.size + 1, 3, none⟩ = some (.int .i64 (r 3)) := (hb1.cell (p := ⟨w.heap.size + 1, 3, none⟩) (by simp)).trans (blk_cell HB1.it rfl)
  have hy4 : w1.cell? ⟨w.heap.size + 1, 4, none⟩ = some (.int .i64 (r 4)) := (hb1.cell (p := ⟨w.heap.size + 1, 4, none⟩) (by simp)).trans (blk_cell HB1.it rfl)
  have hbw : Below w.heap.size w w1 := ((((Below.refl _ _).alloc (Nat.le_refl _) _).alloc (by simp) _).alloc (by simp; omega) _).trans (hb1.mono (by simp; omega))
  have hs0 : w.heap.size < w1.heap.size := by have := hb1.size; simp at this; omega
  have hs1 : w.heap.size + 1 < w1.heap.size := by have := hb1.size; simp at this; omega
  have HBW1 := Kp.mk hbw
  clear hb1 hbw
  cases lg with
  | true =>
    go_wp2_with (go_at_call 14; refine (awake_any _).mono ?_; rintro e w' ⟨rfl, hb'⟩)
    go_ret
    exact ⟨rfl, HBW1.it.trans (hb'.mono HBW1.it.size)⟩
  | false =>
    go_wp2_with fail
    have hbw := HBW1.it
    refine wp_region_sp [.ex (.agg #[.slice A1 n1 c1, .slice A2 n2 c2]), .ex (.agg #[.int .i64 (r 0), .int .i64 (r 1), .int .i64 (r 2), .int .i64 (r 3), .int .i64 (r 4)]), .ex (.int .i64 (agr r vs)), .ex (.agg #[.slice A1 n1 c1, .slice A2 n2 c2]), .ex (.agg #[.int .i64 (r 0), .int .i64 (r 1), .int .i64 (r 2), .int .i64 (r 3), .int .i64 (r 4)]), .ex (.int .i64 (agr r vs)), .ex (.bool true), .ex (.bool true), .ex (.bool true), .ex (.bool true), .ex (.bool true)] (by kernel_rfl) (by kernel_rfl) ?_ ?_
    · intro i o ho a W hbW hG
      match i with
      | 0 =>
        have ho1 := ho
        cases ho
        have t2 : a.tmps.getD 2 undef = .pointer (some ⟨w.heap.size, 0, none⟩) := hG.old 2 (by decide)
        have z0 := (hbW.cell (p := ⟨w.heap.size, 0, none⟩) hs0).trans hz0
        have z1 := (hbW.cell (p := ⟨w.heap.size, 1, none⟩) hs0).trans hz1
        have y0 := (hbW.cell (p := ⟨w.heap.size + 1, 0, none⟩) hs1).trans hy0
        have y1 := (hbW.cell (p := ⟨w.heap.size + 1, 1, none⟩) hs1).trans hy1
        have y2 := (hbW.cell (p := ⟨w.heap.size + 1, 2, none⟩) hs1).trans hy2
        have y3 := (hbW.cell (p := ⟨w.heap.size + 1, 3, none⟩) hs1).trans hy3
        have y4 := (hbW.cell (p := ⟨w.heap.size + 1, 4, none⟩) hs1).trans hy4
        exact op_value_g (w1 := W) ho1 (wanted_none rfl) (.agg #[.slice A1 n1 c1, .slice A2 n2 c2]) (by simp [go_sem, Act.eval, -Array.getD_eq_getD_getElem?, t2, z0, z1, y0, y1, y2, y3, y4]) (Gr.refl _) rfl
      | 1 =>
        have ho1 := ho
        cases ho
        have t3 : a.tmps.getD 3 undef = .pointer (some ⟨w.heap.size + 1, 0, none⟩) := hG.old 3 (by decide)
        have z0 := (hbW.cell (p := ⟨w.heap.size, 0, none⟩) hs0).trans hz0
        have z1 := (hbW.cell (p := ⟨w.heap.size, 1, none⟩) hs0).trans hz1
        have y0 := (hbW.cell (p := ⟨w.heap.size + 1, 0, none⟩) hs1).trans hy0
        have y1 := (hbW.cell (p := ⟨w.heap.size + 1, 1, none⟩) hs1).trans hy1
        have y2 := (hbW.cell (p := ⟨w.heap.size + 1, 2, none⟩) hs1).trans hy2
        have y3 := (hbW.cell (p := ⟨w.heap.size + 1, 3, none⟩) hs1).trans hy3
        have y4 := (hbW.cell (p := ⟨w.heap.size + 1, 4, none⟩) hs1).trans hy4
        exact op_value_g (w1 := W) ho1 (wanted_none rfl) (.agg #[.int .i64 (r 0), .int .i64 (r 1), .int .i64 (r 2), .int .i64 (r 3), .int .i64 (r 4)]) (by simp [go_sem, Act.eval, -Array.getD_eq_getD_getElem?, t3, z0, z1, y0, y1, y2, y3, y4]) (Gr.refl _) rfl
      | 2 =>
        have ho1 := ho
        cases ho
        have t9 : a.tmps.getD 9 undef = .agg #[.slice A1 n1 c1, .slice A2 n2 c2] := hG.dep 0 (by decide) 9 rfl
        have t10 : a.tmps.getD 10 undef = .agg #[.int .i64 (r 0), .int .i64 (r 1), .int .i64 (r 2), .int .i64 (r 3), .int .i64 (r 4)] := hG.dep 1 (by decide) 10 rfl
        refine op_call_g ho1 (wanted_none rfl) 15 #[.agg #[.slice A1 n1 c1, .slice A2 n2 c2], .agg #[.int .i64 (r 0), .int .i64 (r 1), .int .i64 (r 2), .int .i64 (r 3), .int .i64 (r 4)]] (by simp [go_sem, Act.eval, -Array.getD_eq_getD_getElem?, t9, t10]) ?_
        refine (agreed_any _ _ _ _ _ _ vs r W (HA.it.below (hbw.trans (hbW.mono hbw.size)))).mono ?_
        rintro e W' ⟨rfl, hb'⟩
        exact ⟨_, rfl, hb', rfl⟩
      | 3 =>
        have ho1 := ho
        cases ho
        have t2 : a.tmps.getD 2 undef = .pointer (some ⟨w.heap.size, 0, none⟩) := hG.old 2 (by decide)
        have z0 := (hbW.cell (p := ⟨w.heap.size, 0, none⟩) hs0).trans hz0
        have z1 := (hbW.cell (p := ⟨w.heap.size, 1, none⟩) hs0).trans hz1
        have y0 := (hbW.cell (p := ⟨w.heap.size + 1, 0, none⟩) hs1).trans hy0
        have y1 := (hbW.cell (p := ⟨w.heap.size + 1, 1, none⟩) hs1).trans hy1
        have y2 := (hbW.cell (p := ⟨w.heap.size + 1, 2, none⟩) hs1).trans hy2
        have y3 := (hbW.cell (p := ⟨w.heap.size + 1, 3, none⟩) hs1).trans hy3
        have y4 := (hbW.cell (p := ⟨w.heap.size + 1, 4, none⟩) hs1).trans hy4
        exact op_value_g (w1 := W) ho1 (wanted_none rfl) (.agg #[.slice A1 n1 c1, .slice A2 n2 c2]) (by simp [go_sem, Act.eval, -Array.getD_eq_getD_getElem?, t2, z0, z1, y0, y1, y2, y3, y4]) (Gr.refl _) rfl
      | 4 =>
        have ho1 := ho
        cases ho
        have t3 : a.tmps.getD 3 undef = .pointer (some ⟨w.heap.size + 1, 0, none⟩) := hG.old 3 (by decide)
        have z0 := (hbW.cell (p := ⟨w.heap.size, 0, none⟩) hs0).trans hz0
        have z1 := (hbW.cell (p := ⟨w.heap.size, 1, none⟩) hs0).trans hz1
        have y0 := (hbW.cell (p := ⟨w.heap.size + 1, 0, none⟩) hs1).trans hy0
        have y1 := (hbW.cell (p := ⟨w.heap.size + 1, 1, none⟩) hs1).trans hy1
        have y2 := (hbW.cell (p := ⟨w.heap.size + 1, 2, none⟩) hs1).trans hy2
        have y3 := (hbW.cell (p := ⟨w.heap.size + 1, 3, none⟩) hs1).trans hy3
        have y4 := (hbW.cell (p := ⟨w.heap.size + 1, 4, none⟩) hs1).trans hy4
        exact op_value_g (w1 := W) ho1 (wanted_none rfl) (.agg #[.int .i64 (r 0), .int .i64 (r 1), .int .i64 (r 2), .int .i64 (r 3), .int .i64 (r 4)]) (by simp [go_sem, Act.eval, -Array.getD_eq_getD_getElem?, t3, z0, z1, y0, y1, y2, y3, y4]) (Gr.refl _) rfl
      | 5 =>
        have ho1 := ho
        cases ho
        have t12 : a.tmps.getD 12 undef = .agg #[.slice A1 n1 c1, .slice A2 n2 c2] := hG.dep 3 (by decide) 12 rfl
        have t13 : a.tmps.getD 13 undef = .agg #[.int .i64 (r 0), .int .i64 (r 1), .int .i64 (r 2), .int .i64 (r 3), .int .i64 (r 4)] := hG.dep 4 (by decide) 13 rfl
        refine op_call_g ho1 (wanted_none rfl) 22 #[.agg #[.slice A1 n1 c1, .slice A2 n2 c2], .agg #[.int .i64 (r 0), .int .i64 (r 1), .int .i64 (r 2), .int .i64 (r 3), .int .i64 (r 4)]] (by simp [go_sem, Act.eval, -Array.getD_eq_getD_getElem?, t12, t13]) ?_
        refine (ragreed_any _ _ _ _ _ _ vs r W (HA.it.below (hbw.trans (hbW.mono hbw.size)))).mono ?_
        rintro e W' ⟨rfl, hb'⟩
        exact ⟨_, rfl, hb', rfl⟩
      | 6 =>
        have ho1 := ho
        cases ho
        have t11 : a.tmps.getD 11 undef = .int .i64 (agr r vs) := hG.dep 2 (by decide) 11 rfl
        have t14 : a.tmps.getD 14 undef = .int .i64 (agr r vs) := hG.dep 5 (by decide) 14 rfl
        exact op_value_g (w1 := W) ho1 (wanted_none rfl) (.bool true) (by simp [go_sem, Act.eval, -Array.getD_eq_getD_getElem?, t11, t14]) (Gr.refl _) rfl
      | 7 =>
        have ho1 := ho
        cases ho
        have t15 : a.tmps.getD 15 undef = .bool true := hG.dep 6 (by decide) 15 rfl
        exact op_value_g (w1 := W) ho1 (wanted_none rfl) (.bool true) (by simp [go_sem, Act.eval, -Array.getD_eq_getD_getElem?, t15]) (Gr.refl _) rfl
      | 8 =>
        have ho1 := ho
        cases ho
        have t16 : a.tmps.getD 16 undef = .bool true := hG.dep 7 (by decide) 16 rfl
        refine op_call_g ho1 (wanted_yes rfl rfl t16) 14 #[] (by simp [go_sem, Act.eval, -Array.getD_eq_getD_getElem?, t16]) ?_
        refine (awake_any W).mono ?_
        rintro e W' ⟨rfl, hb'⟩
        exact ⟨_, rfl, hb', rfl⟩
      | 9 =>
        have ho1 := ho
        cases ho
        have t16 : a.tmps.getD 16 undef = .bool true := hG.dep 7 (by decide) 16 rfl
        have t17 : a.tmps.getD 17 undef = .bool true := hG.dep 8 (by decide) 17 rfl
        exact op_value_g (w1 := W) ho1 (wanted_none rfl) (.bool true) (by simp [go_sem, Act.eval, -Array.getD_eq_getD_getElem?, t16, t17]) (Gr.refl _) rfl
      | 10 =>
        have ho1 := ho
        cases ho
        have t18 : a.tmps.getD 18 undef = .bool true := hG.dep 9 (by decide) 18 rfl
        exact op_value_g (w1 := W) ho1 (wanted_none rfl) (.bool true) (by simp [go_sem, Act.eval, -Array.getD_eq_getD_getElem?, t18]) (Gr.refl _) rfl
      | q + 11 => cases ho
    · intro a W hbW hD
      have hfr := hD.frame [9, 10, 11, 12, 13, 14, 15, 16, 17, 18, 4] (by kernel_rfl)
      have t9 : a.tmps.getD 9 undef = .agg #[.slice A1 n1 c1, .slice A2 n2 c2] := hD.sp 0 (by decide) 9 rfl
      have t10 : a.tmps.getD 10 undef = .agg #[.int .i64 (r 0), .int .i64 (r 1), .int .i64 (r 2), .int .i64 (r 3), .int .i64 (r 4)] := hD.sp 1 (by decide) 10 rfl
      have t11 : a.tmps.getD 11 undef = .int .i64 (agr r vs) := hD.sp 2 (by decide) 11 rfl
      have t12 : a.tmps.getD 12 undef = .agg #[.slice A1 n1 c1, .slice A2 n2 c2] := hD.sp 3 (by decide) 12 rfl
      have t13 : a.tmps.getD 13 undef = .agg #[.int .i64 (r 0), .int .i64 (r 1), .int .i64 (r 2), .int .i64 (r 3), .int .i64 (r 4)] := hD.sp 4 (by decide) 13 rfl
      have t14 : a.tmps.getD 14 undef = .int .i64 (agr r vs) := hD.sp 5 (by decide) 14 rfl
      have t15 : a.tmps.getD 15 undef = .bool true := hD.sp 6 (by decide) 15 rfl
      have t16 : a.tmps.getD 16 undef = .bool true := hD.sp 7 (by decide) 16 rfl
      have t17 : a.tmps.getD 17 undef = .bool true := hD.sp 8 (by decide) 17 rfl
      have t18 : a.tmps.getD 18 undef = .bool true := hD.sp 9 (by decide) 18 rfl
      have t4 : a.tmps.getD 4 undef = .bool true := hD.sp 10 (by decide) 4 rfl
      simp only [List.foldl_cons, List.foldl_nil] at hfr
      rw [t9, t10, t11, t12, t13, t14, t15, t16, t17, t18, t4] at hfr
      rw [hfr]
      clear hfr hD t9 t10 t11 t12 t13 t14 t15 t16 t17 t18 t4
      have HBW := Kp.mk hbW
      clear hbW
      simp only [Act.put, List.setIfInBounds_toArray, List.set_cons_succ, List.set_cons_zero]
      go_wp2
      go_ret
      exact ⟨rfl, hbw.trans (HBW.it.mono hbw.size)⟩

set_option linter.unusedVariables false in
set_option maxRecDepth 100000 in
theorem quorumAgrees_lifted (os : Os) (started : os.Started) (H : Type) (enc : TypeId × Value → H) :
    ReturnsInHanded {} Try.checked os 7 .any (Rows.quorumAgreesSpec.pre6 enc Try.prog Try.f7 Rows.quorumAgreesRow.domain false) (Rows.quorumAgreesSpec.post enc Try.prog Try.f7 false true false false) := by
  refine returnsInHanded_of_change_sized (C := Try.checked) (by kernel_rfl) started (by kernel_rfl) Try.func7
    (ChangeSpec.witness6 (enc := enc) (C := Try.checked) false ⟨#[], #[.agg #[.slice none 0 0, .slice none 0 0], .agg (arr5 fun _ => 0)], []⟩ 8 (by kernel_rfl) (by kernel_rfl) (by kernel_rfl) (by kernel_rfl)) ?_
  intro W base args ds gs before hval0 hW hcnd hsz0 _
  have hval : ∀ (j : Nat) t v, Try.f7.params[j]? = some t → args[j]? = some v → Value.okWide Try.prog W .any base t v := hval0
  have hW' := hW
  obtain ⟨p, q, hA0, hV, rfl, hfz, hnd⟩ := hW
  have hA : DataW.TrodAll enc Try.prog W 0 (fun _ => true) true Try.f7.params.toList args.toList ds p := hA0
  have hsz : (DataW.weightsEach Try.prog (Try.f7.params.toList ++ Rows.quorumAgreesSpec.plain.varTypes Try.prog) (ds ++ gs)).all (· ≤ reachBytes) = true := hsz0
  rw [Try.params7] at hA hval hsz
  obtain ⟨v0, vs0, d0, ds0, p0, q0, hargs, rfl, rfl, h0, r0⟩ := trodAll_cons hA
  obtain ⟨v1, vs1, d1, ds1, p1, q1, rfl, rfl, rfl, h1, r1⟩ := trodAll_cons r0
  obtain ⟨rfl, rfl, rfl⟩ := trodAll_nil r1
  obtain rfl : args = #[v0, v1] := by cases args; simp_all
  obtain ⟨rfl, rfl⟩ := trodVars_none hV
  have k0 := h0
  have lt0 : ∀ x ∈ p0, x.block < W.heap.size := by obtain ⟨m, hm⟩ := k0; exact DataW.trod_lt m _ _ _ hm
  obtain ⟨A0, n0, c0, B0, m0, e0, vs0', ls0', rfl, ra0, rb0⟩ := ro_open (hval 0 24 v0 rfl rfl) h0 (fun x hx => by simpa using List.all_eq_true.1 hsz x (DataW.weights_mem_each (j := 0) (t := 24) rfl rfl x hx))
  have k1 := h1
  have lt1 : ∀ x ∈ p1, x.block < W.heap.size := by obtain ⟨m, hm⟩ := k1; exact DataW.trod_lt m _ _ _ hm
  obtain ⟨f1, rfl⟩ := arr_open (hval 1 25 v1 rfl rfl) h1
  clear hA0 hval0 hsz hsz0
  refine (agrees_walk _ _ _ _ _ _ _ _ W ra0).mono fun e W' ⟨he, bel⟩ => ?_
  subst he
  exact ⟨_, rfl, _, _, _, [], _, [], hW', trodAll_mk1 (shut_bool Try.underlying4 _), (trodAll_cons_mk (Below.trod (by kernel_rfl) (by kernel_rfl) (of_decide_eq_true (by kernel_rfl)) k0 bel lt0) (trodAll_cons_mk (Below.trod (by kernel_rfl) (by kernel_rfl) (of_decide_eq_true (by kernel_rfl)) k1 bel lt1) trodAll_mk0)), rfl, bel.frame _, fun h => by cases h⟩

theorem QuorumAgrees_holds : Rows.QuorumAgreesSaid :=
  OpenClaim.holds_of_wide 7 Try.f7 rfl rfl rfl rfl rfl rfl rfl ⟨rfl, rfl, rfl, rfl, rfl⟩ rfl rfl rfl rfl rfl (by kernel_rfl) Try.func7 (by kernel_rfl)
    (of_decide_eq_true (by kernel_rfl)) (by unfold Func.isWrapper; first | (rw [if_pos (by decide +kernel)]; kernel_rfl) | (rw [if_neg (by decide +kernel)]; exact ⟨rfl, rfl⟩))
    (fun os started H enc _ => quorumAgrees_lifted os started H enc)

end Go.Proofs.Ytbfpdahbmdaenaa
