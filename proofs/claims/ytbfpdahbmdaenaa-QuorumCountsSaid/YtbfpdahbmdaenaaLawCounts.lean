/-
  QuorumCounts: Majority of any roster and any numbers answers what the reference answers.
-/
import Derived.Test.YtbfpdahbmdaenaaLong
import Derived.Test.YtbfpdahbmdaenaaMajor
import Derived.Test.YtbfpdahbmdaenaaAwake
import Derived.Test.YtbfpdahbmdaenaaOpen
namespace Go.Proofs.Ytbfpdahbmdaenaa
open Go.ChangeShapes Go.WideShapes Go.ChangeAt Go.RowKit

set_option linter.unusedSimpArgs false in
set_option linter.unusedVariables false in
set_option maxRecDepth 100000 in
set_option maxHeartbeats 4000000 in
theorem counts_walk (A1 A2 : Option Addr) (n1 c1 n2 c2 : Nat) (vs : List Int) (A5 : Option Addr) (n5 c5 : Nat) (xs : List Int) (w : World) (h1 : Rd w A1 n1 vs) (h5 : Rd w A5 n5 xs) : Calls Try.prog 6 #[.agg #[.slice A1 n1 c1, .slice A2 n2 c2], .slice A5 n5 c5] w fun e w' => e = .returned (.bool true) ∧ Below w.heap.size w w' := by
  have HA := Kp.mk h1
  have HX := Kp.mk h5
  clear h1 h5
  obtain ⟨lg, hl⟩ : ∃ lg, lg = [(A1, n1, c1, A2, n2, c2)].any lonB := ⟨_, rfl⟩
  have HLON := Kp.mk hl.symm
  clear hl
  have HRO : Kp (Ros ((w.alloc (.cells #[.slice A1 n1 c1, .slice A2 n2 c2] 24)).alloc (.cells #[.slice A1 n1 c1, .slice A2 n2 c2] 24)) (w.heap.size + 1) [(A1, n1, c1, A2, n2, c2)]) := ⟨by have := ros_new1 (w.alloc (.cells #[.slice A1 n1 c1, .slice A2 n2 c2] 24)) A1 n1 c1 A2 n2 c2; rwa [World.size_alloc] at this⟩
  go_enter Try.func6, Try.ntmps6
  go_wp2_with fail
  refine (long_any _ 1 [(A1, n1, c1, A2, n2, c2)] _ HRO.it (by simp)).mono ?_
  rintro e w1 ⟨rfl, hb1⟩
  rw [HLON.it]
  have hz0 : w1.cell? ⟨w.heap.size, 0, none⟩ = some (.slice A1 n1 c1) := (hb1.cell (p := ⟨w.heap.size, 0, none⟩) (by simp; omega)).trans (blk_cell (blk_old _ (blk_new _ _)) rfl)
  have hz1 : w1.cell? ⟨w.heap.size, 1, none⟩ = some (.slice A2 n2 c2) := (hb1.cell (p := ⟨w.heap.size, 1, none⟩) (by simp; omega)).trans (blk_cell (blk_old _ (blk_new _ _)) rfl)
  have hbw : Below w.heap.size w w1 := (((Below.refl _ _).alloc (Nat.le_refl _) _).alloc (by simp) _).trans (hb1.mono (by simp; omega))
  have hs0 : w.heap.size < w1.heap.size := by have := hb1.size; simp at this; omega
  have HBW1 := Kp.mk hbw
  clear hb1 hbw
  cases lg with
  | true =>
    go_wp2_with (go_at_call 14; refine (awake_any _).mono ?_; rintro e w' ⟨rfl, hb'⟩)
    go_ret
    exact ⟨rfl, HBW1.it.trans (hb'.mono HBW1.it.size)⟩
  | false =>
    by_cases hn : 500 < n5
    · go_wp2_with (go_at_call 14; refine (awake_any _).mono ?_; rintro e w' ⟨rfl, hb'⟩)
      go_ret
      exact ⟨rfl, HBW1.it.trans (hb'.mono HBW1.it.size)⟩
    · go_wp2_with fail
      have hbw := HBW1.it
      refine wp_region_sp [.ex (.agg #[.slice A1 n1 c1, .slice A2 n2 c2]), .ex (.slice A5 n5 c5), .ex (.bool (major vs xs)), .ex (.agg #[.slice A1 n1 c1, .slice A2 n2 c2]), .ex (.slice A5 n5 c5), .ex (.bool (major vs xs)), .ex (.bool true), .ex (.bool true), .ex (.bool true), .ex (.bool true), .ex (.bool true)] (by kernel_rfl) (by kernel_rfl) ?_ ?_
      · intro i o ho a W hbW hG
        match i with
        | 0 =>
          have ho1 := ho
          cases ho
          have t2 : a.tmps.getD 2 undef = .pointer (some ⟨w.heap.size, 0, none⟩) := hG.old 2 (by decide)
          have z0 := (hbW.cell (p := ⟨w.heap.size, 0, none⟩) hs0).trans hz0
          have z1 := (hbW.cell (p := ⟨w.heap.size, 1, none⟩) hs0).trans hz1
          exact op_value_g (w1 := W) ho1 (wanted_none rfl) (.agg #[.slice A1 n1 c1, .slice A2 n2 c2]) (by simp [go_sem, Act.eval, -Array.getD_eq_getD_getElem?, t2, z0, z1]) (Gr.refl _) rfl
        | 1 =>
          have ho1 := ho
          cases ho
          have t1 : a.tmps.getD 1 undef = .slice A5 n5 c5 := hG.old 1 (by decide)
          exact op_value_g (w1 := W) ho1 (wanted_none rfl) (.slice A5 n5 c5) (by simp [go_sem, Act.eval, -Array.getD_eq_getD_getElem?, t1]) (Gr.refl _) rfl
        | 2 =>
          have ho1 := ho
          cases ho
          have t14 : a.tmps.getD 14 undef = .agg #[.slice A1 n1 c1, .slice A2 n2 c2] := hG.dep 0 (by decide) 14 rfl
          have t15 : a.tmps.getD 15 undef = .slice A5 n5 c5 := hG.dep 1 (by decide) 15 rfl
          refine op_call_g ho1 (wanted_none rfl) 16 #[.agg #[.slice A1 n1 c1, .slice A2 n2 c2], .slice A5 n5 c5] (by simp [go_sem, Act.eval, -Array.getD_eq_getD_getElem?, t14, t15]) ?_
          refine (majority_any _ _ _ _ _ _ _ _ _ vs xs W (HA.it.below (hbw.trans (hbW.mono hbw.size))) (HX.it.below (hbw.trans (hbW.mono hbw.size)))).mono ?_
          rintro e W' ⟨rfl, hb'⟩
          exact ⟨_, rfl, hb', rfl⟩
        | 3 =>
          have ho1 := ho
          cases ho
          have t2 : a.tmps.getD 2 undef = .pointer (some ⟨w.heap.size, 0, none⟩) := hG.old 2 (by decide)
          have z0 := (hbW.cell (p := ⟨w.heap.size, 0, none⟩) hs0).trans hz0
          have z1 := (hbW.cell (p := ⟨w.heap.size, 1, none⟩) hs0).trans hz1
          exact op_value_g (w1 := W) ho1 (wanted_none rfl) (.agg #[.slice A1 n1 c1, .slice A2 n2 c2]) (by simp [go_sem, Act.eval, -Array.getD_eq_getD_getElem?, t2, z0, z1]) (Gr.refl _) rfl
        | 4 =>
          have ho1 := ho
          cases ho
          have t1 : a.tmps.getD 1 undef = .slice A5 n5 c5 := hG.old 1 (by decide)
          exact op_value_g (w1 := W) ho1 (wanted_none rfl) (.slice A5 n5 c5) (by simp [go_sem, Act.eval, -Array.getD_eq_getD_getElem?, t1]) (Gr.refl _) rfl
        | 5 =>
          have ho1 := ho
          cases ho
          have t17 : a.tmps.getD 17 undef = .agg #[.slice A1 n1 c1, .slice A2 n2 c2] := hG.dep 3 (by decide) 17 rfl
          have t18 : a.tmps.getD 18 undef = .slice A5 n5 c5 := hG.dep 4 (by decide) 18 rfl
          refine op_call_g ho1 (wanted_none rfl) 21 #[.agg #[.slice A1 n1 c1, .slice A2 n2 c2], .slice A5 n5 c5] (by simp [go_sem, Act.eval, -Array.getD_eq_getD_getElem?, t17, t18]) ?_
          refine (rmajority_any _ _ _ _ _ _ _ _ _ vs xs W (HA.it.below (hbw.trans (hbW.mono hbw.size))) (HX.it.below (hbw.trans (hbW.mono hbw.size)))).mono ?_
          rintro e W' ⟨rfl, hb'⟩
          exact ⟨_, rfl, hb', rfl⟩
        | 6 =>
          have ho1 := ho
          cases ho
          have t16 : a.tmps.getD 16 undef = .bool (major vs xs) := hG.dep 2 (by decide) 16 rfl
          have t19 : a.tmps.getD 19 undef = .bool (major vs xs) := hG.dep 5 (by decide) 19 rfl
          exact op_value_g (w1 := W) ho1 (wanted_none rfl) (.bool true) (by simp [go_sem, Act.eval, -Array.getD_eq_getD_getElem?, t16, t19]) (Gr.refl _) rfl
        | 7 =>
          have ho1 := ho
          cases ho
          have t20 : a.tmps.getD 20 undef = .bool true := hG.dep 6 (by decide) 20 rfl
          exact op_value_g (w1 := W) ho1 (wanted_none rfl) (.bool true) (by simp [go_sem, Act.eval, -Array.getD_eq_getD_getElem?, t20]) (Gr.refl _) rfl
        | 8 =>
          have ho1 := ho
          cases ho
          have t21 : a.tmps.getD 21 undef = .bool true := hG.dep 7 (by decide) 21 rfl
          refine op_call_g ho1 (wanted_yes rfl rfl t21) 14 #[] (by simp [go_sem, Act.eval, -Array.getD_eq_getD_getElem?, t21]) ?_
          refine (awake_any W).mono ?_
          rintro e W' ⟨rfl, hb'⟩
          exact ⟨_, rfl, hb', rfl⟩
        | 9 =>
          have ho1 := ho
          cases ho
          have t21 : a.tmps.getD 21 undef = .bool true := hG.dep 7 (by decide) 21 rfl
          have t22 : a.tmps.getD 22 undef = .bool true := hG.dep 8 (by decide) 22 rfl
          exact op_value_g (w1 := W) ho1 (wanted_none rfl) (.bool true) (by simp [go_sem, Act.eval, -Array.getD_eq_getD_getElem?, t21, t22]) (Gr.refl _) rfl
        | 10 =>
          have ho1 := ho
          cases ho
          have t23 : a.tmps.getD 23 undef = .bool true := hG.dep 9 (by decide) 23 rfl
          exact op_value_g (w1 := W) ho1 (wanted_none rfl) (.bool true) (by simp [go_sem, Act.eval, -Array.getD_eq_getD_getElem?, t23]) (Gr.refl _) rfl
        | q + 11 => cases ho
      · intro a W hbW hD
        have hfr := hD.frame [14, 15, 16, 17, 18, 19, 20, 21, 22, 23, 4] (by kernel_rfl)
        have t14 : a.tmps.getD 14 undef = .agg #[.slice A1 n1 c1, .slice A2 n2 c2] := hD.sp 0 (by decide) 14 rfl
        have t15 : a.tmps.getD 15 undef = .slice A5 n5 c5 := hD.sp 1 (by decide) 15 rfl
        have t16 : a.tmps.getD 16 undef = .bool (major vs xs) := hD.sp 2 (by decide) 16 rfl
        have t17 : a.tmps.getD 17 undef = .agg #[.slice A1 n1 c1, .slice A2 n2 c2] := hD.sp 3 (by decide) 17 rfl
        have t18 : a.tmps.getD 18 undef = .slice A5 n5 c5 := hD.sp 4 (by decide) 18 rfl
        have t19 : a.tmps.getD 19 undef = .bool (major vs xs) := hD.sp 5 (by decide) 19 rfl
        have t20 : a.tmps.getD 20 undef = .bool true := hD.sp 6 (by decide) 20 rfl
        have t21 : a.tmps.getD 21 undef = .bool true := hD.sp 7 (by decide) 21 rfl
        have t22 : a.tmps.getD 22 undef = .bool true := hD.sp 8 (by decide) 22 rfl
        have t23 : a.tmps.getD 23 undef = .bool true := hD.sp 9 (by decide) 23 rfl
        have t4 : a.tmps.getD 4 undef = .bool true := hD.sp 10 (by decide) 4 rfl
        simp only [List.foldl_cons, List.foldl_nil] at hfr
        rw [t14, t15, t16, t17, t18, t19, t20, t21, t22, t23, t4] at hfr
        rw [hfr]
        clear hfr hD t14 t15 t16 t17 t18 t19 t20 t21 t22 t23 t4
        have HBW := Kp.mk hbW
        clear hbW
        simp only [Act.put, List.setIfInBounds_toArray, List.set_cons_succ, List.set_cons_zero]
        go_wp2
        go_ret
        exact ⟨rfl, hbw.trans (HBW.it.mono hbw.size)⟩
set_option linter.unusedVariables false in
set_option maxRecDepth 100000 in
theorem quorumCounts_lifted (os : Os) (started : os.Started) (H : Type) (enc : TypeId × Value → H) :
    ReturnsInHanded {} Try.checked os 6 .any (Rows.quorumCountsSpec.pre6 enc Try.prog Try.f6 Rows.quorumCountsRow.domain false) (Rows.quorumCountsSpec.post enc Try.prog Try.f6 false true false false) := by
  refine returnsInHanded_of_change_sized (C := Try.checked) (by kernel_rfl) started (by kernel_rfl) Try.func6
    (ChangeSpec.witness6 (enc := enc) (C := Try.checked) false ⟨#[], #[.agg #[.slice none 0 0, .slice none 0 0], .slice none 0 0], []⟩ 8 (by kernel_rfl) (by kernel_rfl) (by kernel_rfl) (by kernel_rfl)) ?_
  intro W base args ds gs before hval0 hW hcnd hsz0 _
  have hval : ∀ (j : Nat) t v, Try.f6.params[j]? = some t → args[j]? = some v → Value.okWide Try.prog W .any base t v := hval0
  have hW' := hW
  obtain ⟨p, q, hA0, hV, rfl, hfz, hnd⟩ := hW
  have hA : DataW.TrodAll enc Try.prog W 0 (fun _ => true) true Try.f6.params.toList args.toList ds p := hA0
  have hsz : (DataW.weightsEach Try.prog (Try.f6.params.toList ++ Rows.quorumCountsSpec.plain.varTypes Try.prog) (ds ++ gs)).all (· ≤ reachBytes) = true := hsz0
  rw [Try.params6] at hA hval hsz
  obtain ⟨v0, vs0, d0, ds0, p0, q0, hargs, rfl, rfl, h0, r0⟩ := trodAll_cons hA
  obtain ⟨v1, vs1, d1, ds1, p1, q1, rfl, rfl, rfl, h1, r1⟩ := trodAll_cons r0
  obtain ⟨rfl, rfl, rfl⟩ := trodAll_nil r1
  obtain rfl : args = #[v0, v1] := by cases args; simp_all
  obtain ⟨rfl, rfl⟩ := trodVars_none hV
  have k0 := h0
  have lt0 : ∀ x ∈ p0, x.block < W.heap.size := by obtain ⟨m, hm⟩ := k0; exact DataW.trod_lt m _ _ _ hm
  obtain ⟨A0, n0, c0, B0, m0, e0, vs0', ls0', rfl, ra0, rb0⟩ := ro_open (hval 0 24 v0 rfl rfl) h0 (fun x hx => by simpa using List.all_eq_true.1 hsz x (DataW.weights_mem_each (j := 0) (t := 24) rfl rfl x hx))
  have k1 := h1
  have lt1 : ∀ x ∈ p1, x.block < W.heap.size := by obtain ⟨m, hm⟩ := k1; exact DataW.trod_lt m _ _ _ hm
  obtain ⟨A1, n1, c1, xs1, rfl, ra1⟩ := sl_open (hval 1 22 v1 rfl rfl) h1 (fun x hx => by simpa using List.all_eq_true.1 hsz x (DataW.weights_mem_each (j := 1) (t := 22) rfl rfl x hx))
  clear hA0 hval0 hsz hsz0
  refine (counts_walk _ _ _ _ _ _ _ _ _ _ _ W ra0 ra1).mono fun e W' ⟨he, bel⟩ => ?_
  subst he
  exact ⟨_, rfl, _, _, _, [], _, [], hW', trodAll_mk1 (shut_bool Try.underlying4 _), (trodAll_cons_mk (Below.trod (by kernel_rfl) (by kernel_rfl) (of_decide_eq_true (by kernel_rfl)) k0 bel lt0) (trodAll_cons_mk (Below.trod (by kernel_rfl) (by kernel_rfl) (of_decide_eq_true (by kernel_rfl)) k1 bel lt1) trodAll_mk0)), rfl, bel.frame _, fun h => by cases h⟩

theorem QuorumCounts_holds : Rows.QuorumCountsSaid :=
  OpenClaim.holds_of_wide 6 Try.f6 rfl rfl rfl rfl rfl rfl rfl ⟨rfl, rfl, rfl, rfl, rfl⟩ rfl rfl rfl rfl rfl (by kernel_rfl) Try.func6 (by kernel_rfl)
    (of_decide_eq_true (by kernel_rfl)) (by unfold Func.isWrapper; first | (rw [if_pos (by decide +kernel)]; kernel_rfl) | (rw [if_neg (by decide +kernel)]; exact ⟨rfl, rfl⟩))
    (fun os started H enc _ => quorumCounts_lifted os started H enc)

end Go.Proofs.Ytbfpdahbmdaenaa
