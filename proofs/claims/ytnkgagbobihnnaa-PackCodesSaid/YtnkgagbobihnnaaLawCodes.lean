/-
  PackCodes: Codes of any lengths answers what the reference answers.
-/
import Derived.Test.YtnkgagbobihnnaaAwk
import Derived.Test.YtnkgagbobihnnaaOpn
import Derived.Test.YtnkgagbobihnnaaRows
namespace Go.Proofs.Ytnkgagbobihnnaa
open Go.ChangeShapes Go.WideShapes Go.ChangeAt Go.RowKit

theorem stepC_len {ls : List Int} {n k : Nat} {s t : Nat × List Int} (h : stepC ls n s k = .ok t) : t.2.length = s.2.length := by
  unfold stepC at h
  split at h
  · cases h
  · split at h
    · split at h
      · cases h
      · cases h; simp
    · cases h; rfl
theorem rowC_len {ls : List Int} {n : Nat} {s : Nat × List Int} : ∀ (k : Nat) {t : Nat × List Int}, rowC ls n s k = .ok t → t.2.length = s.2.length
  | 0, t, h => by cases h; rfl
  | k + 1, t, h => by
    unfold rowC at h
    rw [foldlM_range_succ] at h
    cases e : (List.range k).foldlM (stepC ls n) s with
    | error x => rw [e] at h; cases h
    | ok u =>
      rw [e] at h
      exact (stepC_len (show stepC ls n u k = .ok t from h)).trans (rowC_len k e)
theorem allC_len {ls : List Int} : ∀ (m : Nat) {t : Nat × List Int}, allC ls m = .ok t → t.2.length = ls.length
  | 0, t, h => by cases h; simp
  | m + 1, t, h => by
    unfold allC at h
    rw [foldlM_range_succ] at h
    cases e : allC ls m with
    | error x => unfold allC at e; rw [e] at h; cases h
    | ok u =>
      have e' := e
      unfold allC at e
      rw [e] at h
      have h9 := rowC_len _ (show rowC ls (m + 1) (2 * u.1, u.2) ls.length = .ok t from h)
      have h8 := allC_len m e'
      exact h9.trans h8
theorem codesP_le (ls : List Int) : (codesP ls).2.length ≤ ls.length := by
  unfold codesP
  split
  · rename_i s e; exact Nat.le_of_eq (allC_len 31 e)
  · simp

set_option linter.unusedVariables false in
set_option maxRecDepth 100000 in
set_option maxHeartbeats 4000000 in
theorem codes_walk (A : Option Addr) (n c : Nat) (xs : List Int) (w : World) (h : Rd w A n xs) (hnil : A = none → c = 0) (wf : ∀ x ∈ xs, Wf x) :
    Calls Try.prog 3 #[.slice A n c] w fun e w' => e = .returned (.bool true) ∧ Below w.heap.size w w' := by
  have H := Kp.mk h
  clear h hnil wf
  go_enter Try.func3, Try.ntmps3
  by_cases hn : 300 < n
  · have hd : decide ((300 : Int) < (n : Int)) = true := by simp; omega
    go_wp2_with (go_at_call 15; refine (awake_any _).mono ?_; rintro e w1 ⟨rfl, hb1⟩)
    go_ret
    exact ⟨rfl, hb1⟩
  · have hd : decide ((300 : Int) < (n : Int)) = false := by rw [decide_eq_false_iff_not]; omega
    have HC := Kp.mk (codes_any A n c xs w H.it (by omega))
    go_wp2_with fail
    refine HC.it.mono ?_
    rintro e w1 ⟨v1, rfl, ho1, hb1⟩
    obtain ⟨L, hL⟩ : ∃ L, L = (codesP xs).2 := ⟨_, rfl⟩
    have hLl : L.length * 8 ≤ 140737488351232 := by rw [hL]; have := codesP_le xs; have := H.it.len; omega
    have HLE := Kp.mk hL
    rw [← hL] at ho1
    obtain ⟨A1, c1, hv1, _, _, _, hr1⟩ := ho1.form3 hLl
    subst hv1
    have R1 := Kp.mk hr1
    have HC2 := Kp.mk (rcodes_any A n c xs w1 (H.it.below hb1) (by omega))
    have B1 := Kp.mk hb1
    clear ho1 hb1 hr1 HC hL
    go_wp2_with fail
    refine HC2.it.mono ?_
    rintro e w2 ⟨v2, rfl, ho2, hb2⟩
    rw [← HLE.it] at ho2
    obtain ⟨A2, c2, hv2, _, _, _, hr2⟩ := ho2.form3 hLl
    subst hv2
    have R2 := Kp.mk hr2
    have R1 := Kp.mk (R1.it.below hb2)
    have B2 : Kp (Below w.heap.size w w2) := ⟨B1.it.trans (hb2.mono B1.it.size)⟩
    clear ho2 hb2 hr2 HC2 B1
    go_wp2_with (first | (go_at_call 18; refine (equal_gr A1 A2 _ c1 _ c2 _ _ w2 R1.it R2.it).mono ?_; rintro e w3 ⟨rfl, hb3⟩; rw [eqB_refl]; have B3 := Kp.mk hb3; clear hb3) | (go_at_call 15; refine (awake_any _).mono ?_; rintro e w4 ⟨rfl, hb4⟩; have B4 := Kp.mk hb4; clear hb4))
    go_ret
    exact ⟨rfl, B2.it.trans ((B3.it.trans (B4.it.mono B3.it.size)).mono B2.it.size)⟩

set_option linter.unusedVariables false in
set_option maxRecDepth 100000 in
theorem packCodes_lifted (os : Os) (started : os.Started) (H : Type) (enc : TypeId × Value → H) :
    ReturnsInHanded {} Try.checked os 3 .any (Rows.packCodesSpec.pre6 enc Try.prog Try.f3 Rows.packCodesRow.domain false) (Rows.packCodesSpec.post enc Try.prog Try.f3 false true false false) := by
  refine returnsInHanded_of_change_sized (C := Try.checked) (by kernel_rfl) started (by kernel_rfl) Try.func3
    (ChangeSpec.witness6 (enc := enc) (C := Try.checked) false ⟨#[], #[.slice none 0 0], []⟩ 8 (by kernel_rfl) (by kernel_rfl) (by kernel_rfl) (by kernel_rfl)) ?_
  intro W base args ds gs before hval0 hW hcnd hsz0 _
  have hval : ∀ (j : Nat) t v, Try.f3.params[j]? = some t → args[j]? = some v → Value.okWide Try.prog W .any base t v := hval0
  have hW' := hW
  obtain ⟨p, q, hA0, hV, rfl, hfz, hnd⟩ := hW
  have hA : DataW.TrodAll enc Try.prog W 0 (fun _ => true) true Try.f3.params.toList args.toList ds p := hA0
  have hsz : (DataW.weightsEach Try.prog (Try.f3.params.toList ++ Rows.packCodesSpec.plain.varTypes Try.prog) (ds ++ gs)).all (· ≤ reachBytes) = true := hsz0
  rw [Try.params3] at hA hval hsz
  obtain ⟨v0, vs0, d0, ds0, p0, q0, hargs, rfl, rfl, h0, r0⟩ := trodAll_cons hA
  obtain ⟨rfl, rfl, rfl⟩ := trodAll_nil r0
  obtain rfl : args = #[v0] := by cases args; simp_all
  obtain ⟨rfl, rfl⟩ := trodVars_none hV
  have k0 := h0
  have lt0 : ∀ x ∈ p0, x.block < W.heap.size := by obtain ⟨m, hm⟩ := k0; exact DataW.trod_lt m _ _ _ hm
  obtain ⟨A0, n0, c0, xs0, rfl, ra0, ea0, wf0⟩ := sl_open2 (hval 0 22 v0 rfl rfl) h0 (fun x hx => by simpa using List.all_eq_true.1 hsz x (DataW.weights_mem_each (j := 0) (t := 22) rfl rfl x hx))
  clear hA0 hval0 hsz hsz0
  refine (codes_walk A0 n0 c0 xs0 W ra0 ea0 wf0).mono fun e W' ⟨he, bel⟩ => ?_
  subst he
  exact ⟨_, rfl, _, _, _, [], _, [], hW', trodAll_mk1 (shut_bool Try.underlying4 _), (trodAll_cons_mk (Below.trod (by kernel_rfl) (by kernel_rfl) (of_decide_eq_true (by kernel_rfl)) k0 bel lt0) trodAll_mk0), rfl, bel.frame _, fun h => by cases h⟩

theorem PackCodes_holds : Rows.PackCodesSaid :=
  OpenClaim.holds_of_wide 3 Try.f3 rfl rfl rfl rfl rfl rfl rfl ⟨rfl, rfl, rfl, rfl, rfl⟩ rfl rfl rfl rfl rfl (by kernel_rfl) Try.func3 (by kernel_rfl)
    (of_decide_eq_true (by kernel_rfl)) (by unfold Func.isWrapper; first | (rw [if_pos (by decide +kernel)]; kernel_rfl) | (rw [if_neg (by decide +kernel)]; exact ⟨rfl, rfl⟩))
    (fun os started H enc _ => packCodes_lifted os started H enc)
end Go.Proofs.Ytnkgagbobihnnaa
