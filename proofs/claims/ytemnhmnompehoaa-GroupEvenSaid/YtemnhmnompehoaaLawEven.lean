/-
  GroupEven: no member has two parts more than another one, and each part is a member's, if there is one.
-/
import Derived.Test.YtemnhmnompehoaaAwake
import Derived.Test.YtemnhmnompehoaaRShW
import Derived.Test.YtemnhmnompehoaaEven
import Derived.Test.YtemnhmnompehoaaOpen
namespace Go.Proofs.Ytemnhmnompehoaa
open Go.ChangeShapes Go.WideShapes Go.ChangeAt Go.RowKit

theorem even_cnt (os ms : List Int) {i : Nat} (hi : i < (team ms).length) : (cnt (· == rd (team ms) i) (share os ms) (share os ms).length : Int) = (os.length / (team ms).length : Nat) ∨ (cnt (· == rd (team ms) i) (share os ms) (share os ms).length : Int) = ((os.length / (team ms).length : Nat) : Int) + 1 := by
  have hm : rd (team ms) i ∈ team ms := by rw [rd_lt hi]; exact List.getElem_mem _
  rw [cnt_all, share_cnt os ms hm]
  exact roomF_val os ms hm
theorem even_mem (os ms : List Int) {k : Nat} (hk : k < (share os ms).length) : inB (team ms) (rd (share os ms) k) = decide (0 < (team ms).length) := by
  by_cases hT : (team ms).length = 0
  · have e : team ms = [] := List.eq_nil_of_length_eq_zero hT
    rw [e]; rfl
  · rw [inB_iff.2 (share_mem os ms hT _ (by rw [rd_lt hk]; exact List.getElem_mem _))]
    have : 0 < (team ms).length := by omega
    simp [this]

set_option linter.unusedVariables false in
set_option maxRecDepth 100000 in
set_option maxHeartbeats 8000000 in
theorem even_walk (A1 A2 : Option Addr) (n1 c1 n2 c2 : Nat) (os ms : List Int) (w : World) (h1 : Rd w A1 n1 os) (h2 : Rd w A2 n2 ms) (e1 : A1 = none → c1 = 0) (e2 : A2 = none → c2 = 0) (w1 : ∀ x ∈ os, Wf x) (w2 : ∀ x ∈ ms, Wf x) :
    Calls Try.prog 4 #[.slice A1 n1 c1, .slice A2 n2 c2] w fun e w' => e = .returned (.bool true) ∧ Below w.heap.size w w' := by
  have hb1 := h1.bd
  have hb2 := h2.bd
  by_cases hl : 200 < n1 ∨ 100 < n2
  · have AW := Kp.mk (awake_any w)
    clear h1 h2 e1 e2 w1 w2
    by_cases hl1 : 200 < n1
    · have hk1 : (200 : Int) < ↑n1 := by omega
      clear hl
      go_enter Try.func4, Try.ntmps4
      go_wp2_with (go_at_call 13; refine AW.it.mono ?_; rintro e w' ⟨rfl, hb'⟩)
      go_ret
      exact ⟨rfl, hb'⟩
    · have hk1 : (↑n1 : Int) ≤ 200 := by omega
      have hk2 : (100 : Int) < ↑n2 := by omega
      clear hl
      go_enter Try.func4, Try.ntmps4
      go_wp2_with (go_at_call 13; refine AW.it.mono ?_; rintro e w' ⟨rfl, hb'⟩)
      go_ret
      exact ⟨rfl, hb'⟩
  · have hk1 : (↑n1 : Int) ≤ 200 := by omega
    have hk2 : (↑n2 : Int) ≤ 100 := by omega
    have hN1 : n1 ≤ 200 := by omega
    have hN2 : n2 ≤ 100 := by omega
    have R1 := Kp.mk h1
    have R2 := Kp.mk h2
    have E2 := Kp.mk e2
    have V1 := Kp.mk w1
    have V2 := Kp.mk w2
    have L1 := h1.len
    have L2 := h2.len
    clear h1 h2 e1 e2 w1 w2 hl
    go_enter Try.func4, Try.ntmps4
    go_wp2_with fail
    go_at_call 16
    refine (share_any A1 A2 n1 c1 n2 c2 os ms w R1.it R2.it E2.it V1.it V2.it (by omega) (by omega)).mono ?_
    rintro e wc ⟨vc, rfl, oc, hbc⟩
    obtain ⟨Ac, cc, ec, _, _, _, rc⟩ := oc.form3 (by rw [share_len]; omega)
    have HBc := Kp.mk hbc
    rw [share_len, L1] at ec rc
    have RC := Kp.mk rc
    subst ec
    clear oc rc
    go_wp2_with fail
    go_at_call 18
    refine (rteam_any A2 n2 c2 ms wc (R2.it.below HBc.it) (by omega)).mono ?_
    rintro e wd ⟨vd, rfl, od, hbd⟩
    obtain ⟨t, ht⟩ : ∃ t, t = (team ms).length := ⟨_, rfl⟩
    have htl : t ≤ 100 := by have := team_len ms; omega
    obtain ⟨At, ct, et, _, _, _, rt⟩ := od.form3 (by omega)
    have HBd : Kp (Below w.heap.size w wd) := ⟨HBc.it.trans (hbd.mono HBc.it.size)⟩
    rw [← ht] at et rt
    have RT := Kp.mk rt
    have RCd := Kp.mk (RC.it.below hbd)
    have HT := Kp.mk ht
    subst et
    clear od hbd rt hbc ht
    have HQ : Kp (n1 / t ≤ n1) := ⟨Nat.div_le_self _ _⟩
    have HE : Kp (∀ i, i < t → ((cnt (· == rd (team ms) i) (share os ms) n1 : Nat) : Int) = (n1 / t : Nat) ∨ ((cnt (· == rd (team ms) i) (share os ms) n1 : Nat) : Int) = ((n1 / t : Nat) : Int) + 1) := ⟨fun i hi => by
      have := even_cnt os ms (i := i) (by rw [← HT.it]; exact hi)
      rw [share_len, L1, ← HT.it] at this
      exact this⟩
    have HM : Kp (∀ k, k < n1 → inB (team ms) (rd (share os ms) k) = decide (0 < t)) := ⟨fun k hk => by
      have := even_mem os ms (k := k) (by rw [share_len, L1]; exact hk)
      rw [← HT.it] at this
      exact this⟩
    obtain ⟨q, hq⟩ : ∃ q, q = n1 / t := ⟨_, rfl⟩
    rw [← hq] at HQ HE
    clear hq
    have HSL : Kp ((share os ms).length = n1) := ⟨by rw [share_len, L1]⟩
    go_wp2
    go_loop [7, 8, 39] (fun a b j => ∃ (x y : Int) (i : Nat), i ≤ t ∧ j = .int .i64 i ∧ a = .int .i64 x ∧ b = .int .i64 y ∧ (q : Int) ≤ x ∧ x ≤ n1 ∧ 0 ≤ y ∧ y ≤ (q : Int) + 1) (fun _ _ j => t - (intOf j).toNat)
    case atStart => exact ⟨n1, 0, 0, by omega, rfl, rfl, rfl, by have := HQ.it; omega, by omega, by omega, by omega⟩
    case round =>
      obtain ⟨x, y, i, hi, rfl, rfl, rfl, hx0, hx1, hy0, hy1⟩ := hrel
      by_cases hit : i < t
      · obtain ⟨bt, ot, hA, hlt, hcell⟩ := RT.it.get hit
        cases hA
        have HV := HE.it i hit
        have HVk := Kp.mk HV
        clear HV
        go_wp2
        go_loop [11, 45] (fun a b => ∃ k : Nat, k ≤ n1 ∧ b = .int .i64 k ∧ a = .int .i64 (cnt (· == rd (team ms) i) (share os ms) k : Nat)) (fun _ b => n1 - (intOf b).toNat)
        case atStart => exact ⟨0, by omega, rfl, by rw [cnt_zero]; rfl⟩
        case round =>
          obtain ⟨k, hk, rfl, rfl⟩ := hrel
          by_cases hkn : k < n1
          · obtain ⟨bc, oc, hC, hlc, hcc⟩ := RCd.it.get hkn
            cases hC
            have hcl := cnt_le (· == rd (team ms) i) (share os ms) k
            cases hv : rd (share os ms) k == rd (team ms) i with
            | true =>
              have HN : Kp (cnt (· == rd (team ms) i) (share os ms) (k + 1) = cnt (· == rd (team ms) i) (share os ms) k + 1) := ⟨cnt_hit (by rw [HSL.it]; exact hkn) hv⟩
              go_wp2
              go_round
              case rel => exact ⟨k + 1, by omega, by go_num, by rw [HN.it]; go_num⟩
              case measure => simp [intOf]; omega
            | false =>
              have HN : Kp (cnt (· == rd (team ms) i) (share os ms) (k + 1) = cnt (· == rd (team ms) i) (share os ms) k) := ⟨cnt_miss (by rw [HSL.it]; exact hkn) hv⟩
              go_wp2
              go_round
              case rel => exact ⟨k + 1, by omega, by go_num, by rw [HN.it]⟩
              case measure => simp [intOf]; omega
          · obtain rfl : k = n1 := by omega
            have hz := HVk.it
            have hz0 := cnt_le (· == rd (team ms) i) (share os ms) k
            obtain ⟨z, hze⟩ : ∃ z : Int, z = ((cnt (· == rd (team ms) i) (share os ms) k : Nat) : Int) := ⟨_, rfl⟩
            rw [← hze] at hz ⊢
            have hz1 : 0 ≤ z := by omega
            have hz2 : z ≤ k := by omega
            clear hze hz0
            go_wp2
            exact ⟨⟨min x z, max y z, i + 1, by omega, by go_num, rfl, rfl, by omega, by omega, by omega, by omega⟩, by simp [intOf]; omega⟩
      · obtain rfl : i = t := by omega
        go_wp2
        go_loop [64] (fun b => ∃ k : Nat, k ≤ n1 ∧ b = .int .i64 k) (fun b => n1 - (intOf b).toNat)
        case atStart => exact ⟨0, by omega, rfl⟩
        case round =>
          obtain ⟨k, hk, rfl⟩ := hrel
          by_cases hkn : k < n1
          · obtain ⟨bc, oc, hC, hlc, hcc⟩ := RCd.it.get hkn
            cases hC
            have HI := Kp.mk (HM.it k hkn)
            by_cases hi0 : 0 < i
            · have hi1 : (0 : Int) < ↑i := by omega
              have HI2 : Kp (inB (team ms) (rd (share os ms) k) = true) := ⟨by rw [HI.it]; simpa using hi0⟩
              go_wp2_with (go_at_call 19; refine (contains_any At i ct (team ms) _ wd RT.it).mono ?_; rintro e wz ⟨rfl, rfl⟩; rw [HI2.it])
              go_round
              case rel => exact ⟨k + 1, by omega, by go_num⟩
              case measure => simp [intOf]; omega
            · have hi1 : i = 0 := by omega
              subst hi1
              have HI2 : Kp (inB (team ms) (rd (share os ms) k) = false) := ⟨by rw [HI.it]; rfl⟩
              go_wp2_with (go_at_call 19; refine (contains_any At 0 ct (team ms) _ wd RT.it).mono ?_; rintro e wz ⟨rfl, rfl⟩; rw [HI2.it])
              go_round
              case rel =>
                refine ⟨trivial, ?_⟩
                (repeat apply Exists.intro)
                refine ⟨⟨k + 1, by omega, ?_⟩, rfl⟩
                go_num
              case measure => simp [intOf]; omega
          · have AW := Kp.mk (awake_any wd)
            have hyx : y - x ≤ 1 := by omega
            by_cases hi0 : 0 < i
            · have hi1 : (0 : Int) < ↑i := by omega
              have hi2 : ((↑i : Int) == 0) = false := by simp; omega
              go_wp2_with (go_at_call 13; refine AW.it.mono ?_; rintro e wz ⟨rfl, hbz⟩)
              go_ret
              exact ⟨rfl, HBd.it.trans (hbz.mono HBd.it.size)⟩
            · have hi1 : i = 0 := by omega
              subst hi1
              go_wp2_with (go_at_call 13; refine AW.it.mono ?_; rintro e wz ⟨rfl, hbz⟩)
              go_ret
              exact ⟨rfl, HBd.it.trans (hbz.mono HBd.it.size)⟩

set_option linter.unusedVariables false in
set_option maxRecDepth 100000 in
theorem groupEven_lifted (os : Os) (started : os.Started) (H : Type) (enc : TypeId × Value → H) :
    ReturnsInHanded {} Try.checked os 4 .any (Rows.groupEvenSpec.pre6 enc Try.prog Try.f4 Rows.groupEvenRow.domain false) (Rows.groupEvenSpec.post enc Try.prog Try.f4 false true false false) := by
  refine returnsInHanded_of_change_sized (C := Try.checked) (by kernel_rfl) started (by kernel_rfl) Try.func4
    (ChangeSpec.witness6 (enc := enc) (C := Try.checked) false ⟨#[], #[.slice none 0 0, .slice none 0 0], []⟩ 8 (by kernel_rfl) (by kernel_rfl) (by kernel_rfl) (by kernel_rfl)) ?_
  intro W base args ds gs before hval0 hW hcnd hsz0 _
  have hval : ∀ (j : Nat) t v, Try.f4.params[j]? = some t → args[j]? = some v → Value.okWide Try.prog W .any base t v := hval0
  have hW' := hW
  obtain ⟨p, q, hA0, hV, rfl, hfz, hnd⟩ := hW
  have hA : DataW.TrodAll enc Try.prog W 0 (fun _ => true) true Try.f4.params.toList args.toList ds p := hA0
  have hsz : (DataW.weightsEach Try.prog (Try.f4.params.toList ++ Rows.groupEvenSpec.plain.varTypes Try.prog) (ds ++ gs)).all (· ≤ reachBytes) = true := hsz0
  rw [Try.params4] at hA hval hsz
  obtain ⟨v0, vs0, d0, ds0, p0, q0, hargs, rfl, rfl, h0, r0⟩ := trodAll_cons hA
  obtain ⟨v1, vs1, d1, ds1, p1, q1, rfl, rfl, rfl, h1, r1⟩ := trodAll_cons r0
  obtain ⟨rfl, rfl, rfl⟩ := trodAll_nil r1
  obtain rfl : args = #[v0, v1] := by cases args; simp_all
  obtain ⟨rfl, rfl⟩ := trodVars_none hV
  have k0 := h0
  have lt0 : ∀ x ∈ p0, x.block < W.heap.size := by obtain ⟨m, hm⟩ := k0; exact DataW.trod_lt m _ _ _ hm
  obtain ⟨A0, n0, c0, xs0, rfl, ra0, ea0, wf0⟩ := sl_open2 (hval 0 22 v0 rfl rfl) h0 (fun x hx => by simpa using List.all_eq_true.1 hsz x (DataW.weights_mem_each (j := 0) (t := 22) rfl rfl x hx))
  have k1 := h1
  have lt1 : ∀ x ∈ p1, x.block < W.heap.size := by obtain ⟨m, hm⟩ := k1; exact DataW.trod_lt m _ _ _ hm
  obtain ⟨A1, n1, c1, xs1, rfl, ra1, ea1, wf1⟩ := sl_open2 (hval 1 22 v1 rfl rfl) h1 (fun x hx => by simpa using List.all_eq_true.1 hsz x (DataW.weights_mem_each (j := 1) (t := 22) rfl rfl x hx))
  clear hA0 hval0 hsz hsz0
  refine (even_walk A0 A1 n0 c0 n1 c1 xs0 xs1 W ra0 ra1 ea0 ea1 wf0 wf1).mono fun e W' ⟨he, bel⟩ => ?_
  subst he
  exact ⟨_, rfl, _, _, _, [], _, [], hW', trodAll_mk1 (shut_bool Try.underlying4 _), (trodAll_cons_mk (Below.trod (by kernel_rfl) (by kernel_rfl) (of_decide_eq_true (by kernel_rfl)) k0 bel lt0) (trodAll_cons_mk (Below.trod (by kernel_rfl) (by kernel_rfl) (of_decide_eq_true (by kernel_rfl)) k1 bel lt1) trodAll_mk0)), rfl, bel.frame _, fun h => by cases h⟩

theorem GroupEven_holds : Rows.GroupEvenSaid :=
  OpenClaim.holds_of_wide 4 Try.f4 rfl rfl rfl rfl rfl rfl rfl ⟨rfl, rfl, rfl, rfl, rfl⟩ rfl rfl rfl rfl rfl (by kernel_rfl) Try.func4 (by kernel_rfl)
    (of_decide_eq_true (by kernel_rfl)) (by unfold Func.isWrapper; first | (rw [if_pos (by decide +kernel)]; kernel_rfl) | (rw [if_neg (by decide +kernel)]; exact ⟨rfl, rfl⟩))
    (fun os started H enc _ => groupEven_lifted os started H enc)
