/-
  GroupShares: Share of any parts and any members answers what the reference answers.
-/
import Derived.Test.YtemnhmnompehoaaAwake
import Derived.Test.YtemnhmnompehoaaRShW
import Derived.Test.YtemnhmnompehoaaOpen
namespace Go.Proofs.Ytemnhmnompehoaa
open Go.ChangeShapes Go.WideShapes Go.ChangeAt Go.RowKit

set_option linter.unusedVariables false in
set_option maxRecDepth 100000 in
set_option maxHeartbeats 4000000 in
theorem shares_walk (A1 A2 : Option Addr) (n1 c1 n2 c2 : Nat) (os ms : List Int) (w : World) (h1 : Rd w A1 n1 os) (h2 : Rd w A2 n2 ms) (e1 : A1 = none → c1 = 0) (e2 : A2 = none → c2 = 0) (w1 : ∀ x ∈ os, Wf x) (w2 : ∀ x ∈ ms, Wf x) :
    Calls Try.prog 3 #[.slice A1 n1 c1, .slice A2 n2 c2] w fun e w' => e = .returned (.bool true) ∧ Below w.heap.size w w' := by
  have hb1 := h1.bd
  have hb2 := h2.bd
  by_cases hl : 200 < n1 ∨ 100 < n2
  · have AW := Kp.mk (awake_any w)
    clear h1 h2 e1 e2 w1 w2
    by_cases hl1 : 200 < n1
    · have hk1 : (200 : Int) < ↑n1 := by omega
      clear hl
      go_enter Try.func3, Try.ntmps3
      go_wp2_with (go_at_call 13; refine AW.it.mono ?_; rintro e w' ⟨rfl, hb'⟩)
      go_ret
      exact ⟨rfl, hb'⟩
    · have hk1 : (↑n1 : Int) ≤ 200 := by omega
      have hk2 : (100 : Int) < ↑n2 := by omega
      clear hl
      go_enter Try.func3, Try.ntmps3
      go_wp2_with (go_at_call 13; refine AW.it.mono ?_; rintro e w' ⟨rfl, hb'⟩)
      go_ret
      exact ⟨rfl, hb'⟩
  · have hk1 : (↑n1 : Int) ≤ 200 := by omega
    have hk2 : (↑n2 : Int) ≤ 100 := by omega
    have hN1 : n1 ≤ 200 := by omega
    have hN2 : n2 ≤ 100 := by omega
    have R1 := Kp.mk h1
    have R2 := Kp.mk h2
    have E1 := Kp.mk e1
    have E2 := Kp.mk e2
    have V1 := Kp.mk w1
    have V2 := Kp.mk w2
    have L1 := h1.len
    have L2 := h2.len
    clear h1 h2 e1 e2 w1 w2 hl
    go_enter Try.func3, Try.ntmps3
    go_wp2_with fail
    go_at_call 14
    refine (clone_any A1 n1 c1 os w R1.it E1.it).mono ?_
    rintro e wa ⟨va, rfl, oa, hba⟩
    obtain ⟨Aa, ca, ea, na, la, _, ra⟩ := oa.form3 (by omega)
    have HBa := Kp.mk hba
    have RA : Kp (Rd wa Aa n1 os) := ⟨by rw [← L1]; exact ra⟩
    rw [L1] at ea
    subst ea
    have Na := Kp.mk na
    clear oa hba na la ra
    go_wp2_with fail
    go_at_call 14
    refine (clone_any A2 n2 c2 ms wa (R2.it.below HBa.it) E2.it).mono ?_
    rintro e wb ⟨vb, rfl, ob, hbb⟩
    obtain ⟨Ab, cb, eb, nb, lb, _, rb⟩ := ob.form3 (by omega)
    have HBb : Kp (Below w.heap.size w wb) := ⟨HBa.it.trans (hbb.mono HBa.it.size)⟩
    have RB : Kp (Rd wb Ab n2 ms) := ⟨by rw [← L2]; exact rb⟩
    have RAb := Kp.mk (RA.it.below hbb)
    rw [L2] at eb
    subst eb
    have Nb := Kp.mk nb
    clear ob hbb nb lb rb
    go_wp2_with fail
    go_at_call 16
    refine (share_any Aa Ab n1 ca n2 cb os ms wb RAb.it RB.it Nb.it V1.it V2.it (by omega) (by omega)).mono ?_
    rintro e wc ⟨vc, rfl, oc, hbc⟩
    obtain ⟨Ac, cc, ec, _, _, _, rc⟩ := oc.form3 (by rw [share_len]; omega)
    have HBc : Kp (Below w.heap.size w wc) := ⟨HBb.it.trans (hbc.mono HBb.it.size)⟩
    rw [share_len, L1] at ec rc
    have RC := Kp.mk rc
    have RAc := Kp.mk (RAb.it.below hbc)
    have RBc := Kp.mk (RB.it.below hbc)
    subst ec
    clear oc hbc rc
    go_wp2_with fail
    go_at_call 17
    refine (rshare_any A1 A2 n1 c1 n2 c2 os ms wc (R1.it.below HBc.it) (R2.it.below HBc.it) (by omega) (by omega)).mono ?_
    rintro e wd ⟨vd, rfl, od, hbd⟩
    obtain ⟨Ad, cd, ed, _, _, _, rdd⟩ := od.form3 (by rw [share_len]; omega)
    have HBd : Kp (Below w.heap.size w wd) := ⟨HBc.it.trans (hbd.mono HBc.it.size)⟩
    rw [share_len, L1] at ed rdd
    have RD := Kp.mk rdd
    have RCd := Kp.mk (RC.it.below hbd)
    have RAd := Kp.mk (RAc.it.below hbd)
    have RBd := Kp.mk (RBc.it.below hbd)
    subst ed
    clear od hbd rdd
    have Q1 := equal_gr Ac Ad n1 cc n1 cd (share os ms) (share os ms) wd RCd.it RD.it
    rw [eqB_refl] at Q1
    go_wp2_with fail
    go_at_call 15
    refine Q1.mono ?_
    rintro e we ⟨rfl, hbe⟩
    have HBe : Kp (Below w.heap.size w we) := ⟨HBd.it.trans (hbe.mono HBd.it.size)⟩
    have Q2 := equal_gr Aa A1 n1 ca n1 c1 os os we (RAd.it.below hbe) (R1.it.below HBe.it)
    rw [eqB_refl] at Q2
    have RBe := Kp.mk (RBd.it.below hbe)
    clear Q1 hbe
    go_wp2_with fail
    go_at_call 15
    refine Q2.mono ?_
    rintro e wf ⟨rfl, hbf⟩
    have HBf : Kp (Below w.heap.size w wf) := ⟨HBe.it.trans (hbf.mono HBe.it.size)⟩
    have Q3 := equal_gr Ab A2 n2 cb n2 c2 ms ms wf (RBe.it.below hbf) (R2.it.below HBf.it)
    rw [eqB_refl] at Q3
    clear Q2 hbf
    go_wp2_with fail
    go_at_call 15
    refine Q3.mono ?_
    rintro e wg ⟨rfl, hbg⟩
    have HBg : Kp (Below w.heap.size w wg) := ⟨HBf.it.trans (hbg.mono HBf.it.size)⟩
    clear Q3 hbg
    go_wp2_with fail
    go_at_call 13
    refine (awake_any wg).mono ?_
    rintro e wh ⟨rfl, hbh⟩
    have HBh : Kp (Below w.heap.size w wh) := ⟨HBg.it.trans (hbh.mono HBg.it.size)⟩
    clear hbh
    go_wp2
    go_ret
    exact ⟨rfl, HBh.it⟩

set_option linter.unusedVariables false in
set_option maxRecDepth 100000 in
theorem groupShares_lifted (os : Os) (started : os.Started) (H : Type) (enc : TypeId × Value → H) :
    ReturnsInHanded {} Try.checked os 3 .any (Rows.groupSharesSpec.pre6 enc Try.prog Try.f3 Rows.groupSharesRow.domain false) (Rows.groupSharesSpec.post enc Try.prog Try.f3 false true false false) := by
  refine returnsInHanded_of_change_sized (C := Try.checked) (by kernel_rfl) started (by kernel_rfl) Try.func3
    (ChangeSpec.witness6 (enc := enc) (C := Try.checked) false ⟨#[], #[.slice none 0 0, .slice none 0 0], []⟩ 8 (by kernel_rfl) (by kernel_rfl) (by kernel_rfl) (by kernel_rfl)) ?_
  intro W base args ds gs before hval0 hW hcnd hsz0 _
  have hval : ∀ (j : Nat) t v, Try.f3.params[j]? = some t → args[j]? = some v → Value.okWide Try.prog W .any base t v := hval0
  have hW' := hW
  obtain ⟨p, q, hA0, hV, rfl, hfz, hnd⟩ := hW
  have hA : DataW.TrodAll enc Try.prog W 0 (fun _ => true) true Try.f3.params.toList args.toList ds p := hA0
  have hsz : (DataW.weightsEach Try.prog (Try.f3.params.toList ++ Rows.groupSharesSpec.plain.varTypes Try.prog) (ds ++ gs)).all (· ≤ reachBytes) = true := hsz0
  rw [Try.params3] at hA hval hsz
  obtain ⟨v0, vs0, d0, ds0, p0, q0, hargs, rfl, rfl, h0, r0⟩ := trodAll_cons hA
  obtain ⟨v1, vs1, d1, ds1, p1, q1, rfl, rfl, rfl, h1, r1⟩ := trodAll_cons r0
  obtain ⟨rfl, rfl, rfl⟩ := trodAll_nil r1
  obtain rfl : args = #[v0, v1] := by cases args; simp_all
  obtain ⟨rfl, rfl⟩ := trodVars_none hV
  have k0 := h0
  have lt0 : ∀ x ∈ p0, x.block < W.heap.size := by obtain ⟨m, hm⟩ := k0; exact DataW.trod_lt m _ _ _ hm
  obtain ⟨A0, n0, c0, xs0, rfl, ra0, ea0, wf0⟩ := sl_open2 (hval 0 22 v0 rfl rfl) h0 (fun x hx => by simpa using List.all_eq_true.1 hsz x (DataW.weights_mem_each (j := 0) (t := 22) rfl rfl x hx))
  have k1 := h1
  have lt1 : ∀ x ∈ p1, x.block < W.heap.size := by obtain ⟨m, hm⟩ := k1; exact DataW.trod_lt m _ _ _ hm
  obtain ⟨A1, n1, c1, xs1, rfl, ra1, ea1, wf1⟩ := sl_open2 (hval 1 22 v1 rfl rfl) h1 (fun x hx => by simpa using List.all_eq_true.1 hsz x (DataW.weights_mem_each (j := 1) (t := 22) rfl rfl x hx))
  clear hA0 hval0 hsz hsz0
  refine (shares_walk A0 A1 n0 c0 n1 c1 xs0 xs1 W ra0 ra1 ea0 ea1 wf0 wf1).mono fun e W' ⟨he, bel⟩ => ?_
  subst he
  exact ⟨_, rfl, _, _, _, [], _, [], hW', trodAll_mk1 (shut_bool Try.underlying4 _), (trodAll_cons_mk (Below.trod (by kernel_rfl) (by kernel_rfl) (of_decide_eq_true (by kernel_rfl)) k0 bel lt0) (trodAll_cons_mk (Below.trod (by kernel_rfl) (by kernel_rfl) (of_decide_eq_true (by kernel_rfl)) k1 bel lt1) trodAll_mk0)), rfl, bel.frame _, fun h => by cases h⟩

theorem GroupShares_holds : Rows.GroupSharesSaid :=
  OpenClaim.holds_of_wide 3 Try.f3 rfl rfl rfl rfl rfl rfl rfl ⟨rfl, rfl, rfl, rfl, rfl⟩ rfl rfl rfl rfl rfl (by kernel_rfl) Try.func3 (by kernel_rfl)
    (of_decide_eq_true (by kernel_rfl)) (by unfold Func.isWrapper; first | (rw [if_pos (by decide +kernel)]; kernel_rfl) | (rw [if_neg (by decide +kernel)]; exact ⟨rfl, rfl⟩))
    (fun os started H enc _ => groupShares_lifted os started H enc)
