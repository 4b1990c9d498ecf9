/-
  PackBest: by no other lengths whose codes could be told apart do the weights need fewer bits.
-/
import Derived.Test.YtnkgagbobihnnaaAwk
import Derived.Test.YtnkgagbobihnnaaOpn
import Derived.Test.YtnkgagbobihnnaaBst
import Derived.Test.YtnkgagbobihnnaaRows
namespace Go.Proofs.Ytnkgagbobihnnaa
open Go.ChangeShapes Go.WideShapes Go.ChangeAt Go.RowKit

theorem sumOK_rng {ws : List Int} : ∀ {k s : Nat}, sumOK ws k = some s → ∀ j, j < k → 0 ≤ rd ws j ∧ rd ws j ≤ 1099511627776
  | 0, s, h => fun j hj => by omega
  | k + 1, s, h => by
    unfold sumOK at h
    cases h1 : sumOK ws k with
    | none => rw [h1] at h; cases h
    | some t =>
      rw [h1] at h
      simp only at h
      split at h
      · cases h
      · rename_i h2
        intro j hj
        rcases Nat.lt_succ_iff_lt_or_eq.1 hj with hj | rfl
        · exact sumOK_rng h1 j hj
        · omega
theorem lengths_w {ws L : List Int} (h : lengthsP ws = (0, L)) : ∀ j, j < ws.length → 0 ≤ rd ws j ∧ rd ws j ≤ 1099511627776 := by
  unfold lengthsP at h
  split at h
  · cases h
  · rename_i s e
    exact sumOK_rng e
theorem AS_bd {f : Nat → Nat} {M : Nat} : ∀ {k : Nat}, (∀ j, j < k → f j ≤ M) → AS f k ≤ k * M
  | 0, _ => by show 0 ≤ _; omega
  | k + 1, h => by
    have h1 := AS_bd (f := f) (k := k) (M := M) fun j hj => h j (by omega)
    have h2 := h k (by omega)
    show AS f k + f k ≤ _
    rw [Nat.succ_mul]
    omega

theorem w64 {S P : Nat} (h : S + P < 9223372036854775808) : wrap64 ((S : Int) + wrap64 (P : Int)) = ((S + P : Nat) : Int) := by unfold wrap64; omega
theorem mul_nat {x z : Int} (hx : 0 ≤ x) (hz : 0 ≤ z) : x * z = ((x.toNat * z.toNat : Nat) : Int) := by rw [Int.natCast_mul, Int.toNat_of_nonneg hx, Int.toNat_of_nonneg hz]

set_option linter.unusedVariables false in
set_option maxRecDepth 100000 in
set_option maxHeartbeats 8000000 in
theorem best_walk (B : Option Addr) (m d : Nat) (ws : List Int) (A : Option Addr) (n c : Nat) (os : List Int) (w : World) (h2 : Rd w B m ws) (hnil2 : B = none → d = 0) (wf2 : ∀ x ∈ ws, Wf x) (h : Rd w A n os) (hnil : A = none → c = 0) (wf : ∀ x ∈ os, Wf x) :
    Calls Try.prog 5 #[.slice B m d, .slice A n c] w fun e w' => e = .returned (.bool true) ∧ Below w.heap.size w w' := by
  have H := Kp.mk h
  have H2 := Kp.mk h2
  clear h hnil wf h2 hnil2 wf2
  go_enter Try.func5, Try.ntmps5
  by_cases hm : 100 < m
  · have hd2 : decide ((100 : Int) < (m : Int)) = true := by simp; omega
    go_wp2_with (go_at_call 15; refine (awake_any _).mono ?_; rintro e w1 ⟨rfl, hb1⟩)
    go_ret
    exact ⟨rfl, hb1⟩
  have hd2 : decide ((100 : Int) < (m : Int)) = false := by rw [decide_eq_false_iff_not]; omega
  by_cases hn : 200 < n
  · have hd : decide ((200 : Int) < (n : Int)) = true := by simp; omega
    go_wp2_with (go_at_call 15; refine (awake_any _).mono ?_; rintro e w1 ⟨rfl, hb1⟩)
    go_ret
    exact ⟨rfl, hb1⟩
  have hd : decide ((200 : Int) < (n : Int)) = false := by rw [decide_eq_false_iff_not]; omega
  have HLC := Kp.mk (lengths_any B m d ws w H2.it (by omega))
  go_wp2_with fail
  refine HLC.it.mono ?_
  rintro e w3 ⟨v3, rfl, ho3, hb3⟩
  obtain ⟨F, L, hFL⟩ : ∃ F L, lengthsP ws = (F, L) := ⟨_, _, rfl⟩
  rw [hFL] at ho3 ⊢
  have B3 := Kp.mk hb3
  have HFL := Kp.mk hFL
  have HML := Kp.mk H2.it.len
  by_cases hF : F = 0
  · subst hF
    obtain ⟨hLL, hrL, _⟩ := lengths_full hFL
    have hwr := lengths_w hFL
    have hLb : L.length * 8 ≤ 140737488351232 := by rw [hLL, HML.it]; omega
    obtain ⟨A3, c3, hv3, _, _, _, hr3⟩ := ho3.form3 hLb
    have HLL : Kp (L.length = m) := ⟨by rw [hLL, HML.it]⟩
    rw [HLL.it] at hv3 hr3
    subst hv3
    have R3 := Kp.mk hr3
    have HRL := Kp.mk hrL
    have HWR := Kp.mk hwr
    have I2 := Kp.mk (H2.it.below hb3)
    have I1 := Kp.mk (H.it.below hb3)
    clear hb3 ho3 hr3 hrL hwr hFL hLL hLb HLC
    have hne : ((m : Int) != (m : Int)) = false := by simp
    go_wp2
    go_loopw [7, 8, 9, 36] (fun r s t i wr => ∃ k : Nat, k ≤ m ∧ i = .int .i64 k ∧ r = .int .i64 (AS (fun i => if 0 < rd ws i then 2 ^ (40 - ln os i) else 0) k : Nat) ∧ s = .int .i64 (AS (fun i => if 0 < rd ws i then (rd ws i).toNat * ln L i else 0) k : Nat) ∧ t = .int .i64 (AS (fun i => if 0 < rd ws i then (rd ws i).toNat * ln os i else 0) k : Nat) ∧ Kp (∀ i, i < k → 0 < rd ws i → 1 ≤ ln os i ∧ ln os i ≤ 40) ∧ Kp (∃ q, wr = w3.drewN q)) (fun _ _ _ i _ => m - (intOf i).toNat)
    case atStart => exact ⟨0, by omega, rfl, rfl, rfl, rfl, ⟨fun i hi => by omega⟩, ⟨0, rfl⟩⟩
    case round =>
      obtain ⟨k, hk, rfl, rfl, rfl, rfl, hA, hW⟩ := hrel
      have HBW : Kp (Below w3.heap.size w3 wr) := ⟨by obtain ⟨q, rfl⟩ := hW.it; exact below_drewN (Below.refl w3.heap.size w3) q⟩
      by_cases hkm : k < m
      · have hdk : decide ((k : Int) < (m : Int)) = true := by simp; omega
        obtain ⟨b1, o1, hB1, _, e1⟩ := I2.it.get hkm
        cases hB1
        have f1 : wr.cell? ⟨b1, o1 + k, none⟩ = some (.int .i64 (rd ws k)) := by obtain ⟨q, rfl⟩ := hW.it; exact e1
        have hx := HWR.it k (by rw [HML.it]; exact hkm)
        obtain ⟨R, hR⟩ : ∃ R, R = AS (fun i => if 0 < rd ws i then 2 ^ (40 - ln os i) else 0) k := ⟨_, rfl⟩
        obtain ⟨S, hS⟩ : ∃ S, S = AS (fun i => if 0 < rd ws i then (rd ws i).toNat * ln L i else 0) k := ⟨_, rfl⟩
        obtain ⟨T, hT⟩ : ∃ T, T = AS (fun i => if 0 < rd ws i then (rd ws i).toNat * ln os i else 0) k := ⟨_, rfl⟩
        have hR2 : Kp (AS (fun i => if 0 < rd ws i then 2 ^ (40 - ln os i) else 0) (k + 1) = R + (if 0 < rd ws k then 2 ^ (40 - ln os k) else 0)) := ⟨by rw [hR]; rfl⟩
        have hS2 : Kp (AS (fun i => if 0 < rd ws i then (rd ws i).toNat * ln L i else 0) (k + 1) = S + (if 0 < rd ws k then (rd ws k).toNat * ln L k else 0)) := ⟨by rw [hS]; rfl⟩
        have hT2 : Kp (AS (fun i => if 0 < rd ws i then (rd ws i).toNat * ln os i else 0) (k + 1) = T + (if 0 < rd ws k then (rd ws k).toNat * ln os k else 0)) := ⟨by rw [hT]; rfl⟩
        have hRb : R ≤ k * 1099511627776 := by
          rw [hR]; refine AS_bd fun j hj => ?_
          split
          · exact Nat.le_trans (Nat.pow_le_pow_right (by omega) (show 40 - ln os j ≤ 40 by omega)) (by decide)
          · omega
        have hSb : S ≤ k * 34084860461056 := by
          rw [hS]; refine AS_bd fun j hj => ?_
          split
          · have h1 := HWR.it j (by rw [HML.it]; omega)
            have h3 := HRL.it j (by rw [HLL.it]; omega)
            exact Nat.le_trans (Nat.mul_le_mul (show (rd ws j).toNat ≤ 1099511627776 by omega) (show ln L j ≤ 31 by unfold ln; omega)) (by decide)
          · omega
        have hTb : T ≤ k * 43980465111040 := by
          rw [hT]; refine AS_bd fun j hj => ?_
          split
          · rename_i h0
            have h1 := HWR.it j (by rw [HML.it]; omega)
            have h3 := hA.it j hj h0
            exact Nat.le_trans (Nat.mul_le_mul (show (rd ws j).toNat ≤ 1099511627776 by omega) h3.2) (by decide)
          · omega
        rw [← hR, ← hS, ← hT]
        clear hR hS hT e1
        obtain ⟨x, hxe⟩ : ∃ x, x = rd ws k := ⟨_, rfl⟩
        rw [← hxe] at f1 hx hR2 hS2 hT2
        have HX := Kp.mk hxe
        clear hxe
        by_cases hx0 : 0 < x
        · have hxz : (x == 0) = false := by simp; omega
          have hxm : decide (x > 1099511627776) = false := by simp; omega
          by_cases hkn : k < n
          · have hkn1 : decide ((k : Int) ≥ (n : Int)) = false := by simp; omega
            have hkn2 : decide (n ≤ k) = false := by simp; omega
            obtain ⟨b2, o2, hB2, _, e2⟩ := I1.it.get hkn
            cases hB2
            have f2 : wr.cell? ⟨b2, o2 + k, none⟩ = some (.int .i64 (rd os k)) := by obtain ⟨q, rfl⟩ := hW.it; exact e2
            obtain ⟨y, hye⟩ : ∃ y, y = rd os k := ⟨_, rfl⟩
            rw [← hye] at f2
            have HY := Kp.mk hye
            clear hye e2
            by_cases hy1 : y < 1
            · have hq : decide (y < 1) = true := by simpa using hy1
              go_wp2_with (go_at_call 15; refine (awake_any _).mono ?_; rintro e w4 ⟨rfl, hb4⟩)
              go_ret
              exact ⟨rfl, B3.it.trans ((HBW.it.trans (hb4.mono HBW.it.size)).mono B3.it.size)⟩
            · have hq : decide (y < 1) = false := by simpa using hy1
              by_cases hy2 : 40 < y
              · have hq2 : decide (y > 40) = true := by simpa using hy2
                go_wp2_with (go_at_call 15; refine (awake_any _).mono ?_; rintro e w4 ⟨rfl, hb4⟩)
                go_ret
                exact ⟨rfl, B3.it.trans ((HBW.it.trans (hb4.mono HBW.it.size)).mono B3.it.size)⟩
              · have hq2 : decide (y > 40) = false := by simpa using hy2
                obtain ⟨b5, o5, hB5, _, e5⟩ := R3.it.get hkm
                cases hB5
                have f5 : wr.cell? ⟨b5, o5 + k, none⟩ = some (.int .i64 (rd L k)) := by obtain ⟨q, rfl⟩ := hW.it; exact e5
                have hl := HRL.it k (by rw [HLL.it]; exact hkm)
                obtain ⟨z, hze⟩ : ∃ z, z = rd L k := ⟨_, rfl⟩
                rw [← hze] at f5 hl
                have HZ := Kp.mk hze
                clear hze e5
                obtain ⟨t, ht⟩ : ∃ t : Nat, 40 - y = (t : Int) := ⟨(40 - y).toNat, by omega⟩
                have hw : IntKind.i64.wrap (40 - y) = (t : Int) := by rw [IntWalk.i64_in _ (by omega)]; exact ht
                have hP : (2 : Nat) ^ t ≤ 2 ^ 39 := Nat.pow_le_pow_right (by omega) (by omega)
                have hxz1 : x.toNat * z.toNat ≤ 1099511627776 * 31 := Nat.mul_le_mul (by omega) (by omega)
                have hxy1 : x.toNat * y.toNat ≤ 1099511627776 * 40 := Nat.mul_le_mul (by omega) (by omega)
                have E1 : Kp (wrap64 ((R : Int) + wrap64 ((2 : Int) ^ min t 64)) = ((R + 2 ^ t : Nat) : Int)) := ⟨by
                  rw [show min t 64 = t by omega, show ((2 : Int) ^ t) = ((2 ^ t : Nat) : Int) by simp]
                  exact w64 (by omega)⟩
                have E2 : Kp (wrap64 ((S : Int) + wrap64 (x * z)) = ((S + x.toNat * z.toNat : Nat) : Int)) := ⟨by
                  rw [mul_nat (by omega) (by omega)]
                  exact w64 (by omega)⟩
                have E3 : Kp (wrap64 ((T : Int) + wrap64 (x * y)) = ((T + x.toNat * y.toNat : Nat) : Int)) := ⟨by
                  rw [mul_nat (by omega) (by omega)]
                  exact w64 (by omega)⟩
                rw [if_pos hx0] at hR2 hS2 hT2
                rw [show ln os k = y.toNat by unfold ln; rw [HY.it]] at hR2 hT2
                rw [show ln L k = z.toNat by unfold ln; rw [HZ.it]] at hS2
                rw [show 40 - y.toNat = t by omega] at hR2
                have HLY : Kp (1 ≤ ln os k ∧ ln os k ≤ 40) := ⟨by unfold ln; rw [← HY.it]; omega⟩
                clear ht hP hxz1 hxy1
                go_wp2_with (go_quiet (fail))
                go_roundw
                case rel => exact ⟨k + 1, by omega, by go_num, by rw [hR2.it, E1.it], by rw [hS2.it, E2.it], by rw [hT2.it, E3.it], ⟨fun i hi h0 => by
                  rcases Nat.lt_succ_iff_lt_or_eq.1 hi with hi | rfl
                  · exact hA.it i hi h0
                  · exact HLY.it⟩, ⟨by obtain ⟨q, rfl⟩ := hW.it; exact ⟨_, World.drewN_drewN ..⟩⟩⟩
                case measure => simp [intOf]; omega
          · have hkn1 : decide ((k : Int) ≥ (n : Int)) = true := by simp; omega
            have hkn2 : decide (n ≤ k) = true := by simp; omega
            go_wp2_with (go_at_call 15; refine (awake_any _).mono ?_; rintro e w4 ⟨rfl, hb4⟩)
            go_ret
            exact ⟨rfl, B3.it.trans ((HBW.it.trans (hb4.mono HBW.it.size)).mono B3.it.size)⟩
        · have hx00 : x = 0 := by omega
          subst hx00
          rw [if_neg (by decide)] at hR2 hS2 hT2
          go_wp2
          go_roundw
          case rel => exact ⟨k + 1, by omega, by go_num, by rw [hR2.it]; rfl, by rw [hS2.it]; rfl, by rw [hT2.it]; rfl, ⟨fun i hi h0 => by
            rcases Nat.lt_succ_iff_lt_or_eq.1 hi with hi | rfl
            · exact hA.it i hi h0
            · rw [← HX.it] at h0; omega⟩, hW⟩
          case measure => simp [intOf]; omega
      · have hke : k = m := by omega
        have hdk : decide ((k : Int) < (m : Int)) = false := by simp; omega
        subst hke
        have HBL : Kp (AS (fun i => if 0 < rd ws i then 2 ^ (40 - ln os i) else 0) k ≤ 1099511627776 → AS (fun i => if 0 < rd ws i then (rd ws i).toNat * ln L i else 0) k ≤ AS (fun i => if 0 < rd ws i then (rd ws i).toNat * ln os i else 0) k) := ⟨fun hr => by
          have h9 := best_law HFL.it (os := os) (by rw [HML.it]; exact hA.it) (by rw [HML.it]; exact hr)
          rwa [HML.it] at h9⟩
        obtain ⟨R, hR⟩ : ∃ R, R = AS (fun i => if 0 < rd ws i then 2 ^ (40 - ln os i) else 0) k := ⟨_, rfl⟩
        obtain ⟨S, hS⟩ : ∃ S, S = AS (fun i => if 0 < rd ws i then (rd ws i).toNat * ln L i else 0) k := ⟨_, rfl⟩
        obtain ⟨T, hT⟩ : ∃ T, T = AS (fun i => if 0 < rd ws i then (rd ws i).toNat * ln os i else 0) k := ⟨_, rfl⟩
        rw [← hR, ← hS, ← hT] at HBL
        rw [← hR, ← hS, ← hT]
        clear hR hS hT
        by_cases hR : 1099511627776 < R
        · have hq1 : decide ((R : Int) > 1099511627776) = true := by simp; omega
          have hq2 : decide (1099511627776 < R) = true := by simp; omega
          go_wp2_with (go_at_call 15; refine (awake_any _).mono ?_; rintro e w4 ⟨rfl, hb4⟩)
          go_ret
          exact ⟨rfl, B3.it.trans ((HBW.it.trans (hb4.mono HBW.it.size)).mono B3.it.size)⟩
        · have hq1 : decide ((R : Int) > 1099511627776) = false := by simp; omega
          have hq2 : decide (1099511627776 < R) = false := by simp; omega
          have hST := HBL.it (by omega)
          have hq3 : decide ((S : Int) ≤ (T : Int)) = true := by simp; omega
          have hq4 : decide (S ≤ T) = true := by simp; omega
          go_wp2_with (go_at_call 15; refine (awake_any _).mono ?_; rintro e w4 ⟨rfl, hb4⟩)
          go_ret
          exact ⟨rfl, B3.it.trans ((HBW.it.trans (hb4.mono HBW.it.size)).mono B3.it.size)⟩
  · have hF2 : (F != 0) = true := by simpa using hF
    obtain ⟨A3, c3, hv3, _⟩ : ∃ A3 c3, v3 = .slice A3 L.length c3 ∧ True := by
      obtain ⟨A3, c3, e, _⟩ := ho3.form
      exact ⟨A3, c3, e, trivial⟩
    subst hv3
    clear ho3 hb3
    go_wp2_with (go_at_call 15; refine (awake_any _).mono ?_; rintro e w4 ⟨rfl, hb4⟩)
    go_ret
    exact ⟨rfl, B3.it.trans (hb4.mono B3.it.size)⟩

set_option linter.unusedVariables false in
set_option maxRecDepth 100000 in
theorem packBest_lifted (os : Os) (started : os.Started) (H : Type) (enc : TypeId × Value → H) :
    ReturnsInHanded {} Try.checked os 5 .any (Rows.packBestSpec.pre6 enc Try.prog Try.f5 Rows.packBestRow.domain false) (Rows.packBestSpec.post enc Try.prog Try.f5 false true false false) := by
  refine returnsInHanded_of_change_sized (C := Try.checked) (by kernel_rfl) started (by kernel_rfl) Try.func5
    (ChangeSpec.witness6 (enc := enc) (C := Try.checked) false ⟨#[], #[.slice none 0 0, .slice none 0 0], []⟩ 8 (by kernel_rfl) (by kernel_rfl) (by kernel_rfl) (by kernel_rfl)) ?_
  intro W base args ds gs before hval0 hW hcnd hsz0 _
  have hval : ∀ (j : Nat) t v, Try.f5.params[j]? = some t → args[j]? = some v → Value.okWide Try.prog W .any base t v := hval0
  have hW' := hW
  obtain ⟨p, q, hA0, hV, rfl, hfz, hnd⟩ := hW
  have hA : DataW.TrodAll enc Try.prog W 0 (fun _ => true) true Try.f5.params.toList args.toList ds p := hA0
  have hsz : (DataW.weightsEach Try.prog (Try.f5.params.toList ++ Rows.packBestSpec.plain.varTypes Try.prog) (ds ++ gs)).all (· ≤ reachBytes) = true := hsz0
  rw [Try.params5] at hA hval hsz
  obtain ⟨v0, vs0, d0, ds0, p0, q0, hargs, rfl, rfl, h0, r0⟩ := trodAll_cons hA
  obtain ⟨v1, vs1, d1, ds1, p1, q1, rfl, rfl, rfl, h1, r1⟩ := trodAll_cons r0
  obtain ⟨rfl, rfl, rfl⟩ := trodAll_nil r1
  obtain rfl : args = #[v0, v1] := by cases args; simp_all
  obtain ⟨rfl, rfl⟩ := trodVars_none hV
  have k0 := h0
  have lt0 : ∀ x ∈ p0, x.block < W.heap.size := by obtain ⟨m, hm⟩ := k0; exact DataW.trod_lt m _ _ _ hm
  obtain ⟨A0, n0, c0, xs0, rfl, ra0, ea0, wf0⟩ := sl_open2 (hval 0 22 v0 rfl rfl) h0 (fun x hx => by simpa using List.all_eq_true.1 hsz x (DataW.weights_mem_each (j := 0) (t := 22) rfl rfl x hx))
  have k1 := h1
  have lt1 : ∀ x ∈ p1, x.block < W.heap.size := by obtain ⟨m, hm⟩ := k1; exact DataW.trod_lt m _ _ _ hm
  obtain ⟨A1, n1, c1, xs1, rfl, ra1, ea1, wf1⟩ := sl_open2 (hval 1 22 v1 rfl rfl) h1 (fun x hx => by simpa using List.all_eq_true.1 hsz x (DataW.weights_mem_each (j := 1) (t := 22) rfl rfl x hx))
  clear hA0 hval0 hsz hsz0
  refine (best_walk A0 n0 c0 xs0 A1 n1 c1 xs1 W ra0 ea0 wf0 ra1 ea1 wf1).mono fun e W' ⟨he, bel⟩ => ?_
  subst he
  exact ⟨_, rfl, _, _, _, [], _, [], hW', trodAll_mk1 (shut_bool Try.underlying4 _), (trodAll_cons_mk (Below.trod (by kernel_rfl) (by kernel_rfl) (of_decide_eq_true (by kernel_rfl)) k0 bel lt0) (trodAll_cons_mk (Below.trod (by kernel_rfl) (by kernel_rfl) (of_decide_eq_true (by kernel_rfl)) k1 bel lt1) trodAll_mk0)), rfl, bel.frame _, fun h => by cases h⟩

theorem PackBest_holds : Rows.PackBestSaid :=
  OpenClaim.holds_of_wide 5 Try.f5 rfl rfl rfl rfl rfl rfl rfl ⟨rfl, rfl, rfl, rfl, rfl⟩ rfl rfl rfl rfl rfl (by kernel_rfl) Try.func5 (by kernel_rfl)
    (of_decide_eq_true (by kernel_rfl)) (by unfold Func.isWrapper; first | (rw [if_pos (by decide +kernel)]; kernel_rfl) | (rw [if_neg (by decide +kernel)]; exact ⟨rfl, rfl⟩))
    (fun os started H enc _ => packBest_lifted os started H enc)
end Go.Proofs.Ytnkgagbobihnnaa
