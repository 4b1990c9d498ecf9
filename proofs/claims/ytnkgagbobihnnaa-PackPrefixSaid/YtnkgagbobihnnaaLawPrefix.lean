/-
  PackPrefix: no code is the beginning of another one; codes by weights use up all there are.
-/
import Derived.Test.YtnkgagbobihnnaaAwk
import Derived.Test.YtnkgagbobihnnaaOpn
import Derived.Test.YtnkgagbobihnnaaPfx
import Derived.Test.YtnkgagbobihnnaaRows
namespace Go.Proofs.Ytnkgagbobihnnaa
open Go.ChangeShapes Go.WideShapes Go.ChangeAt Go.RowKit

set_option linter.unusedVariables false in
set_option maxRecDepth 100000 in
set_option maxHeartbeats 8000000 in
theorem prefix_walk (A : Option Addr) (n c : Nat) (xs : List Int) (B : Option Addr) (m d : Nat) (ws : List Int) (w : World) (h : Rd w A n xs) (hnil : A = none → c = 0) (wf : ∀ x ∈ xs, Wf x) (h2 : Rd w B m ws) (hnil2 : B = none → d = 0) (wf2 : ∀ x ∈ ws, Wf x) :
    Calls Try.prog 4 #[.slice A n c, .slice B m d] w fun e w' => e = .returned (.bool true) ∧ Below w.heap.size w w' := by
  have H := Kp.mk h
  have H2 := Kp.mk h2
  clear h hnil wf h2 hnil2 wf2
  go_enter Try.func4, Try.ntmps4
  by_cases hn : 100 < n
  · have hd : decide ((100 : Int) < (n : Int)) = true := by simp; omega
    go_wp2_with (go_at_call 15; refine (awake_any _).mono ?_; rintro e w1 ⟨rfl, hb1⟩)
    go_ret
    exact ⟨rfl, hb1⟩
  have hd : decide ((100 : Int) < (n : Int)) = false := by rw [decide_eq_false_iff_not]; omega
  by_cases hm : 100 < m
  · have hd2 : decide ((100 : Int) < (m : Int)) = true := by simp; omega
    go_wp2_with (go_at_call 15; refine (awake_any _).mono ?_; rintro e w1 ⟨rfl, hb1⟩)
    go_ret
    exact ⟨rfl, hb1⟩
  have hd2 : decide ((100 : Int) < (m : Int)) = false := by rw [decide_eq_false_iff_not]; omega
  have HC := Kp.mk (codes_any A n c xs w H.it (by omega))
  go_wp2_with fail
  refine HC.it.mono ?_
  rintro e w1 ⟨v1, rfl, ho1, hb1⟩
  obtain ⟨E, O, hEO⟩ : ∃ E O, codesP xs = (E, O) := ⟨_, _, rfl⟩
  rw [hEO] at ho1 ⊢
  have HB1 := Kp.mk hb1
  by_cases hE : E = 0
  · subst hE
    obtain ⟨hOl, hrng, hpre⟩ := codes_pre hEO
    have hLl : O.length * 8 ≤ 140737488351232 := by rw [hOl, H.it.len]; omega
    obtain ⟨A1, c1, hv1, _, _, _, hr1⟩ := ho1.form3 hLl
    rw [hOl, H.it.len] at hv1 hr1
    subst hv1
    have R1 := Kp.mk hr1
    have H1 := Kp.mk (H.it.below hb1)
    have HR := Kp.mk hrng
    have HP := Kp.mk hpre
    have HXL := Kp.mk H.it.len
    clear hb1 ho1 hr1 hrng hpre hEO hOl hLl HC
    have hne : ((n : Int) != (n : Int)) = false := by simp
    go_wp2
    go_loopw [42] (fun i wr => ∃ k : Nat, k ≤ n ∧ i = .int .i64 k ∧ Kp (∃ q, wr = w1.drewN q)) (fun i _ => n - (intOf i).toNat)
    case atStart => exact ⟨0, by omega, rfl, ⟨0, rfl⟩⟩
    case round =>
      obtain ⟨i, hi, rfl, hW⟩ := hrel
      by_cases hin : i < n
      · have hdi : decide ((i : Int) < (n : Int)) = true := by simp; omega
        obtain ⟨b1, o1, hA, _, e1⟩ := H1.it.get hin
        cases hA
        have f1 : wr.cell? ⟨b1, o1 + i, none⟩ = some (.int .i64 (rd xs i)) := by obtain ⟨q, rfl⟩ := hW.it; exact e1
        have hrx := HR.it i (by rw [HXL.it]; exact hin)
        clear e1
        go_wp2
        obtain ⟨x, hx⟩ : ∃ x, x = rd xs i := ⟨_, rfl⟩
        rw [← hx] at hrx
        rw [← hx]
        have HX := Kp.mk hx
        clear hx f1
        go_loopw [49] (fun j wr => ∃ k : Nat, k ≤ n ∧ j = .int .i64 k ∧ Kp (∃ q, wr = w1.drewN q)) (fun j _ => n - (intOf j).toNat)
        case atStart => exact ⟨0, by omega, rfl, hW⟩
        case round =>
          obtain ⟨j, hj, rfl, hV⟩ := hrel
          by_cases hjn : j < n
          · have hdj : decide ((j : Int) < (n : Int)) = true := by simp; omega
            obtain ⟨b2, o2, hA2, _, e2⟩ := H1.it.get hjn
            cases hA2
            have f2 : wr.cell? ⟨b1, o1 + j, none⟩ = some (.int .i64 (rd xs j)) := by obtain ⟨q, rfl⟩ := hV.it; exact e2
            have hry := HR.it j (by rw [HXL.it]; exact hjn)
            obtain ⟨y, hy⟩ : ∃ y, y = rd xs j := ⟨_, rfl⟩
            rw [← hy] at hry f2
            have HY := Kp.mk hy
            clear e2 hy
            by_cases hij : i = j
            · have hq1 : ((i : Int) != (j : Int)) = false := by simp; omega
              clear hij
              go_wp2_with (go_quiet (fail))
              go_roundw
              case rel => exact ⟨j + 1, by omega, by go_num, ⟨by obtain ⟨q, rfl⟩ := hV.it; exact ⟨_, World.drewN_drewN ..⟩⟩⟩
              case measure => simp [intOf]; omega
            · have HIJ := Kp.mk hij
              have hq1 : ((i : Int) != (j : Int)) = true := by simp; omega
              clear hij
              by_cases hx0 : 0 < x
              · have hq2 : decide (x > 0) = true := by simpa using hx0
                by_cases hxy : x ≤ y
                · have hq3 : decide (y ≥ x) = true := by simpa using hxy
                  obtain ⟨b3, o3, hA3, _, e3⟩ := R1.it.get hjn
                  obtain ⟨b4, o4, hA4, _, e4⟩ := R1.it.get hin
                  cases hA3
                  cases hA4
                  have f3 : wr.cell? ⟨b3, o3 + j, none⟩ = some (.int .i64 (rd O j)) := by obtain ⟨q, rfl⟩ := hV.it; exact e3
                  have f4 : wr.cell? ⟨b3, o3 + i, none⟩ = some (.int .i64 (rd O i)) := by obtain ⟨q, rfl⟩ := hV.it; exact e4
                  have hP := HP.it i j (by rw [HXL.it]; exact hin) (by rw [HXL.it]; exact hjn) HIJ.it (by rw [← HX.it]; exact hx0) (by rw [← HX.it, ← HY.it]; exact hxy)
                  rw [← HX.it, ← HY.it] at hP
                  obtain ⟨t, ht⟩ : ∃ t : Nat, y - x = (t : Int) := ⟨(y - x).toNat, by omega⟩
                  have hw : IntKind.i64.wrap (y - x) = (t : Int) := by rw [IntWalk.i64_in _ (by omega)]; exact ht
                  rw [show y.toNat - x.toNat = t by omega] at hP
                  have hq4 : (rd O j / (2 : Int) ^ min t 64 == rd O i) = false := by rw [show min t 64 = t by omega]; simpa using hP
                  clear e3 e4 hP ht
                  go_wp2_with (go_quiet (fail))
                  go_roundw
                  case rel => exact ⟨j + 1, by omega, by go_num, ⟨by obtain ⟨q, rfl⟩ := hV.it; exact ⟨_, World.drewN_drewN ..⟩⟩⟩
                  case measure => simp [intOf]; omega
                · have hq3 : decide (y ≥ x) = false := by simp; omega
                  go_wp2_with (go_quiet (fail))
                  go_roundw
                  case rel => exact ⟨j + 1, by omega, by go_num, ⟨by obtain ⟨q, rfl⟩ := hV.it; exact ⟨_, World.drewN_drewN ..⟩⟩⟩
                  case measure => simp [intOf]; omega
              · have hq2 : decide (x > 0) = false := by simp; omega
                go_wp2_with (go_quiet (fail))
                go_roundw
                case rel => exact ⟨j + 1, by omega, by go_num, ⟨by obtain ⟨q, rfl⟩ := hV.it; exact ⟨_, World.drewN_drewN ..⟩⟩⟩
                case measure => simp [intOf]; omega
          · have hdj : decide ((j : Int) < (n : Int)) = false := by simp; omega
            go_wp2
            go_roundw
            case rel => exact ⟨i + 1, by omega, by go_num, hV⟩
            case measure => simp [intOf]; omega
      · have hdi : decide ((i : Int) < (n : Int)) = false := by simp; omega
        have HBW : Kp (Below w.heap.size w wr) := ⟨by obtain ⟨q, rfl⟩ := hW.it; exact HB1.it.trans ((below_drewN (Below.refl w1.heap.size w1) q).mono HB1.it.size)⟩
        clear hW
        have HLC := Kp.mk (lengths_any B m d ws wr (H2.it.below HBW.it) (by omega))
        go_wp2_with fail
        refine HLC.it.mono ?_
        rintro e w3 ⟨v3, rfl, ho3, hb3⟩
        obtain ⟨F, L, hFL⟩ : ∃ F L, lengthsP ws = (F, L) := ⟨_, _, rfl⟩
        rw [hFL] at ho3 ⊢
        have B3 : Kp (Below w.heap.size w w3) := ⟨HBW.it.trans (hb3.mono HBW.it.size)⟩
        have HFL := Kp.mk hFL
        have HML := Kp.mk H2.it.len
        by_cases hF : F = 0
        · subst hF
          obtain ⟨hLL, hrL, hkL, ⟨O2, hO2⟩, hcL⟩ := lengths_full hFL
          have hLb : L.length * 8 ≤ 140737488351232 := by rw [hLL, HML.it]; omega
          obtain ⟨A3, c3, hv3, _, _, _, hr3⟩ := ho3.form3 hLb
          have HLL : Kp (L.length = m) := ⟨by rw [hLL, HML.it]⟩
          rw [HLL.it] at hv3 hr3
          subst hv3
          have R3 := Kp.mk hr3
          have HRL := Kp.mk hrL
          have HKL := Kp.mk hkL
          have HO2 := Kp.mk hO2
          have HCL := Kp.mk hcL
          clear hb3 ho3 hr3 hrL hkL hO2 hcL hFL hLL hLb HLC
          go_wp2
          go_loop [13, 14, 93] (fun s u i => ∃ k : Nat, k ≤ m ∧ i = .int .i64 k ∧ s = .int .i64 (AS (fun j => if 1 ≤ ln L j ∧ ln L j ≤ 31 then 2 ^ (31 - ln L j) else 0) k : Nat) ∧ u = .int .i64 (AS (fun j => if 1 ≤ ln L j then 1 else 0) k : Nat)) (fun _ _ i => m - (intOf i).toNat)
          case atStart => exact ⟨0, by omega, rfl, rfl, rfl⟩
          case round =>
            obtain ⟨k, hk, rfl, rfl, rfl⟩ := hrel
            by_cases hkm : k < m
            · obtain ⟨b5, o5, hA5, _, e5⟩ := R3.it.get hkm
              cases hA5
              have hrk := HRL.it k (by rw [HLL.it]; exact hkm)
              have hdk : decide ((k : Int) < (m : Int)) = true := by simp; omega
              obtain ⟨S, hS⟩ : ∃ S, S = AS (fun j => if 1 ≤ ln L j ∧ ln L j ≤ 31 then 2 ^ (31 - ln L j) else 0) k := ⟨_, rfl⟩
              obtain ⟨U, hU⟩ : ∃ U, U = AS (fun j => if 1 ≤ ln L j then 1 else 0) k := ⟨_, rfl⟩
              have hS2 : AS (fun j => if 1 ≤ ln L j ∧ ln L j ≤ 31 then 2 ^ (31 - ln L j) else 0) (k + 1) = S + (if 1 ≤ ln L k ∧ ln L k ≤ 31 then 2 ^ (31 - ln L k) else 0) := by rw [hS]; rfl
              have hU2 : AS (fun j => if 1 ≤ ln L j then 1 else 0) (k + 1) = U + (if 1 ≤ ln L k then 1 else 0) := by rw [hU]; rfl
              have hSm : S ≤ 2147483648 := by
                rw [hS]
                refine Nat.le_trans (AS_mono _ hk) ?_
                rw [← HLL.it]
                exact HKL.it
              have hUm : U ≤ k := by
                have h9 := AS_le (f := fun j => if 1 ≤ ln L j then 1 else 0) (g := fun _ => 1) (k := k) (fun j _ => by split <;> omega)
                have h8 : ∀ k, AS (fun _ => 1) k = k := fun k => by
                  induction k with
                  | zero => rfl
                  | succ k ih => show AS _ k + 1 = _; rw [ih]
                rw [h8] at h9
                omega
              rw [← hS, ← hU]
              obtain ⟨x, hx⟩ : ∃ x, x = rd L k := ⟨_, rfl⟩
              have hlx : ln L k = x.toNat := by rw [hx]; rfl
              rw [← hx] at e5 hrk
              rw [hlx] at hS2 hU2
              have HS2 := Kp.mk hS2
              have HU2 := Kp.mk hU2
              clear hS hU hx hlx hS2 hU2
              by_cases hx0 : 0 < x
              · have hq2 : decide (x > 0) = true := by simpa using hx0
                obtain ⟨t, ht⟩ : ∃ t : Nat, 31 - x = (t : Int) := ⟨(31 - x).toNat, by omega⟩
                have hw : IntKind.i64.wrap (31 - x) = (t : Int) := by rw [IntWalk.i64_in _ (by omega)]; exact ht
                have hP : (2 : Nat) ^ t ≤ 2 ^ 30 := Nat.pow_le_pow_right (by omega) (by omega)
                have hif : (if 1 ≤ x.toNat ∧ x.toNat ≤ 31 then 2 ^ (31 - x.toNat) else 0) = 2 ^ t := by rw [if_pos ⟨by omega, by omega⟩]; congr 1; omega
                have hif2 : (if 1 ≤ x.toNat then 1 else 0) = 1 := if_pos (by omega)
                rw [hif] at HS2
                rw [hif2] at HU2
                have hp1 : wrap64 ((2 : Int) ^ min t 64) = ((2 ^ t : Nat) : Int) := by
                  rw [show min t 64 = t by omega, show ((2 : Int) ^ t) = ((2 ^ t : Nat) : Int) by simp]
                  generalize 2 ^ t = Z at hP ⊢
                  unfold wrap64; omega
                have hp2 : wrap64 ((S : Int) + wrap64 ((2 : Int) ^ min t 64)) = ((S + 2 ^ t : Nat) : Int) := by
                  rw [hp1]
                  generalize 2 ^ t = Z at hP ⊢
                  unfold wrap64; omega
                have HP2 := Kp.mk hp2
                clear ht hif hif2 hp1 hp2 hP
                go_wp2
                go_round
                case rel => exact ⟨k + 1, by omega, by go_num, by rw [HS2.it, HP2.it], by rw [HU2.it]; rfl⟩
                case measure => simp [intOf]; omega
              · have hq2 : decide (x > 0) = false := by simp; omega
                have hif : (if 1 ≤ x.toNat ∧ x.toNat ≤ 31 then 2 ^ (31 - x.toNat) else 0) = 0 := if_neg (by omega)
                have hif2 : (if 1 ≤ x.toNat then 1 else 0) = 0 := if_neg (by omega)
                rw [hif] at HS2
                rw [hif2] at HU2
                clear hif hif2
                go_wp2
                go_round
                case rel => exact ⟨k + 1, by omega, by go_num, by rw [HS2.it]; rfl, by rw [HU2.it]; rfl⟩
                case measure => simp [intOf]; omega
            · obtain rfl : k = m := by omega
              have hdk : decide ((k : Int) < (k : Int)) = false := by simp
              have HCC := Kp.mk (codes_any A3 k c3 L w3 R3.it (by omega))
              have hK1 : Kp (AS (fun j => if 1 ≤ ln L j ∧ ln L j ≤ 31 then 2 ^ (31 - ln L j) else 0) k = kft L 31) := ⟨by unfold kft; rw [HLL.it]⟩
              have hK2 := HCL.it
              rw [HLL.it] at hK2
              rw [hK1.it]
              obtain ⟨S, hS⟩ : ∃ S, S = kft L 31 := ⟨_, rfl⟩
              obtain ⟨U, hU⟩ : ∃ U, U = AS (fun j => if 1 ≤ ln L j then 1 else 0) k := ⟨_, rfl⟩
              rw [← hS, ← hU] at hK2
              rw [← hS, ← hU]
              clear hS hU hK1
              go_wp2_with fail
              refine HCC.it.mono ?_
              rintro e w5 ⟨v5, rfl, ho5, hb5⟩
              rw [HO2.it] at ho5 ⊢
              have B5 : Kp (Below w.heap.size w w5) := ⟨B3.it.trans (hb5.mono B3.it.size)⟩
              by_cases hU2 : U < 2
              · have hq5 : decide ((U : Int) < 2) = true := by simp; omega
                have hq6 : decide (U < 2) = true := by simp; omega
                clear hK2 hU2
                go_wp2_with (go_at_call 15; refine (awake_any _).mono ?_; rintro e w6 ⟨rfl, hb6⟩)
                go_ret
                exact ⟨rfl, B5.it.trans (hb6.mono B5.it.size)⟩
              · have hq5 : decide ((U : Int) < 2) = false := by simp; omega
                have hq6 : decide (U < 2) = false := by simp; omega
                obtain rfl : S = 2147483648 := by omega
                go_wp2_with (go_at_call 15; refine (awake_any _).mono ?_; rintro e w6 ⟨rfl, hb6⟩)
                go_ret
                exact ⟨rfl, B5.it.trans (hb6.mono B5.it.size)⟩
        · have hF2 : (F != 0) = true := by simpa using hF
          obtain ⟨A3, c3, hv3, _⟩ : ∃ A3 c3, v3 = .slice A3 L.length c3 ∧ True := by
            obtain ⟨A3, c3, e, _⟩ := ho3.form
            exact ⟨A3, c3, e, trivial⟩
          subst hv3
          clear ho3 hb3
          go_wp2_with (go_at_call 15; refine (awake_any _).mono ?_; rintro e w4 ⟨rfl, hb4⟩)
          go_ret
          exact ⟨rfl, B3.it.trans (hb4.mono B3.it.size)⟩
  · have hE2 : (E == 0) = false := by simpa using hE
    have HBW := HB1
    obtain ⟨A1, c1, hv1, _⟩ : ∃ A1 c1, v1 = .slice A1 O.length c1 ∧ True := by
      obtain ⟨A3, c3, e, _⟩ := ho1.form
      exact ⟨A3, c3, e, trivial⟩
    subst hv1
    clear ho1 hb1 HC hE
    have HLC := Kp.mk (lengths_any B m d ws w1 (H2.it.below HBW.it) (by omega))
    go_wp2_with fail
    refine HLC.it.mono ?_
    rintro e w3 ⟨v3, rfl, ho3, hb3⟩
    obtain ⟨F, L, hFL⟩ : ∃ F L, lengthsP ws = (F, L) := ⟨_, _, rfl⟩
    rw [hFL] at ho3 ⊢
    have B3 : Kp (Below w.heap.size w w3) := ⟨HBW.it.trans (hb3.mono HBW.it.size)⟩
    have HFL := Kp.mk hFL
    have HML := Kp.mk H2.it.len
    by_cases hF : F = 0
    · subst hF
      obtain ⟨hLL, hrL, hkL, ⟨O2, hO2⟩, hcL⟩ := lengths_full hFL
      have hLb : L.length * 8 ≤ 140737488351232 := by rw [hLL, HML.it]; omega
      obtain ⟨A3, c3, hv3, _, _, _, hr3⟩ := ho3.form3 hLb
      have HLL : Kp (L.length = m) := ⟨by rw [hLL, HML.it]⟩
      rw [HLL.it] at hv3 hr3
      subst hv3
      have R3 := Kp.mk hr3
      have HRL := Kp.mk hrL
      have HKL := Kp.mk hkL
      have HO2 := Kp.mk hO2
      have HCL := Kp.mk hcL
      clear hb3 ho3 hr3 hrL hkL hO2 hcL hFL hLL hLb HLC
      go_wp2
      go_loop [13, 14, 93] (fun s u i => ∃ k : Nat, k ≤ m ∧ i = .int .i64 k ∧ s = .int .i64 (AS (fun j => if 1 ≤ ln L j ∧ ln L j ≤ 31 then 2 ^ (31 - ln L j) else 0) k : Nat) ∧ u = .int .i64 (AS (fun j => if 1 ≤ ln L j then 1 else 0) k : Nat)) (fun _ _ i => m - (intOf i).toNat)
      case atStart => exact ⟨0, by omega, rfl, rfl, rfl⟩
      case round =>
        obtain ⟨k, hk, rfl, rfl, rfl⟩ := hrel
        by_cases hkm : k < m
        · obtain ⟨b5, o5, hA5, _, e5⟩ := R3.it.get hkm
          cases hA5
          have hrk := HRL.it k (by rw [HLL.it]; exact hkm)
          have hdk : decide ((k : Int) < (m : Int)) = true := by simp; omega
          obtain ⟨S, hS⟩ : ∃ S, S = AS (fun j => if 1 ≤ ln L j ∧ ln L j ≤ 31 then 2 ^ (31 - ln L j) else 0) k := ⟨_, rfl⟩
          obtain ⟨U, hU⟩ : ∃ U, U = AS (fun j => if 1 ≤ ln L j then 1 else 0) k := ⟨_, rfl⟩
          have hS2 : AS (fun j => if 1 ≤ ln L j ∧ ln L j ≤ 31 then 2 ^ (31 - ln L j) else 0) (k + 1) = S + (if 1 ≤ ln L k ∧ ln L k ≤ 31 then 2 ^ (31 - ln L k) else 0) := by rw [hS]; rfl
          have hU2 : AS (fun j => if 1 ≤ ln L j then 1 else 0) (k + 1) = U + (if 1 ≤ ln L k then 1 else 0) := by rw [hU]; rfl
          have hSm : S ≤ 2147483648 := by
            rw [hS]
            refine Nat.le_trans (AS_mono _ hk) ?_
            rw [← HLL.it]
            exact HKL.it
          have hUm : U ≤ k := by
            have h9 := AS_le (f := fun j => if 1 ≤ ln L j then 1 else 0) (g := fun _ => 1) (k := k) (fun j _ => by split <;> omega)
            have h8 : ∀ k, AS (fun _ => 1) k = k := fun k => by
              induction k with
              | zero => rfl
              | succ k ih => show AS _ k + 1 = _; rw [ih]
            rw [h8] at h9
            omega
          rw [← hS, ← hU]
          obtain ⟨x, hx⟩ : ∃ x, x = rd L k := ⟨_, rfl⟩
          have hlx : ln L k = x.toNat := by rw [hx]; rfl
          rw [← hx] at e5 hrk
          rw [hlx] at hS2 hU2
          have HS2 := Kp.mk hS2
          have HU2 := Kp.mk hU2
          clear hS hU hx hlx hS2 hU2
          by_cases hx0 : 0 < x
          · have hq2 : decide (x > 0) = true := by simpa using hx0
            obtain ⟨t, ht⟩ : ∃ t : Nat, 31 - x = (t : Int) := ⟨(31 - x).toNat, by omega⟩
            have hw : IntKind.i64.wrap (31 - x) = (t : Int) := by rw [IntWalk.i64_in _ (by omega)]; exact ht
            have hP : (2 : Nat) ^ t ≤ 2 ^ 30 := Nat.pow_le_pow_right (by omega) (by omega)
            have hif : (if 1 ≤ x.toNat ∧ x.toNat ≤ 31 then 2 ^ (31 - x.toNat) else 0) = 2 ^ t := by rw [if_pos ⟨by omega, by omega⟩]; congr 1; omega
            have hif2 : (if 1 ≤ x.toNat then 1 else 0) = 1 := if_pos (by omega)
            rw [hif] at HS2
            rw [hif2] at HU2
            have hp1 : wrap64 ((2 : Int) ^ min t 64) = ((2 ^ t : Nat) : Int) := by
              rw [show min t 64 = t by omega, show ((2 : Int) ^ t) = ((2 ^ t : Nat) : Int) by simp]
              generalize 2 ^ t = Z at hP ⊢
              unfold wrap64; omega
            have hp2 : wrap64 ((S : Int) + wrap64 ((2 : Int) ^ min t 64)) = ((S + 2 ^ t : Nat) : Int) := by
              rw [hp1]
              generalize 2 ^ t = Z at hP ⊢
              unfold wrap64; omega
            have HP2 := Kp.mk hp2
            clear ht hif hif2 hp1 hp2 hP
            go_wp2
            go_round
            case rel => exact ⟨k + 1, by omega, by go_num, by rw [HS2.it, HP2.it], by rw [HU2.it]; rfl⟩
            case measure => simp [intOf]; omega
          · have hq2 : decide (x > 0) = false := by simp; omega
            have hif : (if 1 ≤ x.toNat ∧ x.toNat ≤ 31 then 2 ^ (31 - x.toNat) else 0) = 0 := if_neg (by omega)
            have hif2 : (if 1 ≤ x.toNat then 1 else 0) = 0 := if_neg (by omega)
            rw [hif] at HS2
            rw [hif2] at HU2
            clear hif hif2
            go_wp2
            go_round
            case rel => exact ⟨k + 1, by omega, by go_num, by rw [HS2.it]; rfl, by rw [HU2.it]; rfl⟩
            case measure => simp [intOf]; omega
        · obtain rfl : k = m := by omega
          have hdk : decide ((k : Int) < (k : Int)) = false := by simp
          have HCC := Kp.mk (codes_any A3 k c3 L w3 R3.it (by omega))
          have hK1 : Kp (AS (fun j => if 1 ≤ ln L j ∧ ln L j ≤ 31 then 2 ^ (31 - ln L j) else 0) k = kft L 31) := ⟨by unfold kft; rw [HLL.it]⟩
          have hK2 := HCL.it
          rw [HLL.it] at hK2
          rw [hK1.it]
          obtain ⟨S, hS⟩ : ∃ S, S = kft L 31 := ⟨_, rfl⟩
          obtain ⟨U, hU⟩ : ∃ U, U = AS (fun j => if 1 ≤ ln L j then 1 else 0) k := ⟨_, rfl⟩
          rw [← hS, ← hU] at hK2
          rw [← hS, ← hU]
          clear hS hU hK1
          go_wp2_with fail
          refine HCC.it.mono ?_
          rintro e w5 ⟨v5, rfl, ho5, hb5⟩
          rw [HO2.it] at ho5 ⊢
          have B5 : Kp (Below w.heap.size w w5) := ⟨B3.it.trans (hb5.mono B3.it.size)⟩
          by_cases hU2 : U < 2
          · have hq5 : decide ((U : Int) < 2) = true := by simp; omega
            have hq6 : decide (U < 2) = true := by simp; omega
            clear hK2 hU2
            go_wp2_with (go_at_call 15; refine (awake_any _).mono ?_; rintro e w6 ⟨rfl, hb6⟩)
            go_ret
            exact ⟨rfl, B5.it.trans (hb6.mono B5.it.size)⟩
          · have hq5 : decide ((U : Int) < 2) = false := by simp; omega
            have hq6 : decide (U < 2) = false := by simp; omega
            obtain rfl : S = 2147483648 := by omega
            go_wp2_with (go_at_call 15; refine (awake_any _).mono ?_; rintro e w6 ⟨rfl, hb6⟩)
            go_ret
            exact ⟨rfl, B5.it.trans (hb6.mono B5.it.size)⟩
    · have hF2 : (F != 0) = true := by simpa using hF
      obtain ⟨A3, c3, hv3, _⟩ : ∃ A3 c3, v3 = .slice A3 L.length c3 ∧ True := by
        obtain ⟨A3, c3, e, _⟩ := ho3.form
        exact ⟨A3, c3, e, trivial⟩
      subst hv3
      clear ho3 hb3
      go_wp2_with (go_at_call 15; refine (awake_any _).mono ?_; rintro e w4 ⟨rfl, hb4⟩)
      go_ret
      exact ⟨rfl, B3.it.trans (hb4.mono B3.it.size)⟩

set_option linter.unusedVariables false in
set_option maxRecDepth 100000 in
theorem packPrefix_lifted (os : Os) (started : os.Started) (H : Type) (enc : TypeId × Value → H) :
    ReturnsInHanded {} Try.checked os 4 .any (Rows.packPrefixSpec.pre6 enc Try.prog Try.f4 Rows.packPrefixRow.domain false) (Rows.packPrefixSpec.post enc Try.prog Try.f4 false true false false) := by
  refine returnsInHanded_of_change_sized (C := Try.checked) (by kernel_rfl) started (by kernel_rfl) Try.func4
    (ChangeSpec.witness6 (enc := enc) (C := Try.checked) false ⟨#[], #[.slice none 0 0, .slice none 0 0], []⟩ 8 (by kernel_rfl) (by kernel_rfl) (by kernel_rfl) (by kernel_rfl)) ?_
  intro W base args ds gs before hval0 hW hcnd hsz0 _
  have hval : ∀ (j : Nat) t v, Try.f4.params[j]? = some t → args[j]? = some v → Value.okWide Try.prog W .any base t v := hval0
  have hW' := hW
  obtain ⟨p, q, hA0, hV, rfl, hfz, hnd⟩ := hW
  have hA : DataW.TrodAll enc Try.prog W 0 (fun _ => true) true Try.f4.params.toList args.toList ds p := hA0
  have hsz : (DataW.weightsEach Try.prog (Try.f4.params.toList ++ Rows.packPrefixSpec.plain.varTypes Try.prog) (ds ++ gs)).all (· ≤ reachBytes) = true := hsz0
  rw [Try.params4] at hA hval hsz
  obtain ⟨v0, vs0, d0, ds0, p0, q0, hargs, rfl, rfl, h0, r0⟩ := trodAll_cons hA
  obtain ⟨v1, vs1, d1, ds1, p1, q1, rfl, rfl, rfl, h1, r1⟩ := trodAll_cons r0
  obtain ⟨rfl, rfl, rfl⟩ := trodAll_nil r1
  obtain rfl : args = #[v0, v1] := by cases args; simp_all
  obtain ⟨rfl, rfl⟩ := trodVars_none hV
  have k0 := h0
  have lt0 : ∀ x ∈ p0, x.block < W.heap.size := by obtain ⟨m, hm⟩ := k0; exact DataW.trod_lt m _ _ _ hm
  obtain ⟨A0, n0, c0, xs0, rfl, ra0, ea0, wf0⟩ := sl_open2 (hval 0 22 v0 rfl rfl) h0 (fun x hx => by simpa using List.all_eq_true.1 hsz x (DataW.weights_mem_each (j := 0) (t := 22) rfl rfl x hx))
  have k1 := h1
  have lt1 : ∀ x ∈ p1, x.block < W.heap.size := by obtain ⟨m, hm⟩ := k1; exact DataW.trod_lt m _ _ _ hm
  obtain ⟨A1, n1, c1, xs1, rfl, ra1, ea1, wf1⟩ := sl_open2 (hval 1 22 v1 rfl rfl) h1 (fun x hx => by simpa using List.all_eq_true.1 hsz x (DataW.weights_mem_each (j := 1) (t := 22) rfl rfl x hx))
  clear hA0 hval0 hsz hsz0
  refine (prefix_walk A0 n0 c0 xs0 A1 n1 c1 xs1 W ra0 ea0 wf0 ra1 ea1 wf1).mono fun e W' ⟨he, bel⟩ => ?_
  subst he
  exact ⟨_, rfl, _, _, _, [], _, [], hW', trodAll_mk1 (shut_bool Try.underlying4 _), (trodAll_cons_mk (Below.trod (by kernel_rfl) (by kernel_rfl) (of_decide_eq_true (by kernel_rfl)) k0 bel lt0) (trodAll_cons_mk (Below.trod (by kernel_rfl) (by kernel_rfl) (of_decide_eq_true (by kernel_rfl)) k1 bel lt1) trodAll_mk0)), rfl, bel.frame _, fun h => by cases h⟩

theorem PackPrefix_holds : Rows.PackPrefixSaid :=
  OpenClaim.holds_of_wide 4 Try.f4 rfl rfl rfl rfl rfl rfl rfl ⟨rfl, rfl, rfl, rfl, rfl⟩ rfl rfl rfl rfl rfl (by kernel_rfl) Try.func4 (by kernel_rfl)
    (of_decide_eq_true (by kernel_rfl)) (by unfold Func.isWrapper; first | (rw [if_pos (by decide +kernel)]; kernel_rfl) | (rw [if_neg (by decide +kernel)]; exact ⟨rfl, rfl⟩))
    (fun os started H enc _ => packPrefix_lifted os started H enc)
end Go.Proofs.Ytnkgagbobihnnaa
