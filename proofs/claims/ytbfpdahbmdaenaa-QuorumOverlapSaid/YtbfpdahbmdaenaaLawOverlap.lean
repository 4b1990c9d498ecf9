/-
  QuorumOverlap: two majorities of a roster, or of one and one that may come behind it, share a voter.
-/
import Derived.Test.YtbfpdahbmdaenaaLong
import Derived.Test.YtbfpdahbmdaenaaMays
import Derived.Test.YtbfpdahbmdaenaaMajor
import Derived.Test.YtbfpdahbmdaenaaPlain5
import Derived.Test.YtbfpdahbmdaenaaOver
import Derived.Test.YtbfpdahbmdaenaaAwake
import Derived.Test.YtbfpdahbmdaenaaOpen
namespace Go.Proofs.Ytbfpdahbmdaenaa
open Go.ChangeShapes Go.WideShapes Go.ChangeAt Go.RowKit

/-- What the loop reads: the first roster, b, the roster of the round. -/
structure OV (w W : World) (br : Nat) (A1 A2 : Option Addr) (n1 c1 n2 c2 : Nat) (B : Option Addr) (m d : Nat) (A3 A4 : Option Addr) (n3 c3 n4 c4 : Nat) : Prop where
  lt : w.heap.size + 2 < W.heap.size
  bl : br < W.heap.size
  z0 : W.cell? ⟨w.heap.size, 0, none⟩ = some (.slice A1 n1 c1)
  z1 : W.cell? ⟨w.heap.size, 1, none⟩ = some (.slice A2 n2 c2)
  zb : W.cell? ⟨w.heap.size + 1 + 1, 0, none⟩ = some (.slice B m d)
  y0 : W.cell? ⟨br, 0, none⟩ = some (.slice A3 n3 c3)
  y1 : W.cell? ⟨br, 1, none⟩ = some (.slice A4 n4 c4)
theorem OV.below {w W W' : World} {br : Nat} {A1 A2 : Option Addr} {n1 c1 n2 c2 : Nat} {B : Option Addr} {m d : Nat} {A3 A4 : Option Addr} {n3 c3 n4 c4 : Nat} (h : OV w W br A1 A2 n1 c1 n2 c2 B m d A3 A4 n3 c3 n4 c4) (hb : Below W.heap.size W W') : OV w W' br A1 A2 n1 c1 n2 c2 B m d A3 A4 n3 c3 n4 c4 :=
  ⟨Nat.lt_of_lt_of_le h.lt hb.size, Nat.lt_of_lt_of_le h.bl hb.size, (hb.cell (p := ⟨w.heap.size, 0, none⟩) (by have := h.lt; simp; omega)).trans h.z0, (hb.cell (p := ⟨w.heap.size, 1, none⟩) (by have := h.lt; simp; omega)).trans h.z1, (hb.cell (p := ⟨w.heap.size + 1 + 1, 0, none⟩) (by have := h.lt; simp; omega)).trans h.zb, (hb.cell (p := ⟨br, 0, none⟩) h.bl).trans h.y0, (hb.cell (p := ⟨br, 1, none⟩) h.bl).trans h.y1⟩

set_option linter.unusedSimpArgs false in
set_option linter.unusedVariables false in
set_option maxRecDepth 100000 in
set_option maxHeartbeats 4000000 in
theorem overlap_walk (A1 A2 : Option Addr) (n1 c1 n2 c2 : Nat) (vs ls : List Int) (A3 A4 : Option Addr) (n3 c3 n4 c4 : Nat) (vs' ls' : List Int) (A5 A6 : Option Addr) (n5 c5 n6 c6 : Nat) (xa xb : List Int) (w : World) (h1 : Rd w A1 n1 vs) (h2 : Rd w A2 n2 ls) (h3 : Rd w A3 n3 vs') (h4 : Rd w A4 n4 ls') (h5 : Rd w A5 n5 xa) (h6 : Rd w A6 n6 xb) : Calls Try.prog 9 #[.agg #[.slice A1 n1 c1, .slice A2 n2 c2], .agg #[.slice A3 n3 c3, .slice A4 n4 c4], .slice A5 n5 c5, .slice A6 n6 c6] w fun e w' => e = .returned (.bool true) ∧ Below w.heap.size w w' := by
  have HA := Kp.mk h1
  have HB := Kp.mk h2
  have HC := Kp.mk h3
  have HD := Kp.mk h4
  have HX := Kp.mk h5
  have HY := Kp.mk h6
  clear h1 h2 h3 h4 h5 h6
  obtain ⟨lg, hl⟩ : ∃ lg, lg = [(A1, n1, c1, A2, n2, c2), (A3, n3, c3, A4, n4, c4)].any lonB := ⟨_, rfl⟩
  have HLON := Kp.mk hl.symm
  clear hl
  have HRO : Kp (Ros ((((w.alloc (.cells #[.slice A1 n1 c1, .slice A2 n2 c2] 24)).alloc (.cells #[.slice A3 n3 c3, .slice A4 n4 c4] 24)).alloc (.cells #[.slice A6 n6 c6] 22)).alloc (.cells #[.slice A1 n1 c1, .slice A2 n2 c2, .slice A3 n3 c3, .slice A4 n4 c4] 24)) (w.heap.size + 1 + 1 + 1) [(A1, n1, c1, A2, n2, c2), (A3, n3, c3, A4, n4, c4)]) := ⟨by have := ros_new2 (((w.alloc (.cells #[.slice A1 n1 c1, .slice A2 n2 c2] 24)).alloc (.cells #[.slice A3 n3 c3, .slice A4 n4 c4] 24)).alloc (.cells #[.slice A6 n6 c6] 22)) A1 n1 c1 A2 n2 c2 A3 n3 c3 A4 n4 c4; rwa [World.size_alloc, World.size_alloc, World.size_alloc] at this⟩
  have HBX : Kp ((((w.alloc (.cells #[.slice A1 n1 c1, .slice A2 n2 c2] 24)).alloc (.cells #[.slice A3 n3 c3, .slice A4 n4 c4] 24)).alloc (.cells #[.slice A6 n6 c6] 22)).heap[w.heap.size + 1 + 1]? = some (.cells #[.slice A6 n6 c6] 22 (0, 0))) := ⟨by have := blk_new1 (w.alloc (.cells #[.slice A1 n1 c1, .slice A2 n2 c2] 24)) (.cells #[.slice A3 n3 c3, .slice A4 n4 c4] 24) (.cells #[.slice A6 n6 c6] 22); rwa [World.size_alloc] at this⟩
  go_enter Try.func9, Try.ntmps9
  go_wp2_with fail
  refine (long_any _ 2 [(A1, n1, c1, A2, n2, c2), (A3, n3, c3, A4, n4, c4)] _ HRO.it (by simp)).mono ?_
  rintro e w1 ⟨rfl, hb1⟩
  rw [HLON.it]
  have z0 : w1.cell? ⟨w.heap.size, 0, none⟩ = some (.slice A1 n1 c1) := (hb1.cell (p := ⟨w.heap.size, 0, none⟩) (by simp; omega)).trans (blk_cell (blk_old _ (blk_old _ (blk_old _ (blk_new _ _)))) rfl)
  have z1 : w1.cell? ⟨w.heap.size, 1, none⟩ = some (.slice A2 n2 c2) := (hb1.cell (p := ⟨w.heap.size, 1, none⟩) (by simp; omega)).trans (blk_cell (blk_old _ (blk_old _ (blk_old _ (blk_new _ _)))) rfl)
  have z2 : w1.cell? ⟨w.heap.size + 1, 0, none⟩ = some (.slice A3 n3 c3) := (hb1.cell (p := ⟨w.heap.size + 1, 0, none⟩) (by simp)).trans (blk_cell (blk_old _ (blk_old _ (blk_new1 _ _ _))) rfl)
  have z3 : w1.cell? ⟨w.heap.size + 1, 1, none⟩ = some (.slice A4 n4 c4) := (hb1.cell (p := ⟨w.heap.size + 1, 1, none⟩) (by simp)).trans (blk_cell (blk_old _ (blk_old _ (blk_new1 _ _ _))) rfl)
  have zb : w1.cell? ⟨w.heap.size + 1 + 1, 0, none⟩ = some (.slice A6 n6 c6) := (hb1.cell (p := ⟨w.heap.size + 1 + 1, 0, none⟩) (by simp)).trans (blk_cell (blk_old _ HBX.it) rfl)
  have hs1 : w.heap.size + 1 + 1 < w1.heap.size := by have := hb1.size; simp at this; omega
  have HB1 : Kp (Below w.heap.size w w1) := ⟨(((((Below.refl _ _).alloc (Nat.le_refl _) _).alloc (by simp) _).alloc (by simp; omega) _).alloc (by simp; omega) _).trans (hb1.mono (by simp; omega))⟩
  clear hb1 HRO HBX
  have hl5 := HX.it.bd
  have hl6 := HY.it.bd
  cases lg with
  | true =>
    go_wp2_with (go_at_call 14; refine (awake_any _).mono ?_; rintro e w' ⟨rfl, hb'⟩)
    go_ret
    exact ⟨rfl, HB1.it.trans (hb'.mono HB1.it.size)⟩
  | false =>
    by_cases h5 : 500 < n5
    · go_wp2_with (go_at_call 14; refine (awake_any _).mono ?_; rintro e w' ⟨rfl, hb'⟩)
      go_ret
      exact ⟨rfl, HB1.it.trans (hb'.mono HB1.it.size)⟩
    · by_cases h6 : 500 < n6
      · go_wp2_with (go_at_call 14; refine (awake_any _).mono ?_; rintro e w' ⟨rfl, hb'⟩)
        go_ret
        exact ⟨rfl, HB1.it.trans (hb'.mono HB1.it.size)⟩
      · go_wp2_with fail
        refine (check_any _ _ _ _ _ _ vs ls _ (HA.it.below HB1.it) (HB.it.below HB1.it)).mono ?_
        rintro e w2 ⟨rfl, hb2⟩
        have z0' := (hb2.cell (p := ⟨w.heap.size, 0, none⟩) (by simp; omega)).trans z0
        have z1' := (hb2.cell (p := ⟨w.heap.size, 1, none⟩) (by simp; omega)).trans z1
        have z2' := (hb2.cell (p := ⟨w.heap.size + 1, 0, none⟩) (by simp; omega)).trans z2
        have z3' := (hb2.cell (p := ⟨w.heap.size + 1, 1, none⟩) (by simp; omega)).trans z3
        have zb' := (hb2.cell (p := ⟨w.heap.size + 1 + 1, 0, none⟩) hs1).trans zb
        have hs2 : w.heap.size + 1 + 1 < w2.heap.size := Nat.lt_of_lt_of_le hs1 hb2.size
        have HB2 := Kp.mk (HB1.it.trans (hb2.mono HB1.it.size))
        clear hb2 z0 z1 z2 z3 zb hs1 h5 h6
        cases hg : goodB vs ls with
        | false =>
          have HE := Kp.mk (errC_bad hg)
          rw [HE.it]
          clear hg
          go_wp2_with (go_at_call 14; refine (awake_any _).mono ?_; rintro e w' ⟨rfl, hb'⟩)
          go_ret
          exact ⟨rfl, HB2.it.trans (hb'.mono HB2.it.size)⟩
        | true =>
          have HE := Kp.mk (errC_good hg)
          rw [HE.it]
          have HG := Kp.mk hg
          clear hg
          have KEY : Kp (∀ i, i < 2 → ∃ A n c A' n' c' us ks, Kp ((w2.alloc (.cells #[.slice A1 n1 c1, .slice A2 n2 c2, .slice A3 n3 c3, .slice A4 n4 c4] 24)).cell? ⟨w2.heap.size, i * 2, none⟩ = some (.slice A n c)) ∧ Kp ((w2.alloc (.cells #[.slice A1 n1 c1, .slice A2 n2 c2, .slice A3 n3 c3, .slice A4 n4 c4] 24)).cell? ⟨w2.heap.size, i * 2 + 1, none⟩ = some (.slice A' n' c')) ∧ Kp (Rd w A n us) ∧ Kp (Rd w A' n' ks)) := ⟨by
            intro i hi
            match i, hi with
            | 0, _ => exact ⟨A1, n1, c1, A2, n2, c2, vs, ls, ⟨blk_cell (blk_new _ _) rfl⟩, ⟨blk_cell (blk_new _ _) rfl⟩, HA, HB⟩
            | 1, _ => exact ⟨A3, n3, c3, A4, n4, c4, vs', ls', ⟨blk_cell (blk_new _ _) rfl⟩, ⟨blk_cell (blk_new _ _) rfl⟩, HC, HD⟩⟩
          go_wp2
          obtain ⟨w3, hw3⟩ : ∃ w3, w3 = w2.alloc (.cells #[.slice A1 n1 c1, .slice A2 n2 c2, .slice A3 n3 c3, .slice A4 n4 c4] 24) := ⟨_, rfl⟩
          have GB3 : Kp (Below w2.heap.size w2 w3) := ⟨by rw [hw3]; exact (Below.refl _ _).alloc (Nat.le_refl _) _⟩
          have hs3 : w2.heap.size < w3.heap.size := by rw [hw3]; simp
          rw [← hw3] at KEY ⊢
          have HB3 := Kp.mk (HB2.it.trans (GB3.it.mono HB2.it.size))
          have Z0 := Kp.mk ((GB3.it.cell (p := ⟨w.heap.size, 0, none⟩) (by simp; omega)).trans z0')
          have Z1 := Kp.mk ((GB3.it.cell (p := ⟨w.heap.size, 1, none⟩) (by simp; omega)).trans z1')
          have ZB := Kp.mk ((GB3.it.cell (p := ⟨w.heap.size + 1 + 1, 0, none⟩) hs2).trans zb')
          clear hw3 z0' z1' z2' z3' zb'
          go_loopw [35] (fun i wr => ∃ k : Nat, k ≤ 2 ∧ i = .int .i64 k ∧ Kp (Below w3.heap.size w3 wr)) (fun i _ => 2 - (intOf i).toNat)
          case atStart => exact ⟨0, by omega, rfl, ⟨Below.refl _ _⟩⟩
          case round =>
            obtain ⟨i, hi, rfl, hB⟩ := hrel
            by_cases hi2 : i < 2
            · have hd : decide ((i : Int) < 2) = true := by simp; omega
              obtain ⟨A, n, c, A', n', c', us, ks, k0, k1, R, R'⟩ := KEY.it i hi2
              have y0 := (hB.it.cell (p := ⟨w2.heap.size, i * 2, none⟩) hs3).trans k0.it
              have y1 := (hB.it.cell (p := ⟨w2.heap.size, i * 2 + 1, none⟩) hs3).trans k1.it
              have HBr := Kp.mk (HB3.it.trans (hB.it.mono HB3.it.size))
              have hsr : w2.heap.size < wr.heap.size := Nat.lt_of_lt_of_le hs3 hB.it.size
              have O0 : Kp (OV w (wr.alloc (.cells #[.slice A n c, .slice A' n' c'] 24)) wr.heap.size A1 A2 n1 c1 n2 c2 A6 n6 c6 A A' n c n' c') := ⟨⟨by simp; omega, by simp, ?o0, ?o1, ?ob, blk_cell (blk_new _ _) rfl, blk_cell (blk_new _ _) rfl⟩⟩
              case o0 => exact (((Below.refl wr.heap.size wr).alloc (Nat.le_refl _) _).cell (p := ⟨w.heap.size, 0, none⟩) (by simp; omega)).trans ((hB.it.cell (p := ⟨w.heap.size, 0, none⟩) (by simp; omega)).trans Z0.it)
              case o1 => exact (((Below.refl wr.heap.size wr).alloc (Nat.le_refl _) _).cell (p := ⟨w.heap.size, 1, none⟩) (by simp; omega)).trans ((hB.it.cell (p := ⟨w.heap.size, 1, none⟩) (by simp; omega)).trans Z1.it)
              case ob => exact (((Below.refl wr.heap.size wr).alloc (Nat.le_refl _) _).cell (p := ⟨w.heap.size + 1 + 1, 0, none⟩) (by simp; omega)).trans ((hB.it.cell (p := ⟨w.heap.size + 1 + 1, 0, none⟩) (by simp; omega)).trans ZB.it)
              have z0 := (hB.it.cell (p := ⟨w.heap.size, 0, none⟩) (by simp; omega)).trans Z0.it
              have z1 := (hB.it.cell (p := ⟨w.heap.size, 1, none⟩) (by simp; omega)).trans Z1.it
              have zsz : w.heap.size < wr.heap.size := by omega
              have G0 : Kp (Below w.heap.size w (wr.alloc (.cells #[.slice A n c, .slice A' n' c'] 24))) := ⟨HBr.it.trans ((Below.refl wr.heap.size wr).alloc (Nat.le_refl _) _ |>.mono HBr.it.size)⟩
              have E0 : Kp (Below w3.heap.size w3 (wr.alloc (.cells #[.slice A n c, .slice A' n' c'] 24))) := ⟨hB.it.alloc hB.it.size _⟩
              obtain ⟨q1, hq1⟩ : ∃ q, q = eqB us vs := ⟨_, rfl⟩
              obtain ⟨em, hem⟩ : ∃ q, q = errM vs ls us ks := ⟨_, rfl⟩
              obtain ⟨m1, hm1⟩ : ∃ q, q = major vs xa := ⟨_, rfl⟩
              obtain ⟨m2, hm2⟩ : ∃ q, q = major us xb := ⟨_, rfl⟩
              have HQ := Kp.mk hq1
              have HEM := Kp.mk hem
              have HM1 := Kp.mk hm1
              have HM2 := Kp.mk hm2
              clear hq1 hem hm1 hm2
              go_wp2_with fail
              refine (equal_gr _ _ _ _ _ _ us vs _ (R.it.below G0.it) (HA.it.below G0.it)).mono ?_
              rintro e w4 ⟨rfl, hb4⟩
              rw [← HQ.it]
              have O4 := Kp.mk (O0.it.below hb4)
              have G4 := Kp.mk (G0.it.trans (hb4.mono G0.it.size))
              have E4 := Kp.mk (E0.it.trans (hb4.mono E0.it.size))
              clear hb4 y0 y1 z0 z1 zsz
              have hmf : ∀ (fn : Fn) (first cap : Array Value) (w : World), (Instr.makeFunc fn first cap).run Try.prog w = .ok (.func fn first cap) w := fun _ _ _ _ => rfl
              cases q1 with
              | true =>
                have z0 := O4.it.z0
                have z1 := O4.it.z1
                have zb := O4.it.zb
                have zr0 := O4.it.y0
                have zr1 := O4.it.y1
                go_wp2_with fail
                refine (majority_any _ _ _ _ _ _ _ _ _ vs xa _ (HA.it.below G4.it) (HX.it.below G4.it)).mono ?_
                rintro e w5 ⟨rfl, hb5⟩
                rw [← HM1.it]
                have O5 := Kp.mk (O4.it.below hb5)
                have G5 := Kp.mk (G4.it.trans (hb5.mono G4.it.size))
                have E5 := Kp.mk (E4.it.trans (hb5.mono E4.it.size))
                clear hb5 z0 z1 zb zr0 zr1
                cases m1 with
                | false =>
                  have z0 := O5.it.z0
                  have z1 := O5.it.z1
                  have zb := O5.it.zb
                  have zr0 := O5.it.y0
                  have zr1 := O5.it.y1
                  go_wp2
                  go_roundw
                  case rel => exact ⟨i + 1, by omega, by go_num, E5⟩
                  case measure => simp [intOf]; omega
                | true =>
                  have z0 := O5.it.z0
                  have z1 := O5.it.z1
                  have zb := O5.it.zb
                  have zr0 := O5.it.y0
                  have zr1 := O5.it.y1
                  go_wp2_with fail
                  refine (majority_any _ _ _ _ _ _ _ _ _ us xb _ (R.it.below G5.it) (HY.it.below G5.it)).mono ?_
                  rintro e w6 ⟨rfl, hb6⟩
                  rw [← HM2.it]
                  have O6 := Kp.mk (O5.it.below hb6)
                  have G6 := Kp.mk (G5.it.trans (hb6.mono G5.it.size))
                  have E6 := Kp.mk (E5.it.trans (hb6.mono E5.it.size))
                  clear hb6 z0 z1 zb zr0 zr1
                  cases m2 with
                  | false =>
                    have z0 := O6.it.z0
                    have z1 := O6.it.z1
                    have zb := O6.it.zb
                    have zr0 := O6.it.y0
                    have zr1 := O6.it.y1
                    go_wp2
                    go_roundw
                    case rel => exact ⟨i + 1, by omega, by go_num, E6⟩
                    case measure => simp [intOf]; omega
                  | true =>
                    have HSH : Kp (xa.any (bothB xb vs) = true) := ⟨share_law (ls' := ks) HG.it (.inl (by have := HQ.it.symm; unfold eqB at this; exact of_decide_eq_true this)) HM1.it.symm HM2.it.symm⟩
                    have HCAP : Kp (Cap w6 (w.heap.size + 1 + 1) w.heap.size A6 n6 c6 xb A1 A2 n1 c1 n2 c2 vs) := ⟨⟨O6.it.lt, by have := O6.it.lt; omega, O6.it.zb, O6.it.z0, O6.it.z1, HY.it.below G6.it, HA.it.below G6.it⟩⟩
                    have z0 := O6.it.z0
                    have z1 := O6.it.z1
                    have zb := O6.it.zb
                    have zr0 := O6.it.y0
                    have zr1 := O6.it.y1
                    go_wp2_with fail
                    refine (cont_any _ _ _ _ _ xb _ _ _ _ _ _ vs _ _ _ xa _ HCAP.it (HX.it.below G6.it)).mono ?_
                    rintro e w9 ⟨rfl, hb9⟩
                    rw [HSH.it]
                    have E9 := Kp.mk (E6.it.trans (hb9.mono E6.it.size))
                    clear hb9 z0 z1 zb zr0 zr1
                    go_wp2
                    go_roundw
                    case rel => exact ⟨i + 1, by omega, by go_num, E9⟩
                    case measure => simp [intOf]; omega
              | false =>
                have z0 := O4.it.z0
                have z1 := O4.it.z1
                have zb := O4.it.zb
                have zr0 := O4.it.y0
                have zr1 := O4.it.y1
                go_wp2_with fail
                refine (may_any _ _ _ _ _ _ vs ls _ _ _ _ _ _ us ks _ (HA.it.below G4.it) (HB.it.below G4.it) (R.it.below G4.it) (R'.it.below G4.it)).mono ?_
                rintro e w5 ⟨rfl, hb5⟩
                rw [← HEM.it]
                have O5 := Kp.mk (O4.it.below hb5)
                have G5 := Kp.mk (G4.it.trans (hb5.mono G4.it.size))
                have E5 := Kp.mk (E4.it.trans (hb5.mono E4.it.size))
                clear hb5 z0 z1 zb zr0 zr1
                by_cases h0 : em = 0
                · have HEZ := Kp.mk (HEM.it.symm.trans h0)
                  subst h0
                  have z0 := O5.it.z0
                  have z1 := O5.it.z1
                  have zb := O5.it.zb
                  have zr0 := O5.it.y0
                  have zr1 := O5.it.y1
                  go_wp2_with fail
                  refine (majority_any _ _ _ _ _ _ _ _ _ vs xa _ (HA.it.below G5.it) (HX.it.below G5.it)).mono ?_
                  rintro e w6 ⟨rfl, hb6⟩
                  rw [← HM1.it]
                  have O6 := Kp.mk (O5.it.below hb6)
                  have G6 := Kp.mk (G5.it.trans (hb6.mono G5.it.size))
                  have E6 := Kp.mk (E5.it.trans (hb6.mono E5.it.size))
                  clear hb6 z0 z1 zb zr0 zr1
                  cases m1 with
                  | false =>
                    have z0 := O6.it.z0
                    have z1 := O6.it.z1
                    have zb := O6.it.zb
                    have zr0 := O6.it.y0
                    have zr1 := O6.it.y1
                    go_wp2
                    go_roundw
                    case rel => exact ⟨i + 1, by omega, by go_num, E6⟩
                    case measure => simp [intOf]; omega
                  | true =>
                    have z0 := O6.it.z0
                    have z1 := O6.it.z1
                    have zb := O6.it.zb
                    have zr0 := O6.it.y0
                    have zr1 := O6.it.y1
                    go_wp2_with fail
                    refine (majority_any _ _ _ _ _ _ _ _ _ us xb _ (R.it.below G6.it) (HY.it.below G6.it)).mono ?_
                    rintro e w7 ⟨rfl, hb7⟩
                    rw [← HM2.it]
                    have O7 := Kp.mk (O6.it.below hb7)
                    have G7 := Kp.mk (G6.it.trans (hb7.mono G6.it.size))
                    have E7 := Kp.mk (E6.it.trans (hb7.mono E6.it.size))
                    clear hb7 z0 z1 zb zr0 zr1
                    cases m2 with
                    | false =>
                      have z0 := O7.it.z0
                      have z1 := O7.it.z1
                      have zb := O7.it.zb
                      have zr0 := O7.it.y0
                      have zr1 := O7.it.y1
                      go_wp2
                      go_roundw
                      case rel => exact ⟨i + 1, by omega, by go_num, E7⟩
                      case measure => simp [intOf]; omega
                    | true =>
                      have HSH : Kp (xa.any (bothB xb vs) = true) := ⟨share_law (ls' := ks) HG.it (.inr HEZ.it) HM1.it.symm HM2.it.symm⟩
                      have HCAP : Kp (Cap w7 (w.heap.size + 1 + 1) w.heap.size A6 n6 c6 xb A1 A2 n1 c1 n2 c2 vs) := ⟨⟨O7.it.lt, by have := O7.it.lt; omega, O7.it.zb, O7.it.z0, O7.it.z1, HY.it.below G7.it, HA.it.below G7.it⟩⟩
                      have z0 := O7.it.z0
                      have z1 := O7.it.z1
                      have zb := O7.it.zb
                      have zr0 := O7.it.y0
                      have zr1 := O7.it.y1
                      go_wp2_with fail
                      refine (cont_any _ _ _ _ _ xb _ _ _ _ _ _ vs _ _ _ xa _ HCAP.it (HX.it.below G7.it)).mono ?_
                      rintro e w9 ⟨rfl, hb9⟩
                      rw [HSH.it]
                      have E9 := Kp.mk (E7.it.trans (hb9.mono E7.it.size))
                      clear hb9 z0 z1 zb zr0 zr1
                      go_wp2
                      go_roundw
                      case rel => exact ⟨i + 1, by omega, by go_num, E9⟩
                      case measure => simp [intOf]; omega
                · have h0' : (em == 0) = false := by simpa using h0
                  clear h0
                  have z0 := O5.it.z0
                  have z1 := O5.it.z1
                  have zb := O5.it.zb
                  have zr0 := O5.it.y0
                  have zr1 := O5.it.y1
                  go_wp2
                  go_roundw
                  case rel => exact ⟨i + 1, by omega, by go_num, E5⟩
                  case measure => simp [intOf]; omega
            · go_wp2_with (go_at_call 14; refine (awake_any _).mono ?_; rintro e w' ⟨rfl, hb'⟩)
              go_ret
              have hx := HB3.it.trans (hB.it.mono HB3.it.size)
              exact ⟨rfl, hx.trans (hb'.mono hx.size)⟩

set_option linter.unusedVariables false in
set_option maxRecDepth 100000 in
theorem quorumOverlap_lifted (os : Os) (started : os.Started) (H : Type) (enc : TypeId × Value → H) :
    ReturnsInHanded {} Try.checked os 9 .any (Rows.quorumOverlapSpec.pre6 enc Try.prog Try.f9 Rows.quorumOverlapRow.domain false) (Rows.quorumOverlapSpec.post enc Try.prog Try.f9 false true false false) := by
  refine returnsInHanded_of_change_sized (C := Try.checked) (by kernel_rfl) started (by kernel_rfl) Try.func9
    (ChangeSpec.witness6 (enc := enc) (C := Try.checked) false ⟨#[], #[.agg #[.slice none 0 0, .slice none 0 0], .agg #[.slice none 0 0, .slice none 0 0], .slice none 0 0, .slice none 0 0], []⟩ 8 (by kernel_rfl) (by kernel_rfl) (by kernel_rfl) (by kernel_rfl)) ?_
  intro W base args ds gs before hval0 hW hcnd hsz0 _
  have hval : ∀ (j : Nat) t v, Try.f9.params[j]? = some t → args[j]? = some v → Value.okWide Try.prog W .any base t v := hval0
  have hW' := hW
  obtain ⟨p, q, hA0, hV, rfl, hfz, hnd⟩ := hW
  have hA : DataW.TrodAll enc Try.prog W 0 (fun _ => true) true Try.f9.params.toList args.toList ds p := hA0
  have hsz : (DataW.weightsEach Try.prog (Try.f9.params.toList ++ Rows.quorumOverlapSpec.plain.varTypes Try.prog) (ds ++ gs)).all (· ≤ reachBytes) = true := hsz0
  rw [Try.params9] at hA hval hsz
  obtain ⟨v0, vs0, d0, ds0, p0, q0, hargs, rfl, rfl, h0, r0⟩ := trodAll_cons hA
  obtain ⟨v1, vs1, d1, ds1, p1, q1, rfl, rfl, rfl, h1, r1⟩ := trodAll_cons r0
  obtain ⟨v2, vs2, d2, ds2, p2, q2, rfl, rfl, rfl, h2, r2⟩ := trodAll_cons r1
  obtain ⟨v3, vs3, d3, ds3, p3, q3, rfl, rfl, rfl, h3, r3⟩ := trodAll_cons r2
  obtain ⟨rfl, rfl, rfl⟩ := trodAll_nil r3
  obtain rfl : args = #[v0, v1, v2, v3] := by cases args; simp_all
  obtain ⟨rfl, rfl⟩ := trodVars_none hV
  have k0 := h0
  have lt0 : ∀ x ∈ p0, x.block < W.heap.size := by obtain ⟨m, hm⟩ := k0; exact DataW.trod_lt m _ _ _ hm
  obtain ⟨A0, n0, c0, B0, m0, e0, vs0', ls0', rfl, ra0, rb0⟩ := ro_open (hval 0 24 v0 rfl rfl) h0 (fun x hx => by simpa using List.all_eq_true.1 hsz x (DataW.weights_mem_each (j := 0) (t := 24) rfl rfl x hx))
  have k1 := h1
  have lt1 : ∀ x ∈ p1, x.block < W.heap.size := by obtain ⟨m, hm⟩ := k1; exact DataW.trod_lt m _ _ _ hm
  obtain ⟨A1, n1, c1, B1, m1, e1, vs1', ls1', rfl, ra1, rb1⟩ := ro_open (hval 1 24 v1 rfl rfl) h1 (fun x hx => by simpa using List.all_eq_true.1 hsz x (DataW.weights_mem_each (j := 1) (t := 24) rfl rfl x hx))
  have k2 := h2
  have lt2 : ∀ x ∈ p2, x.block < W.heap.size := by obtain ⟨m, hm⟩ := k2; exact DataW.trod_lt m _ _ _ hm
  obtain ⟨A2, n2, c2, xs2, rfl, ra2⟩ := sl_open (hval 2 22 v2 rfl rfl) h2 (fun x hx => by simpa using List.all_eq_true.1 hsz x (DataW.weights_mem_each (j := 2) (t := 22) rfl rfl x hx))
  have k3 := h3
  have lt3 : ∀ x ∈ p3, x.block < W.heap.size := by obtain ⟨m, hm⟩ := k3; exact DataW.trod_lt m _ _ _ hm
  obtain ⟨A3, n3, c3, xs3, rfl, ra3⟩ := sl_open (hval 3 22 v3 rfl rfl) h3 (fun x hx => by simpa using List.all_eq_true.1 hsz x (DataW.weights_mem_each (j := 3) (t := 22) rfl rfl x hx))
  clear hA0 hval0 hsz hsz0
  refine (overlap_walk _ _ _ _ _ _ _ _ _ _ _ _ _ _ _ _ _ _ _ _ _ _ _ _ W ra0 rb0 ra1 rb1 ra2 ra3).mono fun e W' ⟨he, bel⟩ => ?_
  subst he
  exact ⟨_, rfl, _, _, _, [], _, [], hW', trodAll_mk1 (shut_bool Try.underlying4 _), (trodAll_cons_mk (Below.trod (by kernel_rfl) (by kernel_rfl) (of_decide_eq_true (by kernel_rfl)) k0 bel lt0) (trodAll_cons_mk (Below.trod (by kernel_rfl) (by kernel_rfl) (of_decide_eq_true (by kernel_rfl)) k1 bel lt1) (trodAll_cons_mk (Below.trod (by kernel_rfl) (by kernel_rfl) (of_decide_eq_true (by kernel_rfl)) k2 bel lt2) (trodAll_cons_mk (Below.trod (by kernel_rfl) (by kernel_rfl) (of_decide_eq_true (by kernel_rfl)) k3 bel lt3) trodAll_mk0)))), rfl, bel.frame _, fun h => by cases h⟩

theorem QuorumOverlap_holds : Rows.QuorumOverlapSaid :=
  OpenClaim.holds_of_wide 9 Try.f9 rfl rfl rfl rfl rfl rfl rfl ⟨rfl, rfl, rfl, rfl, rfl⟩ rfl rfl rfl rfl rfl (by kernel_rfl) Try.func9 (by kernel_rfl)
    (of_decide_eq_true (by kernel_rfl)) (by unfold Func.isWrapper; first | (rw [if_pos (by decide +kernel)]; kernel_rfl) | (rw [if_neg (by decide +kernel)]; exact ⟨rfl, rfl⟩))
    (fun os started H enc _ => quorumOverlap_lifted os started H enc)

end Go.Proofs.Ytbfpdahbmdaenaa
