/-
  QuorumWays: from any roster to any other one there is a way.
-/
import Derived.Test.YtbfpdahbmdaenaaReg4
import Derived.Test.YtbfpdahbmdaenaaStep
import Derived.Test.YtbfpdahbmdaenaaPlain8
import Derived.Test.YtbfpdahbmdaenaaLong
import Derived.Test.YtbfpdahbmdaenaaAwake
import Derived.Test.YtbfpdahbmdaenaaOpen
import Derived.Test.YtbfpdahbmdaenaaEq
import Derived.Deep.CutRange
import Derived.Deep.CutBlock
import Derived.Deep.LoopGhost
namespace Go.Proofs.Ytbfpdahbmdaenaa
open Go.ChangeShapes Go.WideShapes Go.ChangeAt Go.RowKit

set_option linter.unusedSimpArgs false in
set_option linter.unusedVariables false in
set_option maxRecDepth 100000 in
set_option maxHeartbeats 200000000 in
theorem ways_walk (A1 A2 : Option Addr) (n1 c1 n2 c2 : Nat) (vs ls : List Int) (A3 A4 : Option Addr) (n3 c3 n4 c4 : Nat) (us ks : List Int) (w : World) (h1 : Rd w A1 n1 vs) (h2 : Rd w A2 n2 ls) (h3 : Rd w A3 n3 us) (h4 : Rd w A4 n4 ks)
    (e1 : A1 = none → c1 = 0) (e2 : A2 = none → c2 = 0) (e3 : A3 = none → c3 = 0) (e4 : A4 = none → c4 = 0) : Calls Try.prog 12 #[.agg #[.slice A1 n1 c1, .slice A2 n2 c2], .agg #[.slice A3 n3 c3, .slice A4 n4 c4]] w fun e w' => e = .returned (.bool true) ∧ Below w.heap.size w w' := by
  have hb0 : Below w.heap.size w ((w.alloc (.cells #[.slice A1 n1 c1, .slice A2 n2 c2] 24)).alloc (.cells #[.slice A3 n3 c3, .slice A4 n4 c4] 24)) := ((Below.refl _ _).alloc (Nat.le_refl _) _).alloc (by simp) _
  have HA := Kp.mk h1
  have HB0 := Kp.mk h2
  have HC := Kp.mk h3
  have HD := Kp.mk h4
  have E1 := Kp.mk e1
  have E2 := Kp.mk e2
  have E3 := Kp.mk e3
  have E4 := Kp.mk e4
  have hl1 := h1.bd
  have hl2 := h2.bd
  have hl3 := h3.bd
  have hl4 := h4.bd
  have HBB := Kp.mk hb0
  clear h1 h2 h3 h4 e1 e2 e3 e4 hb0
  go_enter Try.func12, Try.ntmps12
  go_wp2_with fail
  refine (check_any _ _ _ _ _ _ vs ls _ (HA.it.below HBB.it) (HB0.it.below HBB.it)).mono ?_
  rintro e w1 ⟨rfl, hb1⟩
  have HBW1 := Kp.mk (HBB.it.trans (hb1.mono (by simp; omega)))
  have z0 : w1.cell? ⟨w.heap.size, 0, none⟩ = some (.slice A1 n1 c1) := (hb1.cell (p := ⟨w.heap.size, 0, none⟩) (by simp; omega)).trans (blk_cell (blk_old _ (blk_new _ _)) rfl)
  have z1 : w1.cell? ⟨w.heap.size, 1, none⟩ = some (.slice A2 n2 c2) := (hb1.cell (p := ⟨w.heap.size, 1, none⟩) (by simp; omega)).trans (blk_cell (blk_old _ (blk_new _ _)) rfl)
  have z2 : w1.cell? ⟨w.heap.size + 1, 0, none⟩ = some (.slice A3 n3 c3) := (hb1.cell (p := ⟨w.heap.size + 1, 0, none⟩) (by simp)).trans (blk_cell (blk_new1 _ _ _) rfl)
  have z3 : w1.cell? ⟨w.heap.size + 1, 1, none⟩ = some (.slice A4 n4 c4) := (hb1.cell (p := ⟨w.heap.size + 1, 1, none⟩) (by simp)).trans (blk_cell (blk_new1 _ _ _) rfl)
  have hs1 : w.heap.size + 1 < w1.heap.size := by have := hb1.size; simp at this; omega
  clear hb1
  cases hg : goodB vs ls with
  | false =>
    have HE := Kp.mk (errC_bad hg)
    rw [HE.it]
    clear hg
    go_wp2_with (go_at_call 14; refine (awake_any _).mono ?_; rintro e w' ⟨rfl, hb'⟩)
    go_ret
    exact ⟨rfl, HBW1.it.trans (hb'.mono HBW1.it.size)⟩
  | true =>
    have HE := Kp.mk (errC_good hg)
    rw [HE.it]
    have HG0 := Kp.mk hg
    clear hg HE
    go_wp2_with fail
    refine (check_any _ _ _ _ _ _ us ks _ (HC.it.below HBW1.it) (HD.it.below HBW1.it)).mono ?_
    rintro e w2 ⟨rfl, hb2⟩
    have hz0 := (hb2.cell (p := ⟨w.heap.size, 0, none⟩) (by show w.heap.size < _; omega)).trans z0
    have hz1 := (hb2.cell (p := ⟨w.heap.size, 1, none⟩) (by show w.heap.size < _; omega)).trans z1
    have hz2 := (hb2.cell (p := ⟨w.heap.size + 1, 0, none⟩) hs1).trans z2
    have hz3 := (hb2.cell (p := ⟨w.heap.size + 1, 1, none⟩) hs1).trans z3
    have hs2 : w.heap.size + 1 < w2.heap.size := Nat.lt_of_lt_of_le hs1 hb2.size
    have Z2 := Kp.mk hz2
    have Z3 := Kp.mk hz3
    have HBW2 := Kp.mk (HBW1.it.trans (hb2.mono HBW1.it.size))
    clear hb2 z0 z1 z2 z3 hs1
    cases hg : goodB us ks with
    | false =>
      have HE := Kp.mk (errC_bad hg)
      rw [HE.it]
      clear hg
      go_wp2_with (go_at_call 14; refine (awake_any _).mono ?_; rintro e w' ⟨rfl, hb'⟩)
      go_ret
      exact ⟨rfl, HBW2.it.trans (hb'.mono HBW2.it.size)⟩
    | true =>
      have HE := Kp.mk (errC_good hg)
      rw [HE.it]
      have HGU := Kp.mk hg
      clear hg HE
      go_wp2
      clear hz2 hz3 hz0 hz1
      have HCB : Kp (Below w2.heap.size w2 (w2.alloc (.cells #[.slice A1 n1 c1, .slice A2 n2 c2] 24))) := ⟨(Below.refl _ _).alloc (Nat.le_refl _) _⟩
      go_loopg [25] n3 (fun g i wr => ∃ (k : Nat) (A : Option Addr) (n c : Nat) (A' : Option Addr) (n' c' : Nat) (vs' ls' : List Int), k ≤ n3 ∧ n3 - k ≤ g ∧ i = .int .i64 k ∧ Kp (Go1 us k vs' ls') ∧ Kp (At wr w2.heap.size A n c A' n' c' vs' ls') ∧ Kp (Below w2.heap.size w2 wr))
      case atStart => exact ⟨0, _, _, _, _, _, _, vs, ls, by omega, by omega, rfl, ⟨⟨HG0.it, fun j hj => by omega⟩⟩, ⟨⟨blk_new _ _, HA.it.below (HBW2.it.trans (HCB.it.mono HBW2.it.size)), HB0.it.below (HBW2.it.trans (HCB.it.mono HBW2.it.size)), E1.it, E2.it⟩⟩, HCB⟩
      case round =>
        obtain ⟨k, A, n, c, A', n', c', vs', ls', hk, hgk, rfl, HGO, HAT, HB⟩ := hrel
        by_cases hkn : k < n3
        · have hd : decide ((k : Int) < (n3 : Int)) = true := by simp; omega
          obtain ⟨b, o, hA, hlt, hc0⟩ := HC.it.get hkn
          have hcell := ((HBW2.it.trans (HB.it.mono HBW2.it.size)).cell (p := ⟨b, o + k, none⟩) hlt).trans hc0
          cases hA
          obtain ⟨x, hx⟩ : ∃ x, x = rd us k := ⟨_, rfl⟩
          have HX := Kp.mk hx
          have HXR : Kp (0 ≤ x ∧ x < 5) := ⟨by
            rw [hx, rd_lt (by rw [HC.it.len]; exact hkn)]
            exact (good_iff.1 HGU.it).2.1 _ (List.mem_append_left _ (List.getElem_mem _))⟩
          rw [← hx] at hcell
          clear hc0 hlt hx
          have hs5 : w2.heap.size < wr.heap.size := (Array.getElem?_eq_some_iff.1 HAT.it.box).1
          have hy0 : wr.cell? ⟨w2.heap.size, 0, none⟩ = some (.slice A n c) := blk_cell HAT.it.box rfl
          have hy1 : wr.cell? ⟨w2.heap.size, 1, none⟩ = some (.slice A' n' c') := blk_cell HAT.it.box rfl
          have hz2 := (HB.it.cell (p := ⟨w.heap.size + 1, 0, none⟩) hs2).trans Z2.it
          have hz3 := (HB.it.cell (p := ⟨w.heap.size + 1, 1, none⟩) hs2).trans Z3.it
          have HS5 := Kp.mk hs5
          have hs6 : w.heap.size + 1 < wr.heap.size := by omega
          go_upto_region 9 with fail
          go_cut [46] from 26 to 68 (fun s wx => s = .bool false ∧ ∃ (A : Option Addr) (n c : Nat) (A' : Option Addr) (n' c' : Nat) (vs' ls' : List Int), Kp (Go1 us k vs' ls') ∧ Kp (hasB vs' ls' x = true) ∧ Kp (At wx w2.heap.size A n c A' n' c' vs' ls') ∧ Kp (Below w2.heap.size w2 wx))
          case first =>
            cases hh : hasB vs' ls' x with
            | false =>
              have HHAS : Kp ((inB vs' x || inB ls' x) = false) := ⟨hh⟩
              obtain ⟨g1, g2, g3, g4⟩ := HGO.it.add HXR.it hh
              have HGOOD := Kp.mk HGO.it.1
              have HGO2 := Kp.mk g1
              have HM := Kp.mk g2
              have HHB : Kp (hasB vs' (ls' ++ [x]) x = true) := ⟨by unfold hasB; rw [g4, Bool.or_true]⟩
              clear hh g1 g2 g3 g4
              have HLEN : Kp ((ls').length + 1 ≤ 17592186044416) := ⟨by have := HAT.it.r2.le; omega⟩
              have HLEN2 : Kp ((ls').length ≤ 1000) := ⟨good_le HGOOD.it⟩
              go_wp2_with fail
              refine wp_region_plan_sp ⟨13, 10, 1000, [10, 12], 15, 39⟩ [.ex (.agg #[.slice A n c, .slice A' n' c']), .ex (.int .i64 x), .ex (.bool false), .ex (.bool true), .ex (.bool true), .ex (.func (.func 35) #[] #[.pointer (some ⟨w2.heap.size, 0, none⟩)]), .ex (.pointer (some ⟨w2.heap.size, 0, none⟩)), .ex (.slice A n c), .ex (.pointer (some ⟨w2.heap.size, 1, none⟩)), .ex (.slice A' n' c'), .own wr.heap.size ls', .ex (.int .i64 x), .cel x, .sln (ls' ++ [x]), .ror (.slice A n c) (ls' ++ [x])] (by kernel_rfl) (by kernel_rfl) (by simp [SpW.isOwn]) (by simp [SpW.isOwn, SpW.isNo]) (by kernel_rfl) (by kernel_rfl) (by kernel_rfl) ?_ ?_ ?_
              · intro i o ho hiL hiK a W hbW hG
                match i with
                | 0 =>
                  have ho1 := ho
                  cases ho
                  have t5 : a.tmps.getD 5 undef = .pointer (some ⟨w2.heap.size, 0, none⟩) := hG.old 5 (by decide)
                  have y0 := (hbW.cell (p := ⟨w2.heap.size, 0, none⟩) hs5).trans hy0
                  have y1 := (hbW.cell (p := ⟨w2.heap.size, 1, none⟩) hs5).trans hy1
                  exact op_value_3 (w1 := W) ho1 (wanted_none rfl) (by decide) (.agg #[.slice A n c, .slice A' n' c']) (by simp [go_sem, Act.eval, -Array.getD_eq_getD_getElem?, t5, y0, y1]) (Gr.refl _) rfl
                | 1 =>
                  have ho1 := ho
                  cases ho
                  have t9 : a.tmps.getD 9 undef = .int .i64 x := hG.old 9 (by decide)
                  exact op_value_3 (w1 := W) ho1 (wanted_none rfl) (by decide) (.int .i64 x) (by simp [go_sem, Act.eval, -Array.getD_eq_getD_getElem?, t9]) (Gr.refl _) rfl
                | 2 =>
                  have ho1 := ho
                  cases ho
                  have t29 : a.tmps.getD 29 undef = .agg #[.slice A n c, .slice A' n' c'] := hG.dep 0 (by decide) (by decide) 29 rfl
                  have t30 : a.tmps.getD 30 undef = .int .i64 x := hG.dep 1 (by decide) (by decide) 30 rfl
                  refine op_call_3 ho1 (wanted_none rfl) 33 #[.agg #[.slice A n c, .slice A' n' c'], .int .i64 x] (by simp [go_sem, Act.eval, -Array.getD_eq_getD_getElem?, t29, t30]) ?_
                  refine (has_any _ _ _ _ _ _ vs' ls' W (HAT.it.r1.below hbW) (HAT.it.r2.below hbW) x).mono ?_
                  rintro e W' ⟨rfl, hb'⟩
                  exact ⟨_, rfl, hb', by show Value.bool _ = _; rw [HHAS.it], fun h => absurd h (by decide)⟩
                | 3 =>
                  have ho1 := ho
                  cases ho
                  have t31 : a.tmps.getD 31 undef = .bool false := hG.dep 2 (by decide) (by decide) 31 rfl
                  exact op_value_3 (w1 := W) ho1 (wanted_none rfl) (by decide) (.bool true) (by simp [go_sem, Act.eval, -Array.getD_eq_getD_getElem?, t31]) (Gr.refl _) rfl
                | 4 =>
                  have ho1 := ho
                  cases ho
                  have t32 : a.tmps.getD 32 undef = .bool true := hG.dep 3 (by decide) (by decide) 32 rfl
                  exact op_value_3 (w1 := W) ho1 (wanted_none rfl) (by decide) (.bool true) (by simp [go_sem, Act.eval, -Array.getD_eq_getD_getElem?, t32]) (Gr.refl _) rfl
                | 5 =>
                  have ho1 := ho
                  cases ho
                  have t6 : a.tmps.getD 6 undef = .func (.func 35) #[] #[.pointer (some ⟨w2.heap.size, 0, none⟩)] := hG.old 6 (by decide)
                  have t33 : a.tmps.getD 33 undef = .bool true := hG.dep 4 (by decide) (by decide) 33 rfl
                  exact op_value_3 (w1 := W) ho1 (wanted_yes rfl rfl t33) (by decide) (.func (.func 35) #[] #[.pointer (some ⟨w2.heap.size, 0, none⟩)]) (by simp [go_sem, Act.eval, -Array.getD_eq_getD_getElem?, t6, t33]) (Gr.refl _) rfl
                | 6 =>
                  have ho1 := ho
                  cases ho
                  have t5 : a.tmps.getD 5 undef = .pointer (some ⟨w2.heap.size, 0, none⟩) := hG.old 5 (by decide)
                  have t33 : a.tmps.getD 33 undef = .bool true := hG.dep 4 (by decide) (by decide) 33 rfl
                  exact op_value_3 (w1 := W) ho1 (wanted_yes rfl rfl t33) (by decide) (.pointer (some ⟨w2.heap.size, 0, none⟩)) (by simp [go_sem, Act.eval, -Array.getD_eq_getD_getElem?, t5, t33]) (Gr.refl _) rfl
                | 7 =>
                  have ho1 := ho
                  cases ho
                  have t35 : a.tmps.getD 35 undef = .pointer (some ⟨w2.heap.size, 0, none⟩) := hG.dep 6 (by decide) (by decide) 35 rfl
                  have t33 : a.tmps.getD 33 undef = .bool true := hG.dep 4 (by decide) (by decide) 33 rfl
                  have y0 := (hbW.cell (p := ⟨w2.heap.size, 0, none⟩) hs5).trans hy0
                  have y1 := (hbW.cell (p := ⟨w2.heap.size, 1, none⟩) hs5).trans hy1
                  exact op_value_3 (w1 := W) ho1 (wanted_yes rfl rfl t33) (by decide) (.slice A n c) (by simp [go_sem, Act.eval, -Array.getD_eq_getD_getElem?, t35, t33, y0, y1]) (Gr.refl _) rfl
                | 8 =>
                  have ho1 := ho
                  cases ho
                  have t5 : a.tmps.getD 5 undef = .pointer (some ⟨w2.heap.size, 0, none⟩) := hG.old 5 (by decide)
                  have t33 : a.tmps.getD 33 undef = .bool true := hG.dep 4 (by decide) (by decide) 33 rfl
                  exact op_value_3 (w1 := W) ho1 (wanted_yes rfl rfl t33) (by decide) (.pointer (some ⟨w2.heap.size, 1, none⟩)) (by simp [go_sem, Act.eval, -Array.getD_eq_getD_getElem?, t5, t33]) (Gr.refl _) rfl
                | 9 =>
                  have ho1 := ho
                  cases ho
                  have t37 : a.tmps.getD 37 undef = .pointer (some ⟨w2.heap.size, 1, none⟩) := hG.dep 8 (by decide) (by decide) 37 rfl
                  have t33 : a.tmps.getD 33 undef = .bool true := hG.dep 4 (by decide) (by decide) 33 rfl
                  have y0 := (hbW.cell (p := ⟨w2.heap.size, 0, none⟩) hs5).trans hy0
                  have y1 := (hbW.cell (p := ⟨w2.heap.size, 1, none⟩) hs5).trans hy1
                  exact op_value_3 (w1 := W) ho1 (wanted_yes rfl rfl t33) (by decide) (.slice A' n' c') (by simp [go_sem, Act.eval, -Array.getD_eq_getD_getElem?, t37, t33, y0, y1]) (Gr.refl _) rfl
                | 10 =>
                  have ho1 := ho
                  cases ho
                  have t38 : a.tmps.getD 38 undef = .slice A' n' c' := hG.dep 9 (by decide) (by decide) 38 rfl
                  have t33 : a.tmps.getD 33 undef = .bool true := hG.dep 4 (by decide) (by decide) 33 rfl
                  refine op_call_3 ho1 (wanted_yes rfl rfl t33) 30 #[.slice A' n' c'] (by simp [go_sem, Act.eval, -Array.getD_eq_getD_getElem?, t38, t33]) ?_
                  refine (clone_any A' n' c' ls' W (HAT.it.r2.below hbW) HAT.it.e2).mono ?_
                  rintro e W' ⟨v, rfl, ho, hb'⟩
                  exact ⟨_, rfl, hb', (OwnS.new ho hbW.size hb'.size).1, fun _ => (OwnS.new ho hbW.size hb'.size).2⟩
                | 11 =>
                  have ho1 := ho
                  cases ho
                  have t9 : a.tmps.getD 9 undef = .int .i64 x := hG.old 9 (by decide)
                  have t33 : a.tmps.getD 33 undef = .bool true := hG.dep 4 (by decide) (by decide) 33 rfl
                  exact op_value_3 (w1 := W) ho1 (wanted_yes rfl rfl t33) (by decide) (.int .i64 x) (by simp [go_sem, Act.eval, -Array.getD_eq_getD_getElem?, t9, t33]) (Gr.refl _) rfl
                | 12 =>
                  have ho1 := ho
                  cases ho
                  have t40 : a.tmps.getD 40 undef = .int .i64 x := hG.dep 11 (by decide) (by decide) 40 rfl
                  have t33 : a.tmps.getD 33 undef = .bool true := hG.dep 4 (by decide) (by decide) 33 rfl
                  exact op_value_3 (w1 := W.alloc (.cells #[.int .i64 x] 3)) ho1 (wanted_yes rfl rfl t33) (by decide) (.slice (some ⟨W.heap.size, 0, none⟩) 1 1) (by simp [go_sem, Act.eval, -Array.getD_eq_getD_getElem?, t40, t33]) ((Below.refl _ _).alloc (Nat.le_refl _) _) ⟨_, rfl, by simp, blk_cell (blk_new _ _) rfl⟩
                | 13 => exact absurd rfl hiK
                | 14 =>
                  have ho1 := ho
                  cases ho
                  have t36 : a.tmps.getD 36 undef = .slice A n c := hG.dep 7 (by decide) (by decide) 36 rfl
                  obtain ⟨A42, n42, c42, t42, r42, q42⟩ : SlN (ls' ++ [x]) (a.tmps.getD 42 undef) W := hG.dep 13 (by decide) (by decide) 42 rfl
                  have t33 : a.tmps.getD 33 undef = .bool true := hG.dep 4 (by decide) (by decide) 33 rfl
                  exact op_value_3 (w1 := W) ho1 (wanted_yes rfl rfl t33) (by decide) (.agg #[.slice A n c, .slice A42 n42 c42]) (by simp [go_sem, Act.eval, -Array.getD_eq_getD_getElem?, t36, t42, t33]) (Gr.refl _) ⟨_, _, _, rfl, r42, q42⟩
                | q + 15 => exact absurd hiL (by simp)
              · intro o ho a W hbW hG
                have ho1 := ho
                cases ho
                have o39 : OwnS wr.heap.size ls' (a.tmps.getD 39 undef) W := hG.dep 10 (by decide) (by decide) 39 rfl
                obtain ⟨b41, t41, l41, g41⟩ : CelP x (a.tmps.getD 41 undef) W := hG.dep 12 (by decide) (by decide) 41 rfl
                have t33 : a.tmps.getD 33 undef = .bool true := hG.dep 4 (by decide) (by decide) 33 rfl
                obtain ⟨base, hN, hbs, HO⟩ := o39
                refine op_app ho1 (wanted_yes rfl rfl t33) (.tmp 39) (.tmp 41) rfl base _ _ _ b41 rfl t41 HO g41 hbs HLEN.it ?_
                intro v' w' hown hg
                obtain ⟨A, c, hv, hn, _, _, hr⟩ := hown.form3 (by rw [List.length_append]; have := HLEN2.it; simp; omega)
                exact ⟨v', rfl, hg, fun b hb => Nat.le_trans hN (HO.base_le b hb), A, _, c, hv, hr, hn⟩
              · intro a W hbW hD
                have hfr := hD.frame (by decide) [29, 30, 31, 32, 33, 34, 35, 36, 37, 38, 39, 40, 41, 42, 43] (by kernel_rfl)
                have t29 : a.tmps.getD 29 undef = .agg #[.slice A n c, .slice A' n' c'] := hD.sp 0 (by decide) (by decide) 29 rfl
                have t30 : a.tmps.getD 30 undef = .int .i64 x := hD.sp 1 (by decide) (by decide) 30 rfl
                have t31 : a.tmps.getD 31 undef = .bool false := hD.sp 2 (by decide) (by decide) 31 rfl
                have t32 : a.tmps.getD 32 undef = .bool true := hD.sp 3 (by decide) (by decide) 32 rfl
                have t33 : a.tmps.getD 33 undef = .bool true := hD.sp 4 (by decide) (by decide) 33 rfl
                have t34 : a.tmps.getD 34 undef = .func (.func 35) #[] #[.pointer (some ⟨w2.heap.size, 0, none⟩)] := hD.sp 5 (by decide) (by decide) 34 rfl
                have t35 : a.tmps.getD 35 undef = .pointer (some ⟨w2.heap.size, 0, none⟩) := hD.sp 6 (by decide) (by decide) 35 rfl
                have t36 : a.tmps.getD 36 undef = .slice A n c := hD.sp 7 (by decide) (by decide) 36 rfl
                have t37 : a.tmps.getD 37 undef = .pointer (some ⟨w2.heap.size, 1, none⟩) := hD.sp 8 (by decide) (by decide) 37 rfl
                have t38 : a.tmps.getD 38 undef = .slice A' n' c' := hD.sp 9 (by decide) (by decide) 38 rfl
                have t40 : a.tmps.getD 40 undef = .int .i64 x := hD.sp 11 (by decide) (by decide) 40 rfl
                obtain ⟨A43, n43, c43, t43, r43, q43⟩ := hD.sp 14 (by decide) (by decide) 43 rfl
                simp only [List.foldl_cons, List.foldl_nil] at hfr
                rw [t29, t30, t31, t32, t33, t34, t35, t36, t37, t38, t40, t43] at hfr
                generalize a.tmps.getD 39 undef = u39 at hfr
                generalize a.tmps.getD 41 undef = u41 at hfr
                generalize a.tmps.getD 42 undef = u42 at hfr
                rw [hfr]
                clear hfr hD t29 t30 t31 t32 t33 t34 t35 t36 t37 t38 t40 t43
                have HBW := Kp.mk hbW
                clear hbW
                simp only [Act.put, List.setIfInBounds_toArray, List.set_cons_succ, List.set_cons_zero]
                refine wpOps_tail ?_
                simp only [List.drop_succ_cons, List.drop_zero]
                go_wp2_with (go_at_call 35; refine (step_any w2.heap.size A n c A' n' c' vs' ls' A n c A43 n43 c43 vs' (ls' ++ [x]) _ (HAT.it.below HBW.it) (HAT.it.r1.below HBW.it) r43 HAT.it.e1 q43 HM.it).mono ?_; rintro e wp ⟨rfl, hb', hat'⟩; have HAT2 := Kp.mk hat'; have HB2 := Kp.mk (HB.it.trans ((HBW.it.mono (Nat.le_of_lt HS5.it)).trans hb')); clear hb' hat')
                go_wp2
                go_meet
                exact ⟨rfl, _, _, _, _, _, _, _, _, HGO2, HHB, HAT2, HB2⟩
            | true =>
              have HHAS : Kp ((inB vs' x || inB ls' x) = true) := ⟨hh⟩
              have HHB := Kp.mk hh
              clear hh
              go_wp2_with fail
              refine wp_region_sp [.ex (.agg #[.slice A n c, .slice A' n' c']), .ex (.int .i64 x), .ex (.bool true), .ex (.bool false), .ex (.bool false), .any, .any, .any, .any, .any, .any, .any, .any, .any, .any, .any, .any, .ex (.bool false)] (by kernel_rfl) (by kernel_rfl) ?_ ?_
              · intro i o ho a W hbW hG
                match i with
                | 0 =>
                  have ho1 := ho
                  cases ho
                  have t5 : a.tmps.getD 5 undef = .pointer (some ⟨w2.heap.size, 0, none⟩) := hG.old 5 (by decide)
                  have y0 := (hbW.cell (p := ⟨w2.heap.size, 0, none⟩) hs5).trans hy0
                  have y1 := (hbW.cell (p := ⟨w2.heap.size, 1, none⟩) hs5).trans hy1
                  exact op_value_g (w1 := W) ho1 (wanted_none rfl) (.agg #[.slice A n c, .slice A' n' c']) (by simp [go_sem, Act.eval, -Array.getD_eq_getD_getElem?, t5, y0, y1]) (Gr.refl _) rfl
                | 1 =>
                  have ho1 := ho
                  cases ho
                  have t9 : a.tmps.getD 9 undef = .int .i64 x := hG.old 9 (by decide)
                  exact op_value_g (w1 := W) ho1 (wanted_none rfl) (.int .i64 x) (by simp [go_sem, Act.eval, -Array.getD_eq_getD_getElem?, t9]) (Gr.refl _) rfl
                | 2 =>
                  have ho1 := ho
                  cases ho
                  have t29 : a.tmps.getD 29 undef = .agg #[.slice A n c, .slice A' n' c'] := hG.dep 0 (by decide) 29 rfl
                  have t30 : a.tmps.getD 30 undef = .int .i64 x := hG.dep 1 (by decide) 30 rfl
                  refine op_call_g ho1 (wanted_none rfl) 33 #[.agg #[.slice A n c, .slice A' n' c'], .int .i64 x] (by simp [go_sem, Act.eval, -Array.getD_eq_getD_getElem?, t29, t30]) ?_
                  refine (has_any _ _ _ _ _ _ vs' ls' W (HAT.it.r1.below hbW) (HAT.it.r2.below hbW) x).mono ?_
                  rintro e W' ⟨rfl, hb'⟩
                  exact ⟨_, rfl, hb', by show Value.bool _ = _; rw [HHAS.it]⟩
                | 3 =>
                  have ho1 := ho
                  cases ho
                  have t31 : a.tmps.getD 31 undef = .bool true := hG.dep 2 (by decide) 31 rfl
                  exact op_value_g (w1 := W) ho1 (wanted_none rfl) (.bool false) (by simp [go_sem, Act.eval, -Array.getD_eq_getD_getElem?, t31]) (Gr.refl _) rfl
                | 4 =>
                  have ho1 := ho
                  cases ho
                  have t32 : a.tmps.getD 32 undef = .bool false := hG.dep 3 (by decide) 32 rfl
                  exact op_value_g (w1 := W) ho1 (wanted_none rfl) (.bool false) (by simp [go_sem, Act.eval, -Array.getD_eq_getD_getElem?, t32]) (Gr.refl _) rfl
                | 5 =>
                  have ho1 := ho
                  cases ho
                  have t6 : a.tmps.getD 6 undef = .func (.func 35) #[] #[.pointer (some ⟨w2.heap.size, 0, none⟩)] := hG.old 6 (by decide)
                  have t33 : a.tmps.getD 33 undef = .bool false := hG.dep 4 (by decide) 33 rfl
                  exact op_idle ho1 (wanted_no rfl rfl t33) (Gr.refl _) trivial
                | 6 =>
                  have ho1 := ho
                  cases ho
                  have t5 : a.tmps.getD 5 undef = .pointer (some ⟨w2.heap.size, 0, none⟩) := hG.old 5 (by decide)
                  have t33 : a.tmps.getD 33 undef = .bool false := hG.dep 4 (by decide) 33 rfl
                  exact op_idle ho1 (wanted_no rfl rfl t33) (Gr.refl _) trivial
                | 7 =>
                  have ho1 := ho
                  cases ho
                  have t33 : a.tmps.getD 33 undef = .bool false := hG.dep 4 (by decide) 33 rfl
                  exact op_idle ho1 (wanted_no rfl rfl t33) (Gr.refl _) trivial
                | 8 =>
                  have ho1 := ho
                  cases ho
                  have t5 : a.tmps.getD 5 undef = .pointer (some ⟨w2.heap.size, 0, none⟩) := hG.old 5 (by decide)
                  have t33 : a.tmps.getD 33 undef = .bool false := hG.dep 4 (by decide) 33 rfl
                  exact op_idle ho1 (wanted_no rfl rfl t33) (Gr.refl _) trivial
                | 9 =>
                  have ho1 := ho
                  cases ho
                  have t33 : a.tmps.getD 33 undef = .bool false := hG.dep 4 (by decide) 33 rfl
                  exact op_idle ho1 (wanted_no rfl rfl t33) (Gr.refl _) trivial
                | 10 =>
                  have ho1 := ho
                  cases ho
                  have t33 : a.tmps.getD 33 undef = .bool false := hG.dep 4 (by decide) 33 rfl
                  exact op_idle ho1 (wanted_no rfl rfl t33) (Gr.refl _) trivial
                | 11 =>
                  have ho1 := ho
                  cases ho
                  have t9 : a.tmps.getD 9 undef = .int .i64 x := hG.old 9 (by decide)
                  have t33 : a.tmps.getD 33 undef = .bool false := hG.dep 4 (by decide) 33 rfl
                  exact op_idle ho1 (wanted_no rfl rfl t33) (Gr.refl _) trivial
                | 12 =>
                  have ho1 := ho
                  cases ho
                  have t33 : a.tmps.getD 33 undef = .bool false := hG.dep 4 (by decide) 33 rfl
                  exact op_idle ho1 (wanted_no rfl rfl t33) (Gr.refl _) trivial
                | 13 =>
                  have ho1 := ho
                  cases ho
                  have t33 : a.tmps.getD 33 undef = .bool false := hG.dep 4 (by decide) 33 rfl
                  exact op_idle ho1 (wanted_no rfl rfl t33) (Gr.refl _) trivial
                | 14 =>
                  have ho1 := ho
                  cases ho
                  have t33 : a.tmps.getD 33 undef = .bool false := hG.dep 4 (by decide) 33 rfl
                  exact op_idle ho1 (wanted_no rfl rfl t33) (Gr.refl _) trivial
                | 15 =>
                  have ho1 := ho
                  cases ho
                  have t33 : a.tmps.getD 33 undef = .bool false := hG.dep 4 (by decide) 33 rfl
                  exact op_idle ho1 (wanted_no rfl rfl t33) (Gr.refl _) trivial
                | 16 =>
                  have ho1 := ho
                  cases ho
                  have t33 : a.tmps.getD 33 undef = .bool false := hG.dep 4 (by decide) 33 rfl
                  exact op_idle ho1 (wanted_no rfl rfl t33) (Gr.refl _) trivial
                | 17 =>
                  have ho1 := ho
                  cases ho
                  have t33 : a.tmps.getD 33 undef = .bool false := hG.dep 4 (by decide) 33 rfl
                  exact op_value_g (w1 := W) ho1 (wanted_none rfl) (.bool false) (by simp [go_sem, Act.eval, -Array.getD_eq_getD_getElem?, t33]) (Gr.refl _) rfl
                | q + 18 => cases ho
              · intro a W hbW hD
                have hfr := hD.frame [29, 30, 31, 32, 33, 34, 35, 36, 37, 38, 39, 40, 41, 42, 43, 44, 45, 46] (by kernel_rfl)
                have t29 : a.tmps.getD 29 undef = .agg #[.slice A n c, .slice A' n' c'] := hD.sp 0 (by decide) 29 rfl
                have t30 : a.tmps.getD 30 undef = .int .i64 x := hD.sp 1 (by decide) 30 rfl
                have t31 : a.tmps.getD 31 undef = .bool true := hD.sp 2 (by decide) 31 rfl
                have t32 : a.tmps.getD 32 undef = .bool false := hD.sp 3 (by decide) 32 rfl
                have t33 : a.tmps.getD 33 undef = .bool false := hD.sp 4 (by decide) 33 rfl
                have t46 : a.tmps.getD 46 undef = .bool false := hD.sp 17 (by decide) 46 rfl
                simp only [List.foldl_cons, List.foldl_nil] at hfr
                rw [t29, t30, t31, t32, t33, t46] at hfr
                generalize a.tmps.getD 34 undef = u34 at hfr
                generalize a.tmps.getD 35 undef = u35 at hfr
                generalize a.tmps.getD 36 undef = u36 at hfr
                generalize a.tmps.getD 37 undef = u37 at hfr
                generalize a.tmps.getD 38 undef = u38 at hfr
                generalize a.tmps.getD 39 undef = u39 at hfr
                generalize a.tmps.getD 40 undef = u40 at hfr
                generalize a.tmps.getD 41 undef = u41 at hfr
                generalize a.tmps.getD 42 undef = u42 at hfr
                generalize a.tmps.getD 43 undef = u43 at hfr
                generalize a.tmps.getD 44 undef = u44 at hfr
                generalize a.tmps.getD 45 undef = u45 at hfr
                rw [hfr]
                clear hfr hD t29 t30 t31 t32 t33 t46
                have HBW := Kp.mk hbW
                clear hbW
                simp only [Act.put, List.setIfInBounds_toArray, List.set_cons_succ, List.set_cons_zero]
                obtain ⟨wq, rfl⟩ : ∃ wn : World, wn = W := ⟨_, rfl⟩
                have HAT2 := Kp.mk (HAT.it.below HBW.it)
                have HB2 := Kp.mk (HB.it.trans (HBW.it.mono (Nat.le_of_lt HS5.it)))
                go_wp2
                go_meet
                exact ⟨rfl, _, _, _, _, _, _, _, _, HGO, HHB, HAT2, HB2⟩
          case rest =>
            clear hy0 hy1 hz2 hz3 hs5 hs6
            clear HS5 HAT HB HGO hcell
            obtain ⟨rfl, A, n, c, A', n', c', vs', ls', HGO, HHB, HAT, HB⟩ := hcut
            have hs5 : w2.heap.size < wc.heap.size := (Array.getElem?_eq_some_iff.1 HAT.it.box).1
            have hy0 : wc.cell? ⟨w2.heap.size, 0, none⟩ = some (.slice A n c) := blk_cell HAT.it.box rfl
            have hy1 : wc.cell? ⟨w2.heap.size, 1, none⟩ = some (.slice A' n' c') := blk_cell HAT.it.box rfl
            have hz2 := (HB.it.cell (p := ⟨w.heap.size + 1, 0, none⟩) hs2).trans Z2.it
            have hz3 := (HB.it.cell (p := ⟨w.heap.size + 1, 1, none⟩) hs2).trans Z3.it
            have HS5 := Kp.mk hs5
            have hs6 : w.heap.size + 1 < wc.heap.size := by omega
            cases hv : inB vs' x with
            | true =>
              have HV2 := Kp.mk hv
              have HGO3 := Kp.mk (HGO.it.have HX.it.symm hv)
              clear hv
              go_wp2_with fail
              refine wp_region_sp [.ex (.agg #[.slice A n c, .slice A' n' c']), .ex (.int .i64 x), .ex (.bool true), .ex (.bool false), .ex (.bool false), .any, .any, .any, .any, .any, .any, .any, .any, .any, .any, .any, .any, .any, .any, .any, .ex (.bool false)] (by kernel_rfl) (by kernel_rfl) ?_ ?_
              · intro i o ho a W hbW hG
                match i with
                | 0 =>
                  have ho1 := ho
                  cases ho
                  have t5 : a.tmps.getD 5 undef = .pointer (some ⟨w2.heap.size, 0, none⟩) := hG.old 5 (by decide)
                  have y0 := (hbW.cell (p := ⟨w2.heap.size, 0, none⟩) hs5).trans hy0
                  have y1 := (hbW.cell (p := ⟨w2.heap.size, 1, none⟩) hs5).trans hy1
                  exact op_value_g (w1 := W) ho1 (wanted_none rfl) (.agg #[.slice A n c, .slice A' n' c']) (by simp [go_sem, Act.eval, -Array.getD_eq_getD_getElem?, t5, y0, y1]) (Gr.refl _) rfl
                | 1 =>
                  have ho1 := ho
                  cases ho
                  have t9 : a.tmps.getD 9 undef = .int .i64 x := hG.old 9 (by decide)
                  exact op_value_g (w1 := W) ho1 (wanted_none rfl) (.int .i64 x) (by simp [go_sem, Act.eval, -Array.getD_eq_getD_getElem?, t9]) (Gr.refl _) rfl
                | 2 =>
                  have ho1 := ho
                  cases ho
                  have t47 : a.tmps.getD 47 undef = .agg #[.slice A n c, .slice A' n' c'] := hG.dep 0 (by decide) 47 rfl
                  have t48 : a.tmps.getD 48 undef = .int .i64 x := hG.dep 1 (by decide) 48 rfl
                  refine op_call_g ho1 (wanted_none rfl) 23 #[.agg #[.slice A n c, .slice A' n' c'], .int .i64 x] (by simp [go_sem, Act.eval, -Array.getD_eq_getD_getElem?, t47, t48]) ?_
                  refine (votes_any _ _ _ _ _ _ vs' W (HAT.it.r1.below hbW) x).mono ?_
                  rintro e W' ⟨rfl, hb'⟩
                  exact ⟨_, rfl, hb', by show Value.bool _ = _; rw [HV2.it]⟩
                | 3 =>
                  have ho1 := ho
                  cases ho
                  have t49 : a.tmps.getD 49 undef = .bool true := hG.dep 2 (by decide) 49 rfl
                  exact op_value_g (w1 := W) ho1 (wanted_none rfl) (.bool false) (by simp [go_sem, Act.eval, -Array.getD_eq_getD_getElem?, t49]) (Gr.refl _) rfl
                | 4 =>
                  have ho1 := ho
                  cases ho
                  have t50 : a.tmps.getD 50 undef = .bool false := hG.dep 3 (by decide) 50 rfl
                  exact op_value_g (w1 := W) ho1 (wanted_none rfl) (.bool false) (by simp [go_sem, Act.eval, -Array.getD_eq_getD_getElem?, t50]) (Gr.refl _) rfl
                | 5 =>
                  have ho1 := ho
                  cases ho
                  have t6 : a.tmps.getD 6 undef = .func (.func 35) #[] #[.pointer (some ⟨w2.heap.size, 0, none⟩)] := hG.old 6 (by decide)
                  have t51 : a.tmps.getD 51 undef = .bool false := hG.dep 4 (by decide) 51 rfl
                  exact op_idle ho1 (wanted_no rfl rfl t51) (Gr.refl _) trivial
                | 6 =>
                  have ho1 := ho
                  cases ho
                  have t5 : a.tmps.getD 5 undef = .pointer (some ⟨w2.heap.size, 0, none⟩) := hG.old 5 (by decide)
                  have t51 : a.tmps.getD 51 undef = .bool false := hG.dep 4 (by decide) 51 rfl
                  exact op_idle ho1 (wanted_no rfl rfl t51) (Gr.refl _) trivial
                | 7 =>
                  have ho1 := ho
                  cases ho
                  have t51 : a.tmps.getD 51 undef = .bool false := hG.dep 4 (by decide) 51 rfl
                  exact op_idle ho1 (wanted_no rfl rfl t51) (Gr.refl _) trivial
                | 8 =>
                  have ho1 := ho
                  cases ho
                  have t51 : a.tmps.getD 51 undef = .bool false := hG.dep 4 (by decide) 51 rfl
                  exact op_idle ho1 (wanted_no rfl rfl t51) (Gr.refl _) trivial
                | 9 =>
                  have ho1 := ho
                  cases ho
                  have t9 : a.tmps.getD 9 undef = .int .i64 x := hG.old 9 (by decide)
                  have t51 : a.tmps.getD 51 undef = .bool false := hG.dep 4 (by decide) 51 rfl
                  exact op_idle ho1 (wanted_no rfl rfl t51) (Gr.refl _) trivial
                | 10 =>
                  have ho1 := ho
                  cases ho
                  have t51 : a.tmps.getD 51 undef = .bool false := hG.dep 4 (by decide) 51 rfl
                  exact op_idle ho1 (wanted_no rfl rfl t51) (Gr.refl _) trivial
                | 11 =>
                  have ho1 := ho
                  cases ho
                  have t51 : a.tmps.getD 51 undef = .bool false := hG.dep 4 (by decide) 51 rfl
                  exact op_idle ho1 (wanted_no rfl rfl t51) (Gr.refl _) trivial
                | 12 =>
                  have ho1 := ho
                  cases ho
                  have t7 : a.tmps.getD 7 undef = .func (.func 36) #[] #[] := hG.old 7 (by decide)
                  have t51 : a.tmps.getD 51 undef = .bool false := hG.dep 4 (by decide) 51 rfl
                  exact op_idle ho1 (wanted_no rfl rfl t51) (Gr.refl _) trivial
                | 13 =>
                  have ho1 := ho
                  cases ho
                  have t5 : a.tmps.getD 5 undef = .pointer (some ⟨w2.heap.size, 0, none⟩) := hG.old 5 (by decide)
                  have t51 : a.tmps.getD 51 undef = .bool false := hG.dep 4 (by decide) 51 rfl
                  exact op_idle ho1 (wanted_no rfl rfl t51) (Gr.refl _) trivial
                | 14 =>
                  have ho1 := ho
                  cases ho
                  have t51 : a.tmps.getD 51 undef = .bool false := hG.dep 4 (by decide) 51 rfl
                  exact op_idle ho1 (wanted_no rfl rfl t51) (Gr.refl _) trivial
                | 15 =>
                  have ho1 := ho
                  cases ho
                  have t9 : a.tmps.getD 9 undef = .int .i64 x := hG.old 9 (by decide)
                  have t51 : a.tmps.getD 51 undef = .bool false := hG.dep 4 (by decide) 51 rfl
                  exact op_idle ho1 (wanted_no rfl rfl t51) (Gr.refl _) trivial
                | 16 =>
                  have ho1 := ho
                  cases ho
                  have t51 : a.tmps.getD 51 undef = .bool false := hG.dep 4 (by decide) 51 rfl
                  exact op_idle ho1 (wanted_no rfl rfl t51) (Gr.refl _) trivial
                | 17 =>
                  have ho1 := ho
                  cases ho
                  have t51 : a.tmps.getD 51 undef = .bool false := hG.dep 4 (by decide) 51 rfl
                  exact op_idle ho1 (wanted_no rfl rfl t51) (Gr.refl _) trivial
                | 18 =>
                  have ho1 := ho
                  cases ho
                  have t51 : a.tmps.getD 51 undef = .bool false := hG.dep 4 (by decide) 51 rfl
                  exact op_idle ho1 (wanted_no rfl rfl t51) (Gr.refl _) trivial
                | 19 =>
                  have ho1 := ho
                  cases ho
                  have t51 : a.tmps.getD 51 undef = .bool false := hG.dep 4 (by decide) 51 rfl
                  exact op_idle ho1 (wanted_no rfl rfl t51) (Gr.refl _) trivial
                | 20 =>
                  have ho1 := ho
                  cases ho
                  have t51 : a.tmps.getD 51 undef = .bool false := hG.dep 4 (by decide) 51 rfl
                  exact op_value_g (w1 := W) ho1 (wanted_none rfl) (.bool false) (by simp [go_sem, Act.eval, -Array.getD_eq_getD_getElem?, t51]) (Gr.refl _) rfl
                | q + 21 => cases ho
              · intro a W hbW hD
                have hfr := hD.frame [47, 48, 49, 50, 51, 52, 53, 54, 55, 56, 57, 58, 59, 60, 61, 62, 63, 64, 65, 66, 67] (by kernel_rfl)
                have t47 : a.tmps.getD 47 undef = .agg #[.slice A n c, .slice A' n' c'] := hD.sp 0 (by decide) 47 rfl
                have t48 : a.tmps.getD 48 undef = .int .i64 x := hD.sp 1 (by decide) 48 rfl
                have t49 : a.tmps.getD 49 undef = .bool true := hD.sp 2 (by decide) 49 rfl
                have t50 : a.tmps.getD 50 undef = .bool false := hD.sp 3 (by decide) 50 rfl
                have t51 : a.tmps.getD 51 undef = .bool false := hD.sp 4 (by decide) 51 rfl
                have t67 : a.tmps.getD 67 undef = .bool false := hD.sp 20 (by decide) 67 rfl
                simp only [List.foldl_cons, List.foldl_nil] at hfr
                rw [t47, t48, t49, t50, t51, t67] at hfr
                generalize a.tmps.getD 52 undef = u52 at hfr
                generalize a.tmps.getD 53 undef = u53 at hfr
                generalize a.tmps.getD 54 undef = u54 at hfr
                generalize a.tmps.getD 55 undef = u55 at hfr
                generalize a.tmps.getD 56 undef = u56 at hfr
                generalize a.tmps.getD 57 undef = u57 at hfr
                generalize a.tmps.getD 58 undef = u58 at hfr
                generalize a.tmps.getD 59 undef = u59 at hfr
                generalize a.tmps.getD 60 undef = u60 at hfr
                generalize a.tmps.getD 61 undef = u61 at hfr
                generalize a.tmps.getD 62 undef = u62 at hfr
                generalize a.tmps.getD 63 undef = u63 at hfr
                generalize a.tmps.getD 64 undef = u64 at hfr
                generalize a.tmps.getD 65 undef = u65 at hfr
                generalize a.tmps.getD 66 undef = u66 at hfr
                rw [hfr]
                clear hfr hD t47 t48 t49 t50 t51 t67
                have HBW := Kp.mk hbW
                clear hbW
                simp only [Act.put, List.setIfInBounds_toArray, List.set_cons_succ, List.set_cons_zero]
                obtain ⟨wq, rfl⟩ : ∃ wn : World, wn = W := ⟨_, rfl⟩
                have HAT2 := Kp.mk (HAT.it.below HBW.it)
                have HB2 := Kp.mk (HB.it.trans (HBW.it.mono (Nat.le_of_lt HS5.it)))
                go_wp2
                go_roundg (n3 - (k + 1))
                case measure => omega
                case rel => exact ⟨k + 1, _, _, _, _, _, _, _, _, by omega, by omega, by go_num, ⟨HGO3.it⟩, HAT2, HB2⟩
            | false =>
              have HV2 := Kp.mk hv
              have HL2 : Kp (inB ls' x = true) := ⟨by have := HHB.it; unfold hasB at this; rw [hv] at this; simpa using this⟩
              obtain ⟨g5, g6⟩ := HGO.it.up HX.it.symm hv HL2.it
              have HGOOD := Kp.mk HGO.it.1
              have HGO3 := Kp.mk g5
              have HM2 := Kp.mk g6
              clear hv g5 g6
              have HLEN : Kp ((vs').length + 1 ≤ 17592186044416) := ⟨by have := HAT.it.r1.le; omega⟩
              have HLEN2 : Kp ((vs').length ≤ 1000) := ⟨good_le' HGOOD.it⟩
              go_wp2_with fail
              refine wp_region_plan_sp ⟨11, 8, 16, [8, 10], 18, 55⟩ [.ex (.agg #[.slice A n c, .slice A' n' c']), .ex (.int .i64 x), .ex (.bool false), .ex (.bool true), .ex (.bool true), .ex (.func (.func 35) #[] #[.pointer (some ⟨w2.heap.size, 0, none⟩)]), .ex (.pointer (some ⟨w2.heap.size, 0, none⟩)), .ex (.slice A n c), .own wc.heap.size vs', .ex (.int .i64 x), .cel x, .sln (vs' ++ [x]), .ex (.func (.func 36) #[] #[]), .ex (.pointer (some ⟨w2.heap.size, 1, none⟩)), .ex (.slice A' n' c'), .ex (.int .i64 x), .own wc.heap.size (ls'.filter (fun z => z != x)), .ron (vs' ++ [x]) (ls'.filter (fun z => z != x))] (by kernel_rfl) (by kernel_rfl) (by simp [SpW.isOwn]) (by simp [SpW.isOwn, SpW.isNo]) (by kernel_rfl) (by kernel_rfl) (by kernel_rfl) ?_ ?_ ?_
              · intro i o ho hiL hiK a W hbW hG
                match i with
                | 0 =>
                  have ho1 := ho
                  cases ho
                  have t5 : a.tmps.getD 5 undef = .pointer (some ⟨w2.heap.size, 0, none⟩) := hG.old 5 (by decide)
                  have y0 := (hbW.cell (p := ⟨w2.heap.size, 0, none⟩) hs5).trans hy0
                  have y1 := (hbW.cell (p := ⟨w2.heap.size, 1, none⟩) hs5).trans hy1
                  exact op_value_3 (w1 := W) ho1 (wanted_none rfl) (by decide) (.agg #[.slice A n c, .slice A' n' c']) (by simp [go_sem, Act.eval, -Array.getD_eq_getD_getElem?, t5, y0, y1]) (Gr.refl _) rfl
                | 1 =>
                  have ho1 := ho
                  cases ho
                  have t9 : a.tmps.getD 9 undef = .int .i64 x := hG.old 9 (by decide)
                  exact op_value_3 (w1 := W) ho1 (wanted_none rfl) (by decide) (.int .i64 x) (by simp [go_sem, Act.eval, -Array.getD_eq_getD_getElem?, t9]) (Gr.refl _) rfl
                | 2 =>
                  have ho1 := ho
                  cases ho
                  have t47 : a.tmps.getD 47 undef = .agg #[.slice A n c, .slice A' n' c'] := hG.dep 0 (by decide) (by decide) 47 rfl
                  have t48 : a.tmps.getD 48 undef = .int .i64 x := hG.dep 1 (by decide) (by decide) 48 rfl
                  refine op_call_3 ho1 (wanted_none rfl) 23 #[.agg #[.slice A n c, .slice A' n' c'], .int .i64 x] (by simp [go_sem, Act.eval, -Array.getD_eq_getD_getElem?, t47, t48]) ?_
                  refine (votes_any _ _ _ _ _ _ vs' W (HAT.it.r1.below hbW) x).mono ?_
                  rintro e W' ⟨rfl, hb'⟩
                  exact ⟨_, rfl, hb', by show Value.bool _ = _; rw [HV2.it], fun h => absurd h (by decide)⟩
                | 3 =>
                  have ho1 := ho
                  cases ho
                  have t49 : a.tmps.getD 49 undef = .bool false := hG.dep 2 (by decide) (by decide) 49 rfl
                  exact op_value_3 (w1 := W) ho1 (wanted_none rfl) (by decide) (.bool true) (by simp [go_sem, Act.eval, -Array.getD_eq_getD_getElem?, t49]) (Gr.refl _) rfl
                | 4 =>
                  have ho1 := ho
                  cases ho
                  have t50 : a.tmps.getD 50 undef = .bool true := hG.dep 3 (by decide) (by decide) 50 rfl
                  exact op_value_3 (w1 := W) ho1 (wanted_none rfl) (by decide) (.bool true) (by simp [go_sem, Act.eval, -Array.getD_eq_getD_getElem?, t50]) (Gr.refl _) rfl
                | 5 =>
                  have ho1 := ho
                  cases ho
                  have t6 : a.tmps.getD 6 undef = .func (.func 35) #[] #[.pointer (some ⟨w2.heap.size, 0, none⟩)] := hG.old 6 (by decide)
                  have t51 : a.tmps.getD 51 undef = .bool true := hG.dep 4 (by decide) (by decide) 51 rfl
                  exact op_value_3 (w1 := W) ho1 (wanted_yes rfl rfl t51) (by decide) (.func (.func 35) #[] #[.pointer (some ⟨w2.heap.size, 0, none⟩)]) (by simp [go_sem, Act.eval, -Array.getD_eq_getD_getElem?, t6, t51]) (Gr.refl _) rfl
                | 6 =>
                  have ho1 := ho
                  cases ho
                  have t5 : a.tmps.getD 5 undef = .pointer (some ⟨w2.heap.size, 0, none⟩) := hG.old 5 (by decide)
                  have t51 : a.tmps.getD 51 undef = .bool true := hG.dep 4 (by decide) (by decide) 51 rfl
                  exact op_value_3 (w1 := W) ho1 (wanted_yes rfl rfl t51) (by decide) (.pointer (some ⟨w2.heap.size, 0, none⟩)) (by simp [go_sem, Act.eval, -Array.getD_eq_getD_getElem?, t5, t51]) (Gr.refl _) rfl
                | 7 =>
                  have ho1 := ho
                  cases ho
                  have t53 : a.tmps.getD 53 undef = .pointer (some ⟨w2.heap.size, 0, none⟩) := hG.dep 6 (by decide) (by decide) 53 rfl
                  have t51 : a.tmps.getD 51 undef = .bool true := hG.dep 4 (by decide) (by decide) 51 rfl
                  have y0 := (hbW.cell (p := ⟨w2.heap.size, 0, none⟩) hs5).trans hy0
                  have y1 := (hbW.cell (p := ⟨w2.heap.size, 1, none⟩) hs5).trans hy1
                  exact op_value_3 (w1 := W) ho1 (wanted_yes rfl rfl t51) (by decide) (.slice A n c) (by simp [go_sem, Act.eval, -Array.getD_eq_getD_getElem?, t53, t51, y0, y1]) (Gr.refl _) rfl
                | 8 =>
                  have ho1 := ho
                  cases ho
                  have t54 : a.tmps.getD 54 undef = .slice A n c := hG.dep 7 (by decide) (by decide) 54 rfl
                  have t51 : a.tmps.getD 51 undef = .bool true := hG.dep 4 (by decide) (by decide) 51 rfl
                  refine op_call_3 ho1 (wanted_yes rfl rfl t51) 30 #[.slice A n c] (by simp [go_sem, Act.eval, -Array.getD_eq_getD_getElem?, t54, t51]) ?_
                  refine (clone_any A n c vs' W (HAT.it.r1.below hbW) HAT.it.e1).mono ?_
                  rintro e W' ⟨v, rfl, ho, hb'⟩
                  exact ⟨_, rfl, hb', (OwnS.new ho hbW.size hb'.size).1, fun _ => (OwnS.new ho hbW.size hb'.size).2⟩
                | 9 =>
                  have ho1 := ho
                  cases ho
                  have t9 : a.tmps.getD 9 undef = .int .i64 x := hG.old 9 (by decide)
                  have t51 : a.tmps.getD 51 undef = .bool true := hG.dep 4 (by decide) (by decide) 51 rfl
                  exact op_value_3 (w1 := W) ho1 (wanted_yes rfl rfl t51) (by decide) (.int .i64 x) (by simp [go_sem, Act.eval, -Array.getD_eq_getD_getElem?, t9, t51]) (Gr.refl _) rfl
                | 10 =>
                  have ho1 := ho
                  cases ho
                  have t56 : a.tmps.getD 56 undef = .int .i64 x := hG.dep 9 (by decide) (by decide) 56 rfl
                  have t51 : a.tmps.getD 51 undef = .bool true := hG.dep 4 (by decide) (by decide) 51 rfl
                  exact op_value_3 (w1 := W.alloc (.cells #[.int .i64 x] 3)) ho1 (wanted_yes rfl rfl t51) (by decide) (.slice (some ⟨W.heap.size, 0, none⟩) 1 1) (by simp [go_sem, Act.eval, -Array.getD_eq_getD_getElem?, t56, t51]) ((Below.refl _ _).alloc (Nat.le_refl _) _) ⟨_, rfl, by simp, blk_cell (blk_new _ _) rfl⟩
                | 11 => exact absurd rfl hiK
                | 12 =>
                  have ho1 := ho
                  cases ho
                  have t7 : a.tmps.getD 7 undef = .func (.func 36) #[] #[] := hG.old 7 (by decide)
                  have t51 : a.tmps.getD 51 undef = .bool true := hG.dep 4 (by decide) (by decide) 51 rfl
                  exact op_value_3 (w1 := W) ho1 (wanted_yes rfl rfl t51) (by decide) (.func (.func 36) #[] #[]) (by simp [go_sem, Act.eval, -Array.getD_eq_getD_getElem?, t7, t51]) (Gr.refl _) rfl
                | 13 =>
                  have ho1 := ho
                  cases ho
                  have t5 : a.tmps.getD 5 undef = .pointer (some ⟨w2.heap.size, 0, none⟩) := hG.old 5 (by decide)
                  have t51 : a.tmps.getD 51 undef = .bool true := hG.dep 4 (by decide) (by decide) 51 rfl
                  exact op_value_3 (w1 := W) ho1 (wanted_yes rfl rfl t51) (by decide) (.pointer (some ⟨w2.heap.size, 1, none⟩)) (by simp [go_sem, Act.eval, -Array.getD_eq_getD_getElem?, t5, t51]) (Gr.refl _) rfl
                | 14 =>
                  have ho1 := ho
                  cases ho
                  have t60 : a.tmps.getD 60 undef = .pointer (some ⟨w2.heap.size, 1, none⟩) := hG.dep 13 (by decide) (by decide) 60 rfl
                  have t51 : a.tmps.getD 51 undef = .bool true := hG.dep 4 (by decide) (by decide) 51 rfl
                  have y0 := (hbW.cell (p := ⟨w2.heap.size, 0, none⟩) hs5).trans hy0
                  have y1 := (hbW.cell (p := ⟨w2.heap.size, 1, none⟩) hs5).trans hy1
                  exact op_value_3 (w1 := W) ho1 (wanted_yes rfl rfl t51) (by decide) (.slice A' n' c') (by simp [go_sem, Act.eval, -Array.getD_eq_getD_getElem?, t60, t51, y0, y1]) (Gr.refl _) rfl
                | 15 =>
                  have ho1 := ho
                  cases ho
                  have t9 : a.tmps.getD 9 undef = .int .i64 x := hG.old 9 (by decide)
                  have t51 : a.tmps.getD 51 undef = .bool true := hG.dep 4 (by decide) (by decide) 51 rfl
                  exact op_value_3 (w1 := W) ho1 (wanted_yes rfl rfl t51) (by decide) (.int .i64 x) (by simp [go_sem, Act.eval, -Array.getD_eq_getD_getElem?, t9, t51]) (Gr.refl _) rfl
                | 16 =>
                  have ho1 := ho
                  cases ho
                  have t59 : a.tmps.getD 59 undef = .func (.func 36) #[] #[] := hG.dep 12 (by decide) (by decide) 59 rfl
                  have t61 : a.tmps.getD 61 undef = .slice A' n' c' := hG.dep 14 (by decide) (by decide) 61 rfl
                  have t62 : a.tmps.getD 62 undef = .int .i64 x := hG.dep 15 (by decide) (by decide) 62 rfl
                  have t51 : a.tmps.getD 51 undef = .bool true := hG.dep 4 (by decide) (by decide) 51 rfl
                  refine op_call_3 ho1 (wanted_yes rfl rfl t51) 36 #[.slice A' n' c', .int .i64 x] (by simp [go_sem, Act.eval, -Array.getD_eq_getD_getElem?, t59, t61, t62, t51]) ?_
                  refine (drop_any A' n' c' ls' x W (HAT.it.r2.below hbW) HAT.it.e2).mono ?_
                  rintro e W' ⟨v, rfl, ho, hb'⟩
                  exact ⟨_, rfl, hb', (OwnS.new ho hbW.size hb'.size).1, fun _ => (OwnS.new ho hbW.size hb'.size).2⟩
                | 17 =>
                  have ho1 := ho
                  cases ho
                  obtain ⟨A58, n58, c58, t58, r58, q58⟩ : SlN (vs' ++ [x]) (a.tmps.getD 58 undef) W := hG.dep 11 (by decide) (by decide) 58 rfl
                  have o63 : OwnS wc.heap.size (ls'.filter (fun z => z != x)) (a.tmps.getD 63 undef) W := hG.dep 16 (by decide) (by decide) 63 rfl
                  have t51 : a.tmps.getD 51 undef = .bool true := hG.dep 4 (by decide) (by decide) 51 rfl
                  obtain ⟨A63, n63, c63, t63, r63, q63⟩ := o63.rd (Nat.le_trans (Nat.mul_le_mul_right 8 (List.length_filter_le _ _)) HAT.it.r2.le)
                  exact op_value_3 (w1 := W) ho1 (wanted_yes rfl rfl t51) (by decide) (.agg #[.slice A58 n58 c58, .slice A63 n63 c63]) (by simp [go_sem, Act.eval, -Array.getD_eq_getD_getElem?, t58, t51, t63]) (Gr.refl _) ⟨_, _, _, _, _, _, rfl, r58, r63, q58, q63⟩
                | q + 18 => exact absurd hiL (by simp)
              · intro o ho a W hbW hG
                have ho1 := ho
                cases ho
                have o55 : OwnS wc.heap.size vs' (a.tmps.getD 55 undef) W := hG.dep 8 (by decide) (by decide) 55 rfl
                obtain ⟨b57, t57, l57, g57⟩ : CelP x (a.tmps.getD 57 undef) W := hG.dep 10 (by decide) (by decide) 57 rfl
                have t51 : a.tmps.getD 51 undef = .bool true := hG.dep 4 (by decide) (by decide) 51 rfl
                obtain ⟨base, hN, hbs, HO⟩ := o55
                refine op_app ho1 (wanted_yes rfl rfl t51) (.tmp 55) (.tmp 57) rfl base _ _ _ b57 rfl t57 HO g57 hbs HLEN.it ?_
                intro v' w' hown hg
                obtain ⟨A, c, hv, hn, _, _, hr⟩ := hown.form3 (by rw [List.length_append]; have := HLEN2.it; simp; omega)
                exact ⟨v', rfl, hg, fun b hb => Nat.le_trans hN (HO.base_le b hb), A, _, c, hv, hr, hn⟩
              · intro a W hbW hD
                have hfr := hD.frame (by decide) [47, 48, 49, 50, 51, 52, 53, 54, 55, 56, 57, 58, 59, 60, 61, 62, 63, 64] (by kernel_rfl)
                have t47 : a.tmps.getD 47 undef = .agg #[.slice A n c, .slice A' n' c'] := hD.sp 0 (by decide) (by decide) 47 rfl
                have t48 : a.tmps.getD 48 undef = .int .i64 x := hD.sp 1 (by decide) (by decide) 48 rfl
                have t49 : a.tmps.getD 49 undef = .bool false := hD.sp 2 (by decide) (by decide) 49 rfl
                have t50 : a.tmps.getD 50 undef = .bool true := hD.sp 3 (by decide) (by decide) 50 rfl
                have t51 : a.tmps.getD 51 undef = .bool true := hD.sp 4 (by decide) (by decide) 51 rfl
                have t52 : a.tmps.getD 52 undef = .func (.func 35) #[] #[.pointer (some ⟨w2.heap.size, 0, none⟩)] := hD.sp 5 (by decide) (by decide) 52 rfl
                have t53 : a.tmps.getD 53 undef = .pointer (some ⟨w2.heap.size, 0, none⟩) := hD.sp 6 (by decide) (by decide) 53 rfl
                have t54 : a.tmps.getD 54 undef = .slice A n c := hD.sp 7 (by decide) (by decide) 54 rfl
                have t56 : a.tmps.getD 56 undef = .int .i64 x := hD.sp 9 (by decide) (by decide) 56 rfl
                have t59 : a.tmps.getD 59 undef = .func (.func 36) #[] #[] := hD.sp 12 (by decide) (by decide) 59 rfl
                have t60 : a.tmps.getD 60 undef = .pointer (some ⟨w2.heap.size, 1, none⟩) := hD.sp 13 (by decide) (by decide) 60 rfl
                have t61 : a.tmps.getD 61 undef = .slice A' n' c' := hD.sp 14 (by decide) (by decide) 61 rfl
                have t62 : a.tmps.getD 62 undef = .int .i64 x := hD.sp 15 (by decide) (by decide) 62 rfl
                obtain ⟨A64, n64, c64, B64, m64, d64, t64, r64, s64, q64, p64⟩ := hD.sp 17 (by decide) (by decide) 64 rfl
                simp only [List.foldl_cons, List.foldl_nil] at hfr
                rw [t47, t48, t49, t50, t51, t52, t53, t54, t56, t59, t60, t61, t62, t64] at hfr
                generalize a.tmps.getD 55 undef = u55 at hfr
                generalize a.tmps.getD 57 undef = u57 at hfr
                generalize a.tmps.getD 58 undef = u58 at hfr
                generalize a.tmps.getD 63 undef = u63 at hfr
                rw [hfr]
                clear hfr hD t47 t48 t49 t50 t51 t52 t53 t54 t56 t59 t60 t61 t62 t64
                have HBW := Kp.mk hbW
                clear hbW
                simp only [Act.put, List.setIfInBounds_toArray, List.set_cons_succ, List.set_cons_zero]
                refine wpOps_tail ?_
                simp only [List.drop_succ_cons, List.drop_zero]
                go_wp2_with (go_at_call 35; refine (step_any w2.heap.size A n c A' n' c' vs' ls' A64 n64 c64 B64 m64 d64 (vs' ++ [x]) (ls'.filter (fun z => z != x)) _ (HAT.it.below HBW.it) r64 s64 q64 p64 HM2.it).mono ?_; rintro e wt ⟨rfl, hb', hat'⟩; have HAT2 := Kp.mk hat'; have HB2 := Kp.mk (HB.it.trans ((HBW.it.mono (Nat.le_of_lt HS5.it)).trans hb')); clear hb' hat')
                go_wp2
                go_roundg (n3 - (k + 1))
                case measure => omega
                case rel => exact ⟨k + 1, _, _, _, _, _, _, _, _, by omega, by omega, by go_num, ⟨HGO3.it⟩, HAT2, HB2⟩
        · obtain rfl : n3 = k := by omega
          have HGT : Kp (Go2 us ks 0 vs' ls') := ⟨Go1.turn (by rw [HC.it.len]; exact HGO.it)⟩
          clear HGO
          go_wp2
          go_loopg [69] 5 (fun g i wr => ∃ (k : Nat) (A : Option Addr) (n c : Nat) (A' : Option Addr) (n' c' : Nat) (vs' ls' : List Int), k ≤ 5 ∧ 5 - k ≤ g ∧ i = .int .i64 k ∧ Kp (Go2 us ks k vs' ls') ∧ Kp (At wr w2.heap.size A n c A' n' c' vs' ls') ∧ Kp (Below w2.heap.size w2 wr))
          case atStart => exact ⟨0, _, _, _, _, _, _, _, _, by omega, by omega, rfl, HGT, HAT, HB⟩
          case round =>
            clear HAT HB HGT
            obtain ⟨k, A, n, c, A', n', c', vs', ls', hk, hgk, rfl, HGO, HAT, HB⟩ := hrel
            by_cases hkn : k < 5
            · have hd : decide ((k : Int) < 5) = true := by simp; omega
              have hs5 : w2.heap.size < wr.heap.size := (Array.getElem?_eq_some_iff.1 HAT.it.box).1
              have hy0 : wr.cell? ⟨w2.heap.size, 0, none⟩ = some (.slice A n c) := blk_cell HAT.it.box rfl
              have hy1 : wr.cell? ⟨w2.heap.size, 1, none⟩ = some (.slice A' n' c') := blk_cell HAT.it.box rfl
              have hz2 := (HB.it.cell (p := ⟨w.heap.size + 1, 0, none⟩) hs2).trans Z2.it
              have hz3 := (HB.it.cell (p := ⟨w.heap.size + 1, 1, none⟩) hs2).trans Z3.it
              have HS5 := Kp.mk hs5
              have hs6 : w.heap.size + 1 < wr.heap.size := by omega
              go_upto_block 4 with fail
              go_cut [] from 70 to 137 (fun wx => ∃ (A : Option Addr) (n c : Nat) (A' : Option Addr) (n' c' : Nat) (vs' ls' : List Int), Kp (Mid2 us ks k vs' ls') ∧ Kp (At wx w2.heap.size A n c A' n' c' vs' ls') ∧ Kp (Below w2.heap.size w2 wx))
              case first =>
                go_upto_region 17 with fail
                go_cut [72] from 70 to 137 (fun s wx => ∃ (A : Option Addr) (n c : Nat) (A' : Option Addr) (n' c' : Nat) (vs' ls' : List Int), s = .bool (inB vs' k && !inB us k) ∧ Kp (Go2 us ks k vs' ls') ∧ Kp (At wx w2.heap.size A n c A' n' c' vs' ls') ∧ Kp (Below w2.heap.size w2 wx))
                case first =>
                  cases hv : inB vs' k with
                  | true =>
                    cases hu : inB us k with
                    | false =>
                      have HV := Kp.mk hv
                      have HU := Kp.mk hu
                      clear hv hu
                      go_wp2_with fail
                      refine (votes_any _ _ _ _ _ _ vs' _ HAT.it.r1 k).mono ?_
                      rintro e wa ⟨rfl, hbn⟩
                      rw [HV.it]
                      have HATa := Kp.mk (HAT.it.below hbn)
                      have HBa := Kp.mk (HB.it.trans (hbn.mono (Nat.le_of_lt HS5.it)))
                      clear hbn
                      clear hy0 hy1 hz2 hz3 hs5 hs6
                      clear HS5
                      have hs5 : w2.heap.size < wa.heap.size := (Array.getElem?_eq_some_iff.1 HATa.it.box).1
                      have hy0 : wa.cell? ⟨w2.heap.size, 0, none⟩ = some (.slice A n c) := blk_cell HATa.it.box rfl
                      have hy1 : wa.cell? ⟨w2.heap.size, 1, none⟩ = some (.slice A' n' c') := blk_cell HATa.it.box rfl
                      have hz2 := (HBa.it.cell (p := ⟨w.heap.size + 1, 0, none⟩) hs2).trans Z2.it
                      have hz3 := (HBa.it.cell (p := ⟨w.heap.size + 1, 1, none⟩) hs2).trans Z3.it
                      have HS5 := Kp.mk hs5
                      have hs6 : w.heap.size + 1 < wa.heap.size := by omega
                      go_wp2_with fail
                      refine (votes_any _ _ _ _ _ _ us _ (HC.it.below (HBW2.it.trans (HBa.it.mono HBW2.it.size))) k).mono ?_
                      rintro e wb ⟨rfl, hbn⟩
                      rw [HU.it]
                      have HATb := Kp.mk (HATa.it.below hbn)
                      have HBb := Kp.mk (HBa.it.trans (hbn.mono (Nat.le_of_lt HS5.it)))
                      clear hbn
                      clear hy0 hy1 hz2 hz3 hs5 hs6
                      clear HS5
                      have hs5 : w2.heap.size < wb.heap.size := (Array.getElem?_eq_some_iff.1 HATb.it.box).1
                      have hy0 : wb.cell? ⟨w2.heap.size, 0, none⟩ = some (.slice A n c) := blk_cell HATb.it.box rfl
                      have hy1 : wb.cell? ⟨w2.heap.size, 1, none⟩ = some (.slice A' n' c') := blk_cell HATb.it.box rfl
                      have hz2 := (HBb.it.cell (p := ⟨w.heap.size + 1, 0, none⟩) hs2).trans Z2.it
                      have hz3 := (HBb.it.cell (p := ⟨w.heap.size + 1, 1, none⟩) hs2).trans Z3.it
                      have HS5 := Kp.mk hs5
                      have hs6 : w.heap.size + 1 < wb.heap.size := by omega
                      go_wp2
                      go_meet
                      exact ⟨_, _, _, _, _, _, _, _, by rw [HV.it, HU.it]; rfl, HGO, HATb, HBb⟩
                    | true =>
                      have HV := Kp.mk hv
                      have HU := Kp.mk hu
                      clear hv hu
                      go_wp2_with fail
                      refine (votes_any _ _ _ _ _ _ vs' _ HAT.it.r1 k).mono ?_
                      rintro e wa ⟨rfl, hbn⟩
                      rw [HV.it]
                      have HATa := Kp.mk (HAT.it.below hbn)
                      have HBa := Kp.mk (HB.it.trans (hbn.mono (Nat.le_of_lt HS5.it)))
                      clear hbn
                      clear hy0 hy1 hz2 hz3 hs5 hs6
                      clear HS5
                      have hs5 : w2.heap.size < wa.heap.size := (Array.getElem?_eq_some_iff.1 HATa.it.box).1
                      have hy0 : wa.cell? ⟨w2.heap.size, 0, none⟩ = some (.slice A n c) := blk_cell HATa.it.box rfl
                      have hy1 : wa.cell? ⟨w2.heap.size, 1, none⟩ = some (.slice A' n' c') := blk_cell HATa.it.box rfl
                      have hz2 := (HBa.it.cell (p := ⟨w.heap.size + 1, 0, none⟩) hs2).trans Z2.it
                      have hz3 := (HBa.it.cell (p := ⟨w.heap.size + 1, 1, none⟩) hs2).trans Z3.it
                      have HS5 := Kp.mk hs5
                      have hs6 : w.heap.size + 1 < wa.heap.size := by omega
                      go_wp2_with fail
                      refine (votes_any _ _ _ _ _ _ us _ (HC.it.below (HBW2.it.trans (HBa.it.mono HBW2.it.size))) k).mono ?_
                      rintro e wb ⟨rfl, hbn⟩
                      rw [HU.it]
                      have HATb := Kp.mk (HATa.it.below hbn)
                      have HBb := Kp.mk (HBa.it.trans (hbn.mono (Nat.le_of_lt HS5.it)))
                      clear hbn
                      clear hy0 hy1 hz2 hz3 hs5 hs6
                      clear HS5
                      have hs5 : w2.heap.size < wb.heap.size := (Array.getElem?_eq_some_iff.1 HATb.it.box).1
                      have hy0 : wb.cell? ⟨w2.heap.size, 0, none⟩ = some (.slice A n c) := blk_cell HATb.it.box rfl
                      have hy1 : wb.cell? ⟨w2.heap.size, 1, none⟩ = some (.slice A' n' c') := blk_cell HATb.it.box rfl
                      have hz2 := (HBb.it.cell (p := ⟨w.heap.size + 1, 0, none⟩) hs2).trans Z2.it
                      have hz3 := (HBb.it.cell (p := ⟨w.heap.size + 1, 1, none⟩) hs2).trans Z3.it
                      have HS5 := Kp.mk hs5
                      have hs6 : w.heap.size + 1 < wb.heap.size := by omega
                      go_wp2
                      go_meet
                      exact ⟨_, _, _, _, _, _, _, _, by rw [HV.it, HU.it]; rfl, HGO, HATb, HBb⟩
                  | false =>
                    have HV := Kp.mk hv
                    clear hv
                    go_wp2_with fail
                    refine (votes_any _ _ _ _ _ _ vs' _ HAT.it.r1 k).mono ?_
                    rintro e wa ⟨rfl, hbn⟩
                    rw [HV.it]
                    have HATa := Kp.mk (HAT.it.below hbn)
                    have HBa := Kp.mk (HB.it.trans (hbn.mono (Nat.le_of_lt HS5.it)))
                    clear hbn
                    clear hy0 hy1 hz2 hz3 hs5 hs6
                    clear HS5
                    have hs5 : w2.heap.size < wa.heap.size := (Array.getElem?_eq_some_iff.1 HATa.it.box).1
                    have hy0 : wa.cell? ⟨w2.heap.size, 0, none⟩ = some (.slice A n c) := blk_cell HATa.it.box rfl
                    have hy1 : wa.cell? ⟨w2.heap.size, 1, none⟩ = some (.slice A' n' c') := blk_cell HATa.it.box rfl
                    have hz2 := (HBa.it.cell (p := ⟨w.heap.size + 1, 0, none⟩) hs2).trans Z2.it
                    have hz3 := (HBa.it.cell (p := ⟨w.heap.size + 1, 1, none⟩) hs2).trans Z3.it
                    have HS5 := Kp.mk hs5
                    have hs6 : w.heap.size + 1 < wa.heap.size := by omega
                    go_wp2
                    go_meet
                    exact ⟨_, _, _, _, _, _, _, _, by rw [HV.it]; rfl, HGO, HATa, HBa⟩
                case rest =>
                  clear hy0 hy1 hz2 hz3 hs5 hs6
                  clear HS5 HAT HB HGO
                  obtain ⟨A, n, c, A', n', c', vs', ls', rfl, HGO, HAT, HB⟩ := hcut
                  have hs5 : w2.heap.size < wc.heap.size := (Array.getElem?_eq_some_iff.1 HAT.it.box).1
                  have hy0 : wc.cell? ⟨w2.heap.size, 0, none⟩ = some (.slice A n c) := blk_cell HAT.it.box rfl
                  have hy1 : wc.cell? ⟨w2.heap.size, 1, none⟩ = some (.slice A' n' c') := blk_cell HAT.it.box rfl
                  have hz2 := (HB.it.cell (p := ⟨w.heap.size + 1, 0, none⟩) hs2).trans Z2.it
                  have hz3 := (HB.it.cell (p := ⟨w.heap.size + 1, 1, none⟩) hs2).trans Z3.it
                  have HS5 := Kp.mk hs5
                  have hs6 : w.heap.size + 1 < wc.heap.size := by omega
                  cases hq : (inB vs' k && !inB us k) with
                  | true =>
                    have HU : inB us k = false := by revert hq; cases inB us k <;> simp
                    have HV : inB vs' k = true := by revert hq; cases inB vs' k <;> simp
                    obtain ⟨g5, g6⟩ := HGO.it.out HGU.it HV HU
                    have HMID := Kp.mk g5
                    have HM := Kp.mk g6
                    clear HU HV hq g5 g6
                    go_wp2_with fail
                    refine wp_region_tail_sp 9 [.ex (.func (.func 35) #[] #[.pointer (some ⟨w2.heap.size, 0, none⟩)]), .ex (.func (.func 36) #[] #[]), .ex (.pointer (some ⟨w2.heap.size, 0, none⟩)), .ex (.slice A n c), .ex (.int .i64 k), .sln (vs'.filter (fun z => z != (k : Int))), .ex (.pointer (some ⟨w2.heap.size, 1, none⟩)), .ex (.slice A' n' c'), .rol (vs'.filter (fun z => z != (k : Int))) (.slice A' n' c')] (by kernel_rfl) (by kernel_rfl) (by kernel_rfl) (by kernel_rfl) ?_ ?_
                    · intro i o ho hiL a W hbW hG
                      match i with
                      | 0 =>
                        have ho1 := ho
                        cases ho
                        have t6 : a.tmps.getD 6 undef = .func (.func 35) #[] #[.pointer (some ⟨w2.heap.size, 0, none⟩)] := hG.old 6 (by decide)
                        exact op_value_g (w1 := W) ho1 (wanted_none rfl) (.func (.func 35) #[] #[.pointer (some ⟨w2.heap.size, 0, none⟩)]) (by simp [go_sem, Act.eval, -Array.getD_eq_getD_getElem?, t6]) (Gr.refl _) rfl
                      | 1 =>
                        have ho1 := ho
                        cases ho
                        have t7 : a.tmps.getD 7 undef = .func (.func 36) #[] #[] := hG.old 7 (by decide)
                        exact op_value_g (w1 := W) ho1 (wanted_none rfl) (.func (.func 36) #[] #[]) (by simp [go_sem, Act.eval, -Array.getD_eq_getD_getElem?, t7]) (Gr.refl _) rfl
                      | 2 =>
                        have ho1 := ho
                        cases ho
                        have t5 : a.tmps.getD 5 undef = .pointer (some ⟨w2.heap.size, 0, none⟩) := hG.old 5 (by decide)
                        exact op_value_g (w1 := W) ho1 (wanted_none rfl) (.pointer (some ⟨w2.heap.size, 0, none⟩)) (by simp [go_sem, Act.eval, -Array.getD_eq_getD_getElem?, t5]) (Gr.refl _) rfl
                      | 3 =>
                        have ho1 := ho
                        cases ho
                        have t84 : a.tmps.getD 84 undef = .pointer (some ⟨w2.heap.size, 0, none⟩) := hG.dep 2 (by decide) 84 rfl
                        have y0 := (hbW.cell (p := ⟨w2.heap.size, 0, none⟩) hs5).trans hy0
                        have y1 := (hbW.cell (p := ⟨w2.heap.size, 1, none⟩) hs5).trans hy1
                        exact op_value_g (w1 := W) ho1 (wanted_none rfl) (.slice A n c) (by simp [go_sem, Act.eval, -Array.getD_eq_getD_getElem?, t84, y0, y1]) (Gr.refl _) rfl
                      | 4 =>
                        have ho1 := ho
                        cases ho
                        have t10 : a.tmps.getD 10 undef = .int .i64 k := hG.old 10 (by decide)
                        exact op_value_g (w1 := W) ho1 (wanted_none rfl) (.int .i64 k) (by simp [go_sem, Act.eval, -Array.getD_eq_getD_getElem?, t10]) (Gr.refl _) rfl
                      | 5 =>
                        have ho1 := ho
                        cases ho
                        have t83 : a.tmps.getD 83 undef = .func (.func 36) #[] #[] := hG.dep 1 (by decide) 83 rfl
                        have t85 : a.tmps.getD 85 undef = .slice A n c := hG.dep 3 (by decide) 85 rfl
                        have t86 : a.tmps.getD 86 undef = .int .i64 k := hG.dep 4 (by decide) 86 rfl
                        refine op_call_g ho1 (wanted_none rfl) 36 #[.slice A n c, .int .i64 k] (by simp [go_sem, Act.eval, -Array.getD_eq_getD_getElem?, t83, t85, t86]) ?_
                        refine (drop_any A n c vs' k W (HAT.it.r1.below hbW) HAT.it.e1).mono ?_
                        rintro e W' ⟨v, rfl, ho, hb'⟩
                        obtain ⟨A, c, hv, hn, _, _, hr⟩ := ho.form3 (Nat.le_trans (Nat.mul_le_mul_right 8 (List.length_filter_le _ _)) (HAT.it.r1.le))
                        exact ⟨_, rfl, hb', A, _, c, hv, hr, hn⟩
                      | 6 =>
                        have ho1 := ho
                        cases ho
                        have t5 : a.tmps.getD 5 undef = .pointer (some ⟨w2.heap.size, 0, none⟩) := hG.old 5 (by decide)
                        exact op_value_g (w1 := W) ho1 (wanted_none rfl) (.pointer (some ⟨w2.heap.size, 1, none⟩)) (by simp [go_sem, Act.eval, -Array.getD_eq_getD_getElem?, t5]) (Gr.refl _) rfl
                      | 7 =>
                        have ho1 := ho
                        cases ho
                        have t88 : a.tmps.getD 88 undef = .pointer (some ⟨w2.heap.size, 1, none⟩) := hG.dep 6 (by decide) 88 rfl
                        have y0 := (hbW.cell (p := ⟨w2.heap.size, 0, none⟩) hs5).trans hy0
                        have y1 := (hbW.cell (p := ⟨w2.heap.size, 1, none⟩) hs5).trans hy1
                        exact op_value_g (w1 := W) ho1 (wanted_none rfl) (.slice A' n' c') (by simp [go_sem, Act.eval, -Array.getD_eq_getD_getElem?, t88, y0, y1]) (Gr.refl _) rfl
                      | 8 =>
                        have ho1 := ho
                        cases ho
                        obtain ⟨A87, n87, c87, t87, r87, q87⟩ : SlN (vs'.filter (fun z => z != (k : Int))) (a.tmps.getD 87 undef) W := hG.dep 5 (by decide) 87 rfl
                        have t89 : a.tmps.getD 89 undef = .slice A' n' c' := hG.dep 7 (by decide) 89 rfl
                        exact op_value_g (w1 := W) ho1 (wanted_none rfl) (.agg #[.slice A87 n87 c87, .slice A' n' c']) (by simp [go_sem, Act.eval, -Array.getD_eq_getD_getElem?, t87, t89]) (Gr.refl _) ⟨_, _, _, rfl, r87, q87⟩
                      | q + 9 => exact absurd hiL (by simp)
                    · intro a W hbW hD
                      have hfr := hD.frame [82, 83, 84, 85, 86, 87, 88, 89, 90] (by kernel_rfl)
                      have t82 : a.tmps.getD 82 undef = .func (.func 35) #[] #[.pointer (some ⟨w2.heap.size, 0, none⟩)] := hD.sp 0 (by decide) 82 rfl
                      have t83 : a.tmps.getD 83 undef = .func (.func 36) #[] #[] := hD.sp 1 (by decide) 83 rfl
                      have t84 : a.tmps.getD 84 undef = .pointer (some ⟨w2.heap.size, 0, none⟩) := hD.sp 2 (by decide) 84 rfl
                      have t85 : a.tmps.getD 85 undef = .slice A n c := hD.sp 3 (by decide) 85 rfl
                      have t86 : a.tmps.getD 86 undef = .int .i64 k := hD.sp 4 (by decide) 86 rfl
                      have t88 : a.tmps.getD 88 undef = .pointer (some ⟨w2.heap.size, 1, none⟩) := hD.sp 6 (by decide) 88 rfl
                      have t89 : a.tmps.getD 89 undef = .slice A' n' c' := hD.sp 7 (by decide) 89 rfl
                      obtain ⟨A90, n90, c90, t90, r90, q90⟩ := hD.sp 8 (by decide) 90 rfl
                      simp only [List.foldl_cons, List.foldl_nil] at hfr
                      rw [t82, t83, t84, t85, t86, t88, t89, t90] at hfr
                      generalize a.tmps.getD 87 undef = u87 at hfr
                      rw [hfr]
                      clear hfr hD t82 t83 t84 t85 t86 t88 t89 t90
                      have HBW := Kp.mk hbW
                      clear hbW
                      simp only [Act.put, List.setIfInBounds_toArray, List.set_cons_succ, List.set_cons_zero]
                      refine wpOps_tail ?_
                      simp only [List.drop_succ_cons, List.drop_zero]
                      go_wp2_with (go_at_call 35; refine (step_any w2.heap.size A n c A' n' c' vs' ls' A90 n90 c90 A' n' c' (vs'.filter (fun z => z != (k : Int))) ls' _ (HAT.it.below HBW.it) r90 (HAT.it.r2.below HBW.it) q90 HAT.it.e2 HM.it).mono ?_; rintro e wp ⟨rfl, hb', hat'⟩; have HATp := Kp.mk hat'; have HBp := Kp.mk (HB.it.trans ((HBW.it.mono (Nat.le_of_lt HS5.it)).trans hb')); clear hb' hat')
                      go_wp2
                      go_meet
                      exact ⟨_, _, _, _, _, _, _, _, HMID, HATp, HBp⟩
                  | false =>
                    have HNC := Kp.mk hq
                    clear hq
                    cases hh : hasB vs' ls' k with
                    | false =>
                      have HMID := Kp.mk (HGO.it.stay HNC.it (by rw [hh]; rfl))
                      have HA1 : Kp ((inB vs' k || inB ls' k) = false) := ⟨hh⟩
                      clear hh
                      go_wp2_with fail
                      refine (has_any _ _ _ _ _ _ vs' ls' _ HAT.it.r1 HAT.it.r2 k).mono ?_
                      rintro e wc1 ⟨rfl, hbn⟩
                      rw [HA1.it]
                      have HATc := Kp.mk (HAT.it.below hbn)
                      have HBc := Kp.mk (HB.it.trans (hbn.mono (Nat.le_of_lt HS5.it)))
                      clear hbn
                      clear hy0 hy1 hz2 hz3 hs5 hs6
                      clear HS5
                      have hs5 : w2.heap.size < wc1.heap.size := (Array.getElem?_eq_some_iff.1 HATc.it.box).1
                      have hy0 : wc1.cell? ⟨w2.heap.size, 0, none⟩ = some (.slice A n c) := blk_cell HATc.it.box rfl
                      have hy1 : wc1.cell? ⟨w2.heap.size, 1, none⟩ = some (.slice A' n' c') := blk_cell HATc.it.box rfl
                      have hz2 := (HBc.it.cell (p := ⟨w.heap.size + 1, 0, none⟩) hs2).trans Z2.it
                      have hz3 := (HBc.it.cell (p := ⟨w.heap.size + 1, 1, none⟩) hs2).trans Z3.it
                      have HS5 := Kp.mk hs5
                      have hs6 : w.heap.size + 1 < wc1.heap.size := by omega
                      go_wp2
                      go_meet
                      exact ⟨_, _, _, _, _, _, _, _, HMID, HATc, HBc⟩
                    | true =>
                      cases hu : hasB us ks k with
                      | false =>
                        obtain ⟨g5, g6⟩ := HGO.it.off HNC.it hh hu
                        have HMID := Kp.mk g5
                        have HM := Kp.mk g6
                        have HA1 : Kp ((inB vs' k || inB ls' k) = true) := ⟨hh⟩
                        have HA2 : Kp ((inB us k || inB ks k) = false) := ⟨hu⟩
                        clear hh hu g5 g6
                        go_wp2_with fail
                        refine (has_any _ _ _ _ _ _ vs' ls' _ HAT.it.r1 HAT.it.r2 k).mono ?_
                        rintro e wc1 ⟨rfl, hbn⟩
                        rw [HA1.it]
                        have HATc := Kp.mk (HAT.it.below hbn)
                        have HBc := Kp.mk (HB.it.trans (hbn.mono (Nat.le_of_lt HS5.it)))
                        clear hbn
                        clear hy0 hy1 hz2 hz3 hs5 hs6
                        clear HS5
                        have hs5 : w2.heap.size < wc1.heap.size := (Array.getElem?_eq_some_iff.1 HATc.it.box).1
                        have hy0 : wc1.cell? ⟨w2.heap.size, 0, none⟩ = some (.slice A n c) := blk_cell HATc.it.box rfl
                        have hy1 : wc1.cell? ⟨w2.heap.size, 1, none⟩ = some (.slice A' n' c') := blk_cell HATc.it.box rfl
                        have hz2 := (HBc.it.cell (p := ⟨w.heap.size + 1, 0, none⟩) hs2).trans Z2.it
                        have hz3 := (HBc.it.cell (p := ⟨w.heap.size + 1, 1, none⟩) hs2).trans Z3.it
                        have HS5 := Kp.mk hs5
                        have hs6 : w.heap.size + 1 < wc1.heap.size := by omega
                        go_wp2_with fail
                        refine (has_any _ _ _ _ _ _ us ks _ (HC.it.below (HBW2.it.trans (HBc.it.mono HBW2.it.size))) (HD.it.below (HBW2.it.trans (HBc.it.mono HBW2.it.size))) k).mono ?_
                        rintro e wd1 ⟨rfl, hbn⟩
                        rw [HA2.it]
                        have HATd := Kp.mk (HATc.it.below hbn)
                        have HBd := Kp.mk (HBc.it.trans (hbn.mono (Nat.le_of_lt HS5.it)))
                        clear hbn
                        clear hy0 hy1 hz2 hz3 hs5 hs6
                        clear HS5
                        have hs5 : w2.heap.size < wd1.heap.size := (Array.getElem?_eq_some_iff.1 HATd.it.box).1
                        have hy0 : wd1.cell? ⟨w2.heap.size, 0, none⟩ = some (.slice A n c) := blk_cell HATd.it.box rfl
                        have hy1 : wd1.cell? ⟨w2.heap.size, 1, none⟩ = some (.slice A' n' c') := blk_cell HATd.it.box rfl
                        have hz2 := (HBd.it.cell (p := ⟨w.heap.size + 1, 0, none⟩) hs2).trans Z2.it
                        have hz3 := (HBd.it.cell (p := ⟨w.heap.size + 1, 1, none⟩) hs2).trans Z3.it
                        have HS5 := Kp.mk hs5
                        have hs6 : w.heap.size + 1 < wd1.heap.size := by omega
                        go_wp2_with fail
                        refine wp_region_tail_sp 9 [.ex (.func (.func 35) #[] #[.pointer (some ⟨w2.heap.size, 0, none⟩)]), .ex (.pointer (some ⟨w2.heap.size, 0, none⟩)), .ex (.slice A n c), .ex (.func (.func 36) #[] #[]), .ex (.pointer (some ⟨w2.heap.size, 1, none⟩)), .ex (.slice A' n' c'), .ex (.int .i64 k), .sln (ls'.filter (fun z => z != (k : Int))), .ror (.slice A n c) (ls'.filter (fun z => z != (k : Int)))] (by kernel_rfl) (by kernel_rfl) (by kernel_rfl) (by kernel_rfl) ?_ ?_
                        · intro i o ho hiL a W hbW hG
                          match i with
                          | 0 =>
                            have ho1 := ho
                            cases ho
                            have t6 : a.tmps.getD 6 undef = .func (.func 35) #[] #[.pointer (some ⟨w2.heap.size, 0, none⟩)] := hG.old 6 (by decide)
                            exact op_value_g (w1 := W) ho1 (wanted_none rfl) (.func (.func 35) #[] #[.pointer (some ⟨w2.heap.size, 0, none⟩)]) (by simp [go_sem, Act.eval, -Array.getD_eq_getD_getElem?, t6]) (Gr.refl _) rfl
                          | 1 =>
                            have ho1 := ho
                            cases ho
                            have t5 : a.tmps.getD 5 undef = .pointer (some ⟨w2.heap.size, 0, none⟩) := hG.old 5 (by decide)
                            exact op_value_g (w1 := W) ho1 (wanted_none rfl) (.pointer (some ⟨w2.heap.size, 0, none⟩)) (by simp [go_sem, Act.eval, -Array.getD_eq_getD_getElem?, t5]) (Gr.refl _) rfl
                          | 2 =>
                            have ho1 := ho
                            cases ho
                            have t104 : a.tmps.getD 104 undef = .pointer (some ⟨w2.heap.size, 0, none⟩) := hG.dep 1 (by decide) 104 rfl
                            have y0 := (hbW.cell (p := ⟨w2.heap.size, 0, none⟩) hs5).trans hy0
                            have y1 := (hbW.cell (p := ⟨w2.heap.size, 1, none⟩) hs5).trans hy1
                            exact op_value_g (w1 := W) ho1 (wanted_none rfl) (.slice A n c) (by simp [go_sem, Act.eval, -Array.getD_eq_getD_getElem?, t104, y0, y1]) (Gr.refl _) rfl
                          | 3 =>
                            have ho1 := ho
                            cases ho
                            have t7 : a.tmps.getD 7 undef = .func (.func 36) #[] #[] := hG.old 7 (by decide)
                            exact op_value_g (w1 := W) ho1 (wanted_none rfl) (.func (.func 36) #[] #[]) (by simp [go_sem, Act.eval, -Array.getD_eq_getD_getElem?, t7]) (Gr.refl _) rfl
                          | 4 =>
                            have ho1 := ho
                            cases ho
                            have t5 : a.tmps.getD 5 undef = .pointer (some ⟨w2.heap.size, 0, none⟩) := hG.old 5 (by decide)
                            exact op_value_g (w1 := W) ho1 (wanted_none rfl) (.pointer (some ⟨w2.heap.size, 1, none⟩)) (by simp [go_sem, Act.eval, -Array.getD_eq_getD_getElem?, t5]) (Gr.refl _) rfl
                          | 5 =>
                            have ho1 := ho
                            cases ho
                            have t107 : a.tmps.getD 107 undef = .pointer (some ⟨w2.heap.size, 1, none⟩) := hG.dep 4 (by decide) 107 rfl
                            have y0 := (hbW.cell (p := ⟨w2.heap.size, 0, none⟩) hs5).trans hy0
                            have y1 := (hbW.cell (p := ⟨w2.heap.size, 1, none⟩) hs5).trans hy1
                            exact op_value_g (w1 := W) ho1 (wanted_none rfl) (.slice A' n' c') (by simp [go_sem, Act.eval, -Array.getD_eq_getD_getElem?, t107, y0, y1]) (Gr.refl _) rfl
                          | 6 =>
                            have ho1 := ho
                            cases ho
                            have t10 : a.tmps.getD 10 undef = .int .i64 k := hG.old 10 (by decide)
                            exact op_value_g (w1 := W) ho1 (wanted_none rfl) (.int .i64 k) (by simp [go_sem, Act.eval, -Array.getD_eq_getD_getElem?, t10]) (Gr.refl _) rfl
                          | 7 =>
                            have ho1 := ho
                            cases ho
                            have t106 : a.tmps.getD 106 undef = .func (.func 36) #[] #[] := hG.dep 3 (by decide) 106 rfl
                            have t108 : a.tmps.getD 108 undef = .slice A' n' c' := hG.dep 5 (by decide) 108 rfl
                            have t109 : a.tmps.getD 109 undef = .int .i64 k := hG.dep 6 (by decide) 109 rfl
                            refine op_call_g ho1 (wanted_none rfl) 36 #[.slice A' n' c', .int .i64 k] (by simp [go_sem, Act.eval, -Array.getD_eq_getD_getElem?, t106, t108, t109]) ?_
                            refine (drop_any A' n' c' ls' k W (HATd.it.r2.below hbW) HATd.it.e2).mono ?_
                            rintro e W' ⟨v, rfl, ho, hb'⟩
                            obtain ⟨A, c, hv, hn, _, _, hr⟩ := ho.form3 (Nat.le_trans (Nat.mul_le_mul_right 8 (List.length_filter_le _ _)) (HATd.it.r2.le))
                            exact ⟨_, rfl, hb', A, _, c, hv, hr, hn⟩
                          | 8 =>
                            have ho1 := ho
                            cases ho
                            have t105 : a.tmps.getD 105 undef = .slice A n c := hG.dep 2 (by decide) 105 rfl
                            obtain ⟨A110, n110, c110, t110, r110, q110⟩ : SlN (ls'.filter (fun z => z != (k : Int))) (a.tmps.getD 110 undef) W := hG.dep 7 (by decide) 110 rfl
                            exact op_value_g (w1 := W) ho1 (wanted_none rfl) (.agg #[.slice A n c, .slice A110 n110 c110]) (by simp [go_sem, Act.eval, -Array.getD_eq_getD_getElem?, t105, t110]) (Gr.refl _) ⟨_, _, _, rfl, r110, q110⟩
                          | q + 9 => exact absurd hiL (by simp)
                        · intro a W hbW hD
                          have hfr := hD.frame [103, 104, 105, 106, 107, 108, 109, 110, 111] (by kernel_rfl)
                          have t103 : a.tmps.getD 103 undef = .func (.func 35) #[] #[.pointer (some ⟨w2.heap.size, 0, none⟩)] := hD.sp 0 (by decide) 103 rfl
                          have t104 : a.tmps.getD 104 undef = .pointer (some ⟨w2.heap.size, 0, none⟩) := hD.sp 1 (by decide) 104 rfl
                          have t105 : a.tmps.getD 105 undef = .slice A n c := hD.sp 2 (by decide) 105 rfl
                          have t106 : a.tmps.getD 106 undef = .func (.func 36) #[] #[] := hD.sp 3 (by decide) 106 rfl
                          have t107 : a.tmps.getD 107 undef = .pointer (some ⟨w2.heap.size, 1, none⟩) := hD.sp 4 (by decide) 107 rfl
                          have t108 : a.tmps.getD 108 undef = .slice A' n' c' := hD.sp 5 (by decide) 108 rfl
                          have t109 : a.tmps.getD 109 undef = .int .i64 k := hD.sp 6 (by decide) 109 rfl
                          obtain ⟨A111, n111, c111, t111, r111, q111⟩ := hD.sp 8 (by decide) 111 rfl
                          simp only [List.foldl_cons, List.foldl_nil] at hfr
                          rw [t103, t104, t105, t106, t107, t108, t109, t111] at hfr
                          generalize a.tmps.getD 110 undef = u110 at hfr
                          rw [hfr]
                          clear hfr hD t103 t104 t105 t106 t107 t108 t109 t111
                          have HBW := Kp.mk hbW
                          clear hbW
                          simp only [Act.put, List.setIfInBounds_toArray, List.set_cons_succ, List.set_cons_zero]
                          refine wpOps_tail ?_
                          simp only [List.drop_succ_cons, List.drop_zero]
                          go_wp2_with (go_at_call 35; refine (step_any w2.heap.size A n c A' n' c' vs' ls' A n c A111 n111 c111 vs' (ls'.filter (fun z => z != (k : Int))) _ (HATd.it.below HBW.it) (HATd.it.r1.below HBW.it) r111 HATd.it.e1 q111 HM.it).mono ?_; rintro e wp ⟨rfl, hb', hat'⟩; have HATp := Kp.mk hat'; have HBp := Kp.mk (HBd.it.trans ((HBW.it.mono (Nat.le_of_lt HS5.it)).trans hb')); clear hb' hat')
                          go_wp2
                          go_meet
                          exact ⟨_, _, _, _, _, _, _, _, HMID, HATp, HBp⟩
                      | true =>
                        have HMID := Kp.mk (HGO.it.stay HNC.it (by rw [hh, hu]; rfl))
                        have HA1 : Kp ((inB vs' k || inB ls' k) = true) := ⟨hh⟩
                        have HA2 : Kp ((inB us k || inB ks k) = true) := ⟨hu⟩
                        clear hh hu
                        go_wp2_with fail
                        refine (has_any _ _ _ _ _ _ vs' ls' _ HAT.it.r1 HAT.it.r2 k).mono ?_
                        rintro e wc1 ⟨rfl, hbn⟩
                        rw [HA1.it]
                        have HATc := Kp.mk (HAT.it.below hbn)
                        have HBc := Kp.mk (HB.it.trans (hbn.mono (Nat.le_of_lt HS5.it)))
                        clear hbn
                        clear hy0 hy1 hz2 hz3 hs5 hs6
                        clear HS5
                        have hs5 : w2.heap.size < wc1.heap.size := (Array.getElem?_eq_some_iff.1 HATc.it.box).1
                        have hy0 : wc1.cell? ⟨w2.heap.size, 0, none⟩ = some (.slice A n c) := blk_cell HATc.it.box rfl
                        have hy1 : wc1.cell? ⟨w2.heap.size, 1, none⟩ = some (.slice A' n' c') := blk_cell HATc.it.box rfl
                        have hz2 := (HBc.it.cell (p := ⟨w.heap.size + 1, 0, none⟩) hs2).trans Z2.it
                        have hz3 := (HBc.it.cell (p := ⟨w.heap.size + 1, 1, none⟩) hs2).trans Z3.it
                        have HS5 := Kp.mk hs5
                        have hs6 : w.heap.size + 1 < wc1.heap.size := by omega
                        go_wp2_with fail
                        refine (has_any _ _ _ _ _ _ us ks _ (HC.it.below (HBW2.it.trans (HBc.it.mono HBW2.it.size))) (HD.it.below (HBW2.it.trans (HBc.it.mono HBW2.it.size))) k).mono ?_
                        rintro e wd1 ⟨rfl, hbn⟩
                        rw [HA2.it]
                        have HATd := Kp.mk (HATc.it.below hbn)
                        have HBd := Kp.mk (HBc.it.trans (hbn.mono (Nat.le_of_lt HS5.it)))
                        clear hbn
                        clear hy0 hy1 hz2 hz3 hs5 hs6
                        clear HS5
                        have hs5 : w2.heap.size < wd1.heap.size := (Array.getElem?_eq_some_iff.1 HATd.it.box).1
                        have hy0 : wd1.cell? ⟨w2.heap.size, 0, none⟩ = some (.slice A n c) := blk_cell HATd.it.box rfl
                        have hy1 : wd1.cell? ⟨w2.heap.size, 1, none⟩ = some (.slice A' n' c') := blk_cell HATd.it.box rfl
                        have hz2 := (HBd.it.cell (p := ⟨w.heap.size + 1, 0, none⟩) hs2).trans Z2.it
                        have hz3 := (HBd.it.cell (p := ⟨w.heap.size + 1, 1, none⟩) hs2).trans Z3.it
                        have HS5 := Kp.mk hs5
                        have hs6 : w.heap.size + 1 < wd1.heap.size := by omega
                        go_wp2
                        go_meet
                        exact ⟨_, _, _, _, _, _, _, _, HMID, HATd, HBd⟩
              case rest =>
                clear hy0 hy1 hz2 hz3 hs5 hs6
                clear HS5 HAT HB HGO
                obtain ⟨A, n, c, A', n', c', vs', ls', HMID, HAT, HB⟩ := hcut
                have hs5 : w2.heap.size < wc.heap.size := (Array.getElem?_eq_some_iff.1 HAT.it.box).1
                have hy0 : wc.cell? ⟨w2.heap.size, 0, none⟩ = some (.slice A n c) := blk_cell HAT.it.box rfl
                have hy1 : wc.cell? ⟨w2.heap.size, 1, none⟩ = some (.slice A' n' c') := blk_cell HAT.it.box rfl
                have hz2 := (HB.it.cell (p := ⟨w.heap.size + 1, 0, none⟩) hs2).trans Z2.it
                have hz3 := (HB.it.cell (p := ⟨w.heap.size + 1, 1, none⟩) hs2).trans Z3.it
                have HS5 := Kp.mk hs5
                have hs6 : w.heap.size + 1 < wc.heap.size := by omega
                cases hu : hasB us ks k with
                | false =>
                  have HHU : Kp ((inB us k || inB ks k) = false) := ⟨hu⟩
                  have HGN := Kp.mk (HMID.it.stay (by rw [hu]; rfl))
                  clear hu
                  go_wp2_with fail
                  refine wp_region_sp [.ex (.agg #[.slice A3 n3 c3, .slice A4 n4 c4]), .ex (.int .i64 k), .ex (.bool false), .ex (.bool false), .any, .any, .any, .any, .ex (.bool false), .ex (.bool false), .any, .any, .any, .any, .any, .any, .any, .any, .any, .any, .any, .any, .ex (.bool false)] (by kernel_rfl) (by kernel_rfl) ?_ ?_
                  · intro i o ho a W hbW hG
                    match i with
                    | 0 =>
                      have ho1 := ho
                      cases ho
                      have t3 : a.tmps.getD 3 undef = .pointer (some ⟨w.heap.size + 1, 0, none⟩) := hG.old 3 (by decide)
                      have y0 := (hbW.cell (p := ⟨w2.heap.size, 0, none⟩) hs5).trans hy0
                      have y1 := (hbW.cell (p := ⟨w2.heap.size, 1, none⟩) hs5).trans hy1
                      have z2 := (hbW.cell (p := ⟨w.heap.size + 1, 0, none⟩) hs6).trans hz2
                      have z3 := (hbW.cell (p := ⟨w.heap.size + 1, 1, none⟩) hs6).trans hz3
                      exact op_value_g (w1 := W) ho1 (wanted_none rfl) (.agg #[.slice A3 n3 c3, .slice A4 n4 c4]) (by simp [go_sem, Act.eval, -Array.getD_eq_getD_getElem?, t3, y0, y1, z2, z3]) (Gr.refl _) rfl
                    | 1 =>
                      have ho1 := ho
                      cases ho
                      have t10 : a.tmps.getD 10 undef = .int .i64 k := hG.old 10 (by decide)
                      exact op_value_g (w1 := W) ho1 (wanted_none rfl) (.int .i64 k) (by simp [go_sem, Act.eval, -Array.getD_eq_getD_getElem?, t10]) (Gr.refl _) rfl
                    | 2 =>
                      have ho1 := ho
                      cases ho
                      have t114 : a.tmps.getD 114 undef = .agg #[.slice A3 n3 c3, .slice A4 n4 c4] := hG.dep 0 (by decide) 114 rfl
                      have t115 : a.tmps.getD 115 undef = .int .i64 k := hG.dep 1 (by decide) 115 rfl
                      refine op_call_g ho1 (wanted_none rfl) 33 #[.agg #[.slice A3 n3 c3, .slice A4 n4 c4], .int .i64 k] (by simp [go_sem, Act.eval, -Array.getD_eq_getD_getElem?, t114, t115]) ?_
                      refine (has_any _ _ _ _ _ _ us ks W (HC.it.below (HBW2.it.trans ((HB.it.trans (hbW.mono (Nat.le_of_lt HS5.it))).mono HBW2.it.size))) (HD.it.below (HBW2.it.trans ((HB.it.trans (hbW.mono (Nat.le_of_lt HS5.it))).mono HBW2.it.size))) k).mono ?_
                      rintro e W' ⟨rfl, hb'⟩
                      exact ⟨_, rfl, hb', by show Value.bool _ = _; rw [HHU.it]⟩
                    | 3 =>
                      have ho1 := ho
                      cases ho
                      have t116 : a.tmps.getD 116 undef = .bool false := hG.dep 2 (by decide) 116 rfl
                      exact op_value_g (w1 := W) ho1 (wanted_none rfl) (.bool false) (by simp [go_sem, Act.eval, -Array.getD_eq_getD_getElem?, t116]) (Gr.refl _) rfl
                    | 4 =>
                      have ho1 := ho
                      cases ho
                      have t5 : a.tmps.getD 5 undef = .pointer (some ⟨w2.heap.size, 0, none⟩) := hG.old 5 (by decide)
                      have t117 : a.tmps.getD 117 undef = .bool false := hG.dep 3 (by decide) 117 rfl
                      exact op_idle ho1 (wanted_no rfl rfl t117) (Gr.refl _) trivial
                    | 5 =>
                      have ho1 := ho
                      cases ho
                      have t10 : a.tmps.getD 10 undef = .int .i64 k := hG.old 10 (by decide)
                      have t117 : a.tmps.getD 117 undef = .bool false := hG.dep 3 (by decide) 117 rfl
                      exact op_idle ho1 (wanted_no rfl rfl t117) (Gr.refl _) trivial
                    | 6 =>
                      have ho1 := ho
                      cases ho
                      have t117 : a.tmps.getD 117 undef = .bool false := hG.dep 3 (by decide) 117 rfl
                      exact op_idle ho1 (wanted_no rfl rfl t117) (Gr.refl _) trivial
                    | 7 =>
                      have ho1 := ho
                      cases ho
                      have t117 : a.tmps.getD 117 undef = .bool false := hG.dep 3 (by decide) 117 rfl
                      exact op_idle ho1 (wanted_no rfl rfl t117) (Gr.refl _) trivial
                    | 8 =>
                      have ho1 := ho
                      cases ho
                      have t117 : a.tmps.getD 117 undef = .bool false := hG.dep 3 (by decide) 117 rfl
                      exact op_value_g (w1 := W) ho1 (wanted_none rfl) (.bool false) (by simp [go_sem, Act.eval, -Array.getD_eq_getD_getElem?, t117]) (Gr.refl _) rfl
                    | 9 =>
                      have ho1 := ho
                      cases ho
                      have t122 : a.tmps.getD 122 undef = .bool false := hG.dep 8 (by decide) 122 rfl
                      exact op_value_g (w1 := W) ho1 (wanted_none rfl) (.bool false) (by simp [go_sem, Act.eval, -Array.getD_eq_getD_getElem?, t122]) (Gr.refl _) rfl
                    | 10 =>
                      have ho1 := ho
                      cases ho
                      have t6 : a.tmps.getD 6 undef = .func (.func 35) #[] #[.pointer (some ⟨w2.heap.size, 0, none⟩)] := hG.old 6 (by decide)
                      have t123 : a.tmps.getD 123 undef = .bool false := hG.dep 9 (by decide) 123 rfl
                      exact op_idle ho1 (wanted_no rfl rfl t123) (Gr.refl _) trivial
                    | 11 =>
                      have ho1 := ho
                      cases ho
                      have t5 : a.tmps.getD 5 undef = .pointer (some ⟨w2.heap.size, 0, none⟩) := hG.old 5 (by decide)
                      have t123 : a.tmps.getD 123 undef = .bool false := hG.dep 9 (by decide) 123 rfl
                      exact op_idle ho1 (wanted_no rfl rfl t123) (Gr.refl _) trivial
                    | 12 =>
                      have ho1 := ho
                      cases ho
                      have t123 : a.tmps.getD 123 undef = .bool false := hG.dep 9 (by decide) 123 rfl
                      exact op_idle ho1 (wanted_no rfl rfl t123) (Gr.refl _) trivial
                    | 13 =>
                      have ho1 := ho
                      cases ho
                      have t5 : a.tmps.getD 5 undef = .pointer (some ⟨w2.heap.size, 0, none⟩) := hG.old 5 (by decide)
                      have t123 : a.tmps.getD 123 undef = .bool false := hG.dep 9 (by decide) 123 rfl
                      exact op_idle ho1 (wanted_no rfl rfl t123) (Gr.refl _) trivial
                    | 14 =>
                      have ho1 := ho
                      cases ho
                      have t123 : a.tmps.getD 123 undef = .bool false := hG.dep 9 (by decide) 123 rfl
                      exact op_idle ho1 (wanted_no rfl rfl t123) (Gr.refl _) trivial
                    | 15 =>
                      have ho1 := ho
                      cases ho
                      have t123 : a.tmps.getD 123 undef = .bool false := hG.dep 9 (by decide) 123 rfl
                      exact op_idle ho1 (wanted_no rfl rfl t123) (Gr.refl _) trivial
                    | 16 =>
                      have ho1 := ho
                      cases ho
                      have t10 : a.tmps.getD 10 undef = .int .i64 k := hG.old 10 (by decide)
                      have t123 : a.tmps.getD 123 undef = .bool false := hG.dep 9 (by decide) 123 rfl
                      exact op_idle ho1 (wanted_no rfl rfl t123) (Gr.refl _) trivial
                    | 17 =>
                      have ho1 := ho
                      cases ho
                      have t123 : a.tmps.getD 123 undef = .bool false := hG.dep 9 (by decide) 123 rfl
                      exact op_idle ho1 (wanted_no rfl rfl t123) (Gr.refl _) trivial
                    | 18 =>
                      have ho1 := ho
                      cases ho
                      have t123 : a.tmps.getD 123 undef = .bool false := hG.dep 9 (by decide) 123 rfl
                      exact op_idle ho1 (wanted_no rfl rfl t123) (Gr.refl _) trivial
                    | 19 =>
                      have ho1 := ho
                      cases ho
                      have t123 : a.tmps.getD 123 undef = .bool false := hG.dep 9 (by decide) 123 rfl
                      exact op_idle ho1 (wanted_no rfl rfl t123) (Gr.refl _) trivial
                    | 20 =>
                      have ho1 := ho
                      cases ho
                      have t123 : a.tmps.getD 123 undef = .bool false := hG.dep 9 (by decide) 123 rfl
                      exact op_idle ho1 (wanted_no rfl rfl t123) (Gr.refl _) trivial
                    | 21 =>
                      have ho1 := ho
                      cases ho
                      have t123 : a.tmps.getD 123 undef = .bool false := hG.dep 9 (by decide) 123 rfl
                      exact op_idle ho1 (wanted_no rfl rfl t123) (Gr.refl _) trivial
                    | 22 =>
                      have ho1 := ho
                      cases ho
                      have t123 : a.tmps.getD 123 undef = .bool false := hG.dep 9 (by decide) 123 rfl
                      exact op_value_g (w1 := W) ho1 (wanted_none rfl) (.bool false) (by simp [go_sem, Act.eval, -Array.getD_eq_getD_getElem?, t123]) (Gr.refl _) rfl
                    | q + 23 => cases ho
                  · intro a W hbW hD
                    have hfr := hD.frame [114, 115, 116, 117, 118, 119, 120, 121, 122, 123, 124, 125, 126, 127, 128, 129, 130, 131, 132, 133, 134, 135, 136] (by kernel_rfl)
                    have t114 : a.tmps.getD 114 undef = .agg #[.slice A3 n3 c3, .slice A4 n4 c4] := hD.sp 0 (by decide) 114 rfl
                    have t115 : a.tmps.getD 115 undef = .int .i64 k := hD.sp 1 (by decide) 115 rfl
                    have t116 : a.tmps.getD 116 undef = .bool false := hD.sp 2 (by decide) 116 rfl
                    have t117 : a.tmps.getD 117 undef = .bool false := hD.sp 3 (by decide) 117 rfl
                    have t122 : a.tmps.getD 122 undef = .bool false := hD.sp 8 (by decide) 122 rfl
                    have t123 : a.tmps.getD 123 undef = .bool false := hD.sp 9 (by decide) 123 rfl
                    have t136 : a.tmps.getD 136 undef = .bool false := hD.sp 22 (by decide) 136 rfl
                    simp only [List.foldl_cons, List.foldl_nil] at hfr
                    rw [t114, t115, t116, t117, t122, t123, t136] at hfr
                    generalize a.tmps.getD 118 undef = u118 at hfr
                    generalize a.tmps.getD 119 undef = u119 at hfr
                    generalize a.tmps.getD 120 undef = u120 at hfr
                    generalize a.tmps.getD 121 undef = u121 at hfr
                    generalize a.tmps.getD 124 undef = u124 at hfr
                    generalize a.tmps.getD 125 undef = u125 at hfr
                    generalize a.tmps.getD 126 undef = u126 at hfr
                    generalize a.tmps.getD 127 undef = u127 at hfr
                    generalize a.tmps.getD 128 undef = u128 at hfr
                    generalize a.tmps.getD 129 undef = u129 at hfr
                    generalize a.tmps.getD 130 undef = u130 at hfr
                    generalize a.tmps.getD 131 undef = u131 at hfr
                    generalize a.tmps.getD 132 undef = u132 at hfr
                    generalize a.tmps.getD 133 undef = u133 at hfr
                    generalize a.tmps.getD 134 undef = u134 at hfr
                    generalize a.tmps.getD 135 undef = u135 at hfr
                    rw [hfr]
                    clear hfr hD t114 t115 t116 t117 t122 t123 t136
                    have HBW := Kp.mk hbW
                    clear hbW
                    simp only [Act.put, List.setIfInBounds_toArray, List.set_cons_succ, List.set_cons_zero]
                    obtain ⟨wz, rfl⟩ : ∃ wn : World, wn = W := ⟨_, rfl⟩
                    have HATz := Kp.mk (HAT.it.below HBW.it)
                    have HBz := Kp.mk (HB.it.trans (HBW.it.mono (Nat.le_of_lt HS5.it)))
                    go_wp2
                    go_roundg (5 - (k + 1))
                    case measure => omega
                    case rel => exact ⟨k + 1, _, _, _, _, _, _, _, _, by omega, by omega, by go_num, ⟨HGN.it⟩, HATz, HBz⟩
                | true =>
                  cases hw : hasB vs' ls' k with
                  | true =>
                    have HHU : Kp ((inB us k || inB ks k) = true) := ⟨hu⟩
                    have HHV : Kp ((inB vs' k || inB ls' k) = true) := ⟨hw⟩
                    have HGN := Kp.mk (HMID.it.stay (by rw [hu, hw]; rfl))
                    clear hu hw
                    go_wp2_with fail
                    refine wp_region_sp [.ex (.agg #[.slice A3 n3 c3, .slice A4 n4 c4]), .ex (.int .i64 k), .ex (.bool true), .ex (.bool true), .ex (.agg #[.slice A n c, .slice A' n' c']), .ex (.int .i64 k), .ex (.bool true), .ex (.bool false), .ex (.bool false), .ex (.bool false), .any, .any, .any, .any, .any, .any, .any, .any, .any, .any, .any, .any, .ex (.bool false)] (by kernel_rfl) (by kernel_rfl) ?_ ?_
                    · intro i o ho a W hbW hG
                      match i with
                      | 0 =>
                        have ho1 := ho
                        cases ho
                        have t3 : a.tmps.getD 3 undef = .pointer (some ⟨w.heap.size + 1, 0, none⟩) := hG.old 3 (by decide)
                        have y0 := (hbW.cell (p := ⟨w2.heap.size, 0, none⟩) hs5).trans hy0
                        have y1 := (hbW.cell (p := ⟨w2.heap.size, 1, none⟩) hs5).trans hy1
                        have z2 := (hbW.cell (p := ⟨w.heap.size + 1, 0, none⟩) hs6).trans hz2
                        have z3 := (hbW.cell (p := ⟨w.heap.size + 1, 1, none⟩) hs6).trans hz3
                        exact op_value_g (w1 := W) ho1 (wanted_none rfl) (.agg #[.slice A3 n3 c3, .slice A4 n4 c4]) (by simp [go_sem, Act.eval, -Array.getD_eq_getD_getElem?, t3, y0, y1, z2, z3]) (Gr.refl _) rfl
                      | 1 =>
                        have ho1 := ho
                        cases ho
                        have t10 : a.tmps.getD 10 undef = .int .i64 k := hG.old 10 (by decide)
                        exact op_value_g (w1 := W) ho1 (wanted_none rfl) (.int .i64 k) (by simp [go_sem, Act.eval, -Array.getD_eq_getD_getElem?, t10]) (Gr.refl _) rfl
                      | 2 =>
                        have ho1 := ho
                        cases ho
                        have t114 : a.tmps.getD 114 undef = .agg #[.slice A3 n3 c3, .slice A4 n4 c4] := hG.dep 0 (by decide) 114 rfl
                        have t115 : a.tmps.getD 115 undef = .int .i64 k := hG.dep 1 (by decide) 115 rfl
                        refine op_call_g ho1 (wanted_none rfl) 33 #[.agg #[.slice A3 n3 c3, .slice A4 n4 c4], .int .i64 k] (by simp [go_sem, Act.eval, -Array.getD_eq_getD_getElem?, t114, t115]) ?_
                        refine (has_any _ _ _ _ _ _ us ks W (HC.it.below (HBW2.it.trans ((HB.it.trans (hbW.mono (Nat.le_of_lt HS5.it))).mono HBW2.it.size))) (HD.it.below (HBW2.it.trans ((HB.it.trans (hbW.mono (Nat.le_of_lt HS5.it))).mono HBW2.it.size))) k).mono ?_
                        rintro e W' ⟨rfl, hb'⟩
                        exact ⟨_, rfl, hb', by show Value.bool _ = _; rw [HHU.it]⟩
                      | 3 =>
                        have ho1 := ho
                        cases ho
                        have t116 : a.tmps.getD 116 undef = .bool true := hG.dep 2 (by decide) 116 rfl
                        exact op_value_g (w1 := W) ho1 (wanted_none rfl) (.bool true) (by simp [go_sem, Act.eval, -Array.getD_eq_getD_getElem?, t116]) (Gr.refl _) rfl
                      | 4 =>
                        have ho1 := ho
                        cases ho
                        have t5 : a.tmps.getD 5 undef = .pointer (some ⟨w2.heap.size, 0, none⟩) := hG.old 5 (by decide)
                        have t117 : a.tmps.getD 117 undef = .bool true := hG.dep 3 (by decide) 117 rfl
                        have y0 := (hbW.cell (p := ⟨w2.heap.size, 0, none⟩) hs5).trans hy0
                        have y1 := (hbW.cell (p := ⟨w2.heap.size, 1, none⟩) hs5).trans hy1
                        have z2 := (hbW.cell (p := ⟨w.heap.size + 1, 0, none⟩) hs6).trans hz2
                        have z3 := (hbW.cell (p := ⟨w.heap.size + 1, 1, none⟩) hs6).trans hz3
                        exact op_value_g (w1 := W) ho1 (wanted_yes rfl rfl t117) (.agg #[.slice A n c, .slice A' n' c']) (by simp [go_sem, Act.eval, -Array.getD_eq_getD_getElem?, t5, t117, y0, y1, z2, z3]) (Gr.refl _) rfl
                      | 5 =>
                        have ho1 := ho
                        cases ho
                        have t10 : a.tmps.getD 10 undef = .int .i64 k := hG.old 10 (by decide)
                        have t117 : a.tmps.getD 117 undef = .bool true := hG.dep 3 (by decide) 117 rfl
                        exact op_value_g (w1 := W) ho1 (wanted_yes rfl rfl t117) (.int .i64 k) (by simp [go_sem, Act.eval, -Array.getD_eq_getD_getElem?, t10, t117]) (Gr.refl _) rfl
                      | 6 =>
                        have ho1 := ho
                        cases ho
                        have t118 : a.tmps.getD 118 undef = .agg #[.slice A n c, .slice A' n' c'] := hG.dep 4 (by decide) 118 rfl
                        have t119 : a.tmps.getD 119 undef = .int .i64 k := hG.dep 5 (by decide) 119 rfl
                        have t117 : a.tmps.getD 117 undef = .bool true := hG.dep 3 (by decide) 117 rfl
                        refine op_call_g ho1 (wanted_yes rfl rfl t117) 33 #[.agg #[.slice A n c, .slice A' n' c'], .int .i64 k] (by simp [go_sem, Act.eval, -Array.getD_eq_getD_getElem?, t118, t119, t117]) ?_
                        refine (has_any _ _ _ _ _ _ vs' ls' W (HAT.it.r1.below hbW) (HAT.it.r2.below hbW) k).mono ?_
                        rintro e W' ⟨rfl, hb'⟩
                        exact ⟨_, rfl, hb', by show Value.bool _ = _; rw [HHV.it]⟩
                      | 7 =>
                        have ho1 := ho
                        cases ho
                        have t120 : a.tmps.getD 120 undef = .bool true := hG.dep 6 (by decide) 120 rfl
                        have t117 : a.tmps.getD 117 undef = .bool true := hG.dep 3 (by decide) 117 rfl
                        exact op_value_g (w1 := W) ho1 (wanted_yes rfl rfl t117) (.bool false) (by simp [go_sem, Act.eval, -Array.getD_eq_getD_getElem?, t120, t117]) (Gr.refl _) rfl
                      | 8 =>
                        have ho1 := ho
                        cases ho
                        have t117 : a.tmps.getD 117 undef = .bool true := hG.dep 3 (by decide) 117 rfl
                        have t121 : a.tmps.getD 121 undef = .bool false := hG.dep 7 (by decide) 121 rfl
                        exact op_value_g (w1 := W) ho1 (wanted_none rfl) (.bool false) (by simp [go_sem, Act.eval, -Array.getD_eq_getD_getElem?, t117, t121]) (Gr.refl _) rfl
                      | 9 =>
                        have ho1 := ho
                        cases ho
                        have t122 : a.tmps.getD 122 undef = .bool false := hG.dep 8 (by decide) 122 rfl
                        exact op_value_g (w1 := W) ho1 (wanted_none rfl) (.bool false) (by simp [go_sem, Act.eval, -Array.getD_eq_getD_getElem?, t122]) (Gr.refl _) rfl
                      | 10 =>
                        have ho1 := ho
                        cases ho
                        have t6 : a.tmps.getD 6 undef = .func (.func 35) #[] #[.pointer (some ⟨w2.heap.size, 0, none⟩)] := hG.old 6 (by decide)
                        have t123 : a.tmps.getD 123 undef = .bool false := hG.dep 9 (by decide) 123 rfl
                        exact op_idle ho1 (wanted_no rfl rfl t123) (Gr.refl _) trivial
                      | 11 =>
                        have ho1 := ho
                        cases ho
                        have t5 : a.tmps.getD 5 undef = .pointer (some ⟨w2.heap.size, 0, none⟩) := hG.old 5 (by decide)
                        have t123 : a.tmps.getD 123 undef = .bool false := hG.dep 9 (by decide) 123 rfl
                        exact op_idle ho1 (wanted_no rfl rfl t123) (Gr.refl _) trivial
                      | 12 =>
                        have ho1 := ho
                        cases ho
                        have t123 : a.tmps.getD 123 undef = .bool false := hG.dep 9 (by decide) 123 rfl
                        exact op_idle ho1 (wanted_no rfl rfl t123) (Gr.refl _) trivial
                      | 13 =>
                        have ho1 := ho
                        cases ho
                        have t5 : a.tmps.getD 5 undef = .pointer (some ⟨w2.heap.size, 0, none⟩) := hG.old 5 (by decide)
                        have t123 : a.tmps.getD 123 undef = .bool false := hG.dep 9 (by decide) 123 rfl
                        exact op_idle ho1 (wanted_no rfl rfl t123) (Gr.refl _) trivial
                      | 14 =>
                        have ho1 := ho
                        cases ho
                        have t123 : a.tmps.getD 123 undef = .bool false := hG.dep 9 (by decide) 123 rfl
                        exact op_idle ho1 (wanted_no rfl rfl t123) (Gr.refl _) trivial
                      | 15 =>
                        have ho1 := ho
                        cases ho
                        have t123 : a.tmps.getD 123 undef = .bool false := hG.dep 9 (by decide) 123 rfl
                        exact op_idle ho1 (wanted_no rfl rfl t123) (Gr.refl _) trivial
                      | 16 =>
                        have ho1 := ho
                        cases ho
                        have t10 : a.tmps.getD 10 undef = .int .i64 k := hG.old 10 (by decide)
                        have t123 : a.tmps.getD 123 undef = .bool false := hG.dep 9 (by decide) 123 rfl
                        exact op_idle ho1 (wanted_no rfl rfl t123) (Gr.refl _) trivial
                      | 17 =>
                        have ho1 := ho
                        cases ho
                        have t123 : a.tmps.getD 123 undef = .bool false := hG.dep 9 (by decide) 123 rfl
                        exact op_idle ho1 (wanted_no rfl rfl t123) (Gr.refl _) trivial
                      | 18 =>
                        have ho1 := ho
                        cases ho
                        have t123 : a.tmps.getD 123 undef = .bool false := hG.dep 9 (by decide) 123 rfl
                        exact op_idle ho1 (wanted_no rfl rfl t123) (Gr.refl _) trivial
                      | 19 =>
                        have ho1 := ho
                        cases ho
                        have t123 : a.tmps.getD 123 undef = .bool false := hG.dep 9 (by decide) 123 rfl
                        exact op_idle ho1 (wanted_no rfl rfl t123) (Gr.refl _) trivial
                      | 20 =>
                        have ho1 := ho
                        cases ho
                        have t123 : a.tmps.getD 123 undef = .bool false := hG.dep 9 (by decide) 123 rfl
                        exact op_idle ho1 (wanted_no rfl rfl t123) (Gr.refl _) trivial
                      | 21 =>
                        have ho1 := ho
                        cases ho
                        have t123 : a.tmps.getD 123 undef = .bool false := hG.dep 9 (by decide) 123 rfl
                        exact op_idle ho1 (wanted_no rfl rfl t123) (Gr.refl _) trivial
                      | 22 =>
                        have ho1 := ho
                        cases ho
                        have t123 : a.tmps.getD 123 undef = .bool false := hG.dep 9 (by decide) 123 rfl
                        exact op_value_g (w1 := W) ho1 (wanted_none rfl) (.bool false) (by simp [go_sem, Act.eval, -Array.getD_eq_getD_getElem?, t123]) (Gr.refl _) rfl
                      | q + 23 => cases ho
                    · intro a W hbW hD
                      have hfr := hD.frame [114, 115, 116, 117, 118, 119, 120, 121, 122, 123, 124, 125, 126, 127, 128, 129, 130, 131, 132, 133, 134, 135, 136] (by kernel_rfl)
                      have t114 : a.tmps.getD 114 undef = .agg #[.slice A3 n3 c3, .slice A4 n4 c4] := hD.sp 0 (by decide) 114 rfl
                      have t115 : a.tmps.getD 115 undef = .int .i64 k := hD.sp 1 (by decide) 115 rfl
                      have t116 : a.tmps.getD 116 undef = .bool true := hD.sp 2 (by decide) 116 rfl
                      have t117 : a.tmps.getD 117 undef = .bool true := hD.sp 3 (by decide) 117 rfl
                      have t118 : a.tmps.getD 118 undef = .agg #[.slice A n c, .slice A' n' c'] := hD.sp 4 (by decide) 118 rfl
                      have t119 : a.tmps.getD 119 undef = .int .i64 k := hD.sp 5 (by decide) 119 rfl
                      have t120 : a.tmps.getD 120 undef = .bool true := hD.sp 6 (by decide) 120 rfl
                      have t121 : a.tmps.getD 121 undef = .bool false := hD.sp 7 (by decide) 121 rfl
                      have t122 : a.tmps.getD 122 undef = .bool false := hD.sp 8 (by decide) 122 rfl
                      have t123 : a.tmps.getD 123 undef = .bool false := hD.sp 9 (by decide) 123 rfl
                      have t136 : a.tmps.getD 136 undef = .bool false := hD.sp 22 (by decide) 136 rfl
                      simp only [List.foldl_cons, List.foldl_nil] at hfr
                      rw [t114, t115, t116, t117, t118, t119, t120, t121, t122, t123, t136] at hfr
                      generalize a.tmps.getD 124 undef = u124 at hfr
                      generalize a.tmps.getD 125 undef = u125 at hfr
                      generalize a.tmps.getD 126 undef = u126 at hfr
                      generalize a.tmps.getD 127 undef = u127 at hfr
                      generalize a.tmps.getD 128 undef = u128 at hfr
                      generalize a.tmps.getD 129 undef = u129 at hfr
                      generalize a.tmps.getD 130 undef = u130 at hfr
                      generalize a.tmps.getD 131 undef = u131 at hfr
                      generalize a.tmps.getD 132 undef = u132 at hfr
                      generalize a.tmps.getD 133 undef = u133 at hfr
                      generalize a.tmps.getD 134 undef = u134 at hfr
                      generalize a.tmps.getD 135 undef = u135 at hfr
                      rw [hfr]
                      clear hfr hD t114 t115 t116 t117 t118 t119 t120 t121 t122 t123 t136
                      have HBW := Kp.mk hbW
                      clear hbW
                      simp only [Act.put, List.setIfInBounds_toArray, List.set_cons_succ, List.set_cons_zero]
                      obtain ⟨wz, rfl⟩ : ∃ wn : World, wn = W := ⟨_, rfl⟩
                      have HATz := Kp.mk (HAT.it.below HBW.it)
                      have HBz := Kp.mk (HB.it.trans (HBW.it.mono (Nat.le_of_lt HS5.it)))
                      go_wp2
                      go_roundg (5 - (k + 1))
                      case measure => omega
                      case rel => exact ⟨k + 1, _, _, _, _, _, _, _, _, by omega, by omega, by go_num, ⟨HGN.it⟩, HATz, HBz⟩
                  | false =>
                    have HHU : Kp ((inB us k || inB ks k) = true) := ⟨hu⟩
                    have HHV : Kp ((inB vs' k || inB ls' k) = false) := ⟨hw⟩
                    obtain ⟨g5, g6⟩ := HMID.it.add hkn hu hw
                    have HGN := Kp.mk g5
                    have HMZ := Kp.mk g6
                    have HGOOD := Kp.mk HMID.it.1.1
                    clear hu hw g5 g6
                    have HLEN : Kp ((ls').length + 1 ≤ 17592186044416) := ⟨by have := HAT.it.r2.le; omega⟩
                    have HLEN2 : Kp ((ls').length ≤ 1000) := ⟨good_le HGOOD.it⟩
                    go_wp2_with fail
                    refine wp_region_plan_sp ⟨18, 15, 1000, [15, 17], 20, 129⟩ [.ex (.agg #[.slice A3 n3 c3, .slice A4 n4 c4]), .ex (.int .i64 k), .ex (.bool true), .ex (.bool true), .ex (.agg #[.slice A n c, .slice A' n' c']), .ex (.int .i64 k), .ex (.bool false), .ex (.bool true), .ex (.bool true), .ex (.bool true), .ex (.func (.func 35) #[] #[.pointer (some ⟨w2.heap.size, 0, none⟩)]), .ex (.pointer (some ⟨w2.heap.size, 0, none⟩)), .ex (.slice A n c), .ex (.pointer (some ⟨w2.heap.size, 1, none⟩)), .ex (.slice A' n' c'), .own wc.heap.size ls', .ex (.int .i64 k), .cel (k : Int), .sln (ls' ++ [(k : Int)]), .ror (.slice A n c) (ls' ++ [(k : Int)])] (by kernel_rfl) (by kernel_rfl) (by simp [SpW.isOwn]) (by simp [SpW.isOwn, SpW.isNo]) (by kernel_rfl) (by kernel_rfl) (by kernel_rfl) ?_ ?_ ?_
                    · intro i o ho hiL hiK a W hbW hG
                      match i with
                      | 0 =>
                        have ho1 := ho
                        cases ho
                        have t3 : a.tmps.getD 3 undef = .pointer (some ⟨w.heap.size + 1, 0, none⟩) := hG.old 3 (by decide)
                        have y0 := (hbW.cell (p := ⟨w2.heap.size, 0, none⟩) hs5).trans hy0
                        have y1 := (hbW.cell (p := ⟨w2.heap.size, 1, none⟩) hs5).trans hy1
                        have z2 := (hbW.cell (p := ⟨w.heap.size + 1, 0, none⟩) hs6).trans hz2
                        have z3 := (hbW.cell (p := ⟨w.heap.size + 1, 1, none⟩) hs6).trans hz3
                        exact op_value_3 (w1 := W) ho1 (wanted_none rfl) (by decide) (.agg #[.slice A3 n3 c3, .slice A4 n4 c4]) (by simp [go_sem, Act.eval, -Array.getD_eq_getD_getElem?, t3, y0, y1, z2, z3]) (Gr.refl _) rfl
                      | 1 =>
                        have ho1 := ho
                        cases ho
                        have t10 : a.tmps.getD 10 undef = .int .i64 k := hG.old 10 (by decide)
                        exact op_value_3 (w1 := W) ho1 (wanted_none rfl) (by decide) (.int .i64 k) (by simp [go_sem, Act.eval, -Array.getD_eq_getD_getElem?, t10]) (Gr.refl _) rfl
                      | 2 =>
                        have ho1 := ho
                        cases ho
                        have t114 : a.tmps.getD 114 undef = .agg #[.slice A3 n3 c3, .slice A4 n4 c4] := hG.dep 0 (by decide) (by decide) 114 rfl
                        have t115 : a.tmps.getD 115 undef = .int .i64 k := hG.dep 1 (by decide) (by decide) 115 rfl
                        refine op_call_3 ho1 (wanted_none rfl) 33 #[.agg #[.slice A3 n3 c3, .slice A4 n4 c4], .int .i64 k] (by simp [go_sem, Act.eval, -Array.getD_eq_getD_getElem?, t114, t115]) ?_
                        refine (has_any _ _ _ _ _ _ us ks W (HC.it.below (HBW2.it.trans ((HB.it.trans (hbW.mono (Nat.le_of_lt HS5.it))).mono HBW2.it.size))) (HD.it.below (HBW2.it.trans ((HB.it.trans (hbW.mono (Nat.le_of_lt HS5.it))).mono HBW2.it.size))) k).mono ?_
                        rintro e W' ⟨rfl, hb'⟩
                        exact ⟨_, rfl, hb', by show Value.bool _ = _; rw [HHU.it], fun h => absurd h (by decide)⟩
                      | 3 =>
                        have ho1 := ho
                        cases ho
                        have t116 : a.tmps.getD 116 undef = .bool true := hG.dep 2 (by decide) (by decide) 116 rfl
                        exact op_value_3 (w1 := W) ho1 (wanted_none rfl) (by decide) (.bool true) (by simp [go_sem, Act.eval, -Array.getD_eq_getD_getElem?, t116]) (Gr.refl _) rfl
                      | 4 =>
                        have ho1 := ho
                        cases ho
                        have t5 : a.tmps.getD 5 undef = .pointer (some ⟨w2.heap.size, 0, none⟩) := hG.old 5 (by decide)
                        have t117 : a.tmps.getD 117 undef = .bool true := hG.dep 3 (by decide) (by decide) 117 rfl
                        have y0 := (hbW.cell (p := ⟨w2.heap.size, 0, none⟩) hs5).trans hy0
                        have y1 := (hbW.cell (p := ⟨w2.heap.size, 1, none⟩) hs5).trans hy1
                        have z2 := (hbW.cell (p := ⟨w.heap.size + 1, 0, none⟩) hs6).trans hz2
                        have z3 := (hbW.cell (p := ⟨w.heap.size + 1, 1, none⟩) hs6).trans hz3
                        exact op_value_3 (w1 := W) ho1 (wanted_yes rfl rfl t117) (by decide) (.agg #[.slice A n c, .slice A' n' c']) (by simp [go_sem, Act.eval, -Array.getD_eq_getD_getElem?, t5, t117, y0, y1, z2, z3]) (Gr.refl _) rfl
                      | 5 =>
                        have ho1 := ho
                        cases ho
                        have t10 : a.tmps.getD 10 undef = .int .i64 k := hG.old 10 (by decide)
                        have t117 : a.tmps.getD 117 undef = .bool true := hG.dep 3 (by decide) (by decide) 117 rfl
                        exact op_value_3 (w1 := W) ho1 (wanted_yes rfl rfl t117) (by decide) (.int .i64 k) (by simp [go_sem, Act.eval, -Array.getD_eq_getD_getElem?, t10, t117]) (Gr.refl _) rfl
                      | 6 =>
                        have ho1 := ho
                        cases ho
                        have t118 : a.tmps.getD 118 undef = .agg #[.slice A n c, .slice A' n' c'] := hG.dep 4 (by decide) (by decide) 118 rfl
                        have t119 : a.tmps.getD 119 undef = .int .i64 k := hG.dep 5 (by decide) (by decide) 119 rfl
                        have t117 : a.tmps.getD 117 undef = .bool true := hG.dep 3 (by decide) (by decide) 117 rfl
                        refine op_call_3 ho1 (wanted_yes rfl rfl t117) 33 #[.agg #[.slice A n c, .slice A' n' c'], .int .i64 k] (by simp [go_sem, Act.eval, -Array.getD_eq_getD_getElem?, t118, t119, t117]) ?_
                        refine (has_any _ _ _ _ _ _ vs' ls' W (HAT.it.r1.below hbW) (HAT.it.r2.below hbW) k).mono ?_
                        rintro e W' ⟨rfl, hb'⟩
                        exact ⟨_, rfl, hb', by show Value.bool _ = _; rw [HHV.it], fun h => absurd h (by decide)⟩
                      | 7 =>
                        have ho1 := ho
                        cases ho
                        have t120 : a.tmps.getD 120 undef = .bool false := hG.dep 6 (by decide) (by decide) 120 rfl
                        have t117 : a.tmps.getD 117 undef = .bool true := hG.dep 3 (by decide) (by decide) 117 rfl
                        exact op_value_3 (w1 := W) ho1 (wanted_yes rfl rfl t117) (by decide) (.bool true) (by simp [go_sem, Act.eval, -Array.getD_eq_getD_getElem?, t120, t117]) (Gr.refl _) rfl
                      | 8 =>
                        have ho1 := ho
                        cases ho
                        have t117 : a.tmps.getD 117 undef = .bool true := hG.dep 3 (by decide) (by decide) 117 rfl
                        have t121 : a.tmps.getD 121 undef = .bool true := hG.dep 7 (by decide) (by decide) 121 rfl
                        exact op_value_3 (w1 := W) ho1 (wanted_none rfl) (by decide) (.bool true) (by simp [go_sem, Act.eval, -Array.getD_eq_getD_getElem?, t117, t121]) (Gr.refl _) rfl
                      | 9 =>
                        have ho1 := ho
                        cases ho
                        have t122 : a.tmps.getD 122 undef = .bool true := hG.dep 8 (by decide) (by decide) 122 rfl
                        exact op_value_3 (w1 := W) ho1 (wanted_none rfl) (by decide) (.bool true) (by simp [go_sem, Act.eval, -Array.getD_eq_getD_getElem?, t122]) (Gr.refl _) rfl
                      | 10 =>
                        have ho1 := ho
                        cases ho
                        have t6 : a.tmps.getD 6 undef = .func (.func 35) #[] #[.pointer (some ⟨w2.heap.size, 0, none⟩)] := hG.old 6 (by decide)
                        have t123 : a.tmps.getD 123 undef = .bool true := hG.dep 9 (by decide) (by decide) 123 rfl
                        exact op_value_3 (w1 := W) ho1 (wanted_yes rfl rfl t123) (by decide) (.func (.func 35) #[] #[.pointer (some ⟨w2.heap.size, 0, none⟩)]) (by simp [go_sem, Act.eval, -Array.getD_eq_getD_getElem?, t6, t123]) (Gr.refl _) rfl
                      | 11 =>
                        have ho1 := ho
                        cases ho
                        have t5 : a.tmps.getD 5 undef = .pointer (some ⟨w2.heap.size, 0, none⟩) := hG.old 5 (by decide)
                        have t123 : a.tmps.getD 123 undef = .bool true := hG.dep 9 (by decide) (by decide) 123 rfl
                        exact op_value_3 (w1 := W) ho1 (wanted_yes rfl rfl t123) (by decide) (.pointer (some ⟨w2.heap.size, 0, none⟩)) (by simp [go_sem, Act.eval, -Array.getD_eq_getD_getElem?, t5, t123]) (Gr.refl _) rfl
                      | 12 =>
                        have ho1 := ho
                        cases ho
                        have t125 : a.tmps.getD 125 undef = .pointer (some ⟨w2.heap.size, 0, none⟩) := hG.dep 11 (by decide) (by decide) 125 rfl
                        have t123 : a.tmps.getD 123 undef = .bool true := hG.dep 9 (by decide) (by decide) 123 rfl
                        have y0 := (hbW.cell (p := ⟨w2.heap.size, 0, none⟩) hs5).trans hy0
                        have y1 := (hbW.cell (p := ⟨w2.heap.size, 1, none⟩) hs5).trans hy1
                        have z2 := (hbW.cell (p := ⟨w.heap.size + 1, 0, none⟩) hs6).trans hz2
                        have z3 := (hbW.cell (p := ⟨w.heap.size + 1, 1, none⟩) hs6).trans hz3
                        exact op_value_3 (w1 := W) ho1 (wanted_yes rfl rfl t123) (by decide) (.slice A n c) (by simp [go_sem, Act.eval, -Array.getD_eq_getD_getElem?, t125, t123, y0, y1, z2, z3]) (Gr.refl _) rfl
                      | 13 =>
                        have ho1 := ho
                        cases ho
                        have t5 : a.tmps.getD 5 undef = .pointer (some ⟨w2.heap.size, 0, none⟩) := hG.old 5 (by decide)
                        have t123 : a.tmps.getD 123 undef = .bool true := hG.dep 9 (by decide) (by decide) 123 rfl
                        exact op_value_3 (w1 := W) ho1 (wanted_yes rfl rfl t123) (by decide) (.pointer (some ⟨w2.heap.size, 1, none⟩)) (by simp [go_sem, Act.eval, -Array.getD_eq_getD_getElem?, t5, t123]) (Gr.refl _) rfl
                      | 14 =>
                        have ho1 := ho
                        cases ho
                        have t127 : a.tmps.getD 127 undef = .pointer (some ⟨w2.heap.size, 1, none⟩) := hG.dep 13 (by decide) (by decide) 127 rfl
                        have t123 : a.tmps.getD 123 undef = .bool true := hG.dep 9 (by decide) (by decide) 123 rfl
                        have y0 := (hbW.cell (p := ⟨w2.heap.size, 0, none⟩) hs5).trans hy0
                        have y1 := (hbW.cell (p := ⟨w2.heap.size, 1, none⟩) hs5).trans hy1
                        have z2 := (hbW.cell (p := ⟨w.heap.size + 1, 0, none⟩) hs6).trans hz2
                        have z3 := (hbW.cell (p := ⟨w.heap.size + 1, 1, none⟩) hs6).trans hz3
                        exact op_value_3 (w1 := W) ho1 (wanted_yes rfl rfl t123) (by decide) (.slice A' n' c') (by simp [go_sem, Act.eval, -Array.getD_eq_getD_getElem?, t127, t123, y0, y1, z2, z3]) (Gr.refl _) rfl
                      | 15 =>
                        have ho1 := ho
                        cases ho
                        have t128 : a.tmps.getD 128 undef = .slice A' n' c' := hG.dep 14 (by decide) (by decide) 128 rfl
                        have t123 : a.tmps.getD 123 undef = .bool true := hG.dep 9 (by decide) (by decide) 123 rfl
                        refine op_call_3 ho1 (wanted_yes rfl rfl t123) 30 #[.slice A' n' c'] (by simp [go_sem, Act.eval, -Array.getD_eq_getD_getElem?, t128, t123]) ?_
                        refine (clone_any A' n' c' ls' W (HAT.it.r2.below hbW) HAT.it.e2).mono ?_
                        rintro e W' ⟨v, rfl, ho, hb'⟩
                        exact ⟨_, rfl, hb', (OwnS.new ho hbW.size hb'.size).1, fun _ => (OwnS.new ho hbW.size hb'.size).2⟩
                      | 16 =>
                        have ho1 := ho
                        cases ho
                        have t10 : a.tmps.getD 10 undef = .int .i64 k := hG.old 10 (by decide)
                        have t123 : a.tmps.getD 123 undef = .bool true := hG.dep 9 (by decide) (by decide) 123 rfl
                        exact op_value_3 (w1 := W) ho1 (wanted_yes rfl rfl t123) (by decide) (.int .i64 k) (by simp [go_sem, Act.eval, -Array.getD_eq_getD_getElem?, t10, t123]) (Gr.refl _) rfl
                      | 17 =>
                        have ho1 := ho
                        cases ho
                        have t130 : a.tmps.getD 130 undef = .int .i64 k := hG.dep 16 (by decide) (by decide) 130 rfl
                        have t123 : a.tmps.getD 123 undef = .bool true := hG.dep 9 (by decide) (by decide) 123 rfl
                        exact op_value_3 (w1 := W.alloc (.cells #[.int .i64 k] 3)) ho1 (wanted_yes rfl rfl t123) (by decide) (.slice (some ⟨W.heap.size, 0, none⟩) 1 1) (by simp [go_sem, Act.eval, -Array.getD_eq_getD_getElem?, t130, t123]) ((Below.refl _ _).alloc (Nat.le_refl _) _) ⟨_, rfl, by simp, blk_cell (blk_new _ _) rfl⟩
                      | 18 => exact absurd rfl hiK
                      | 19 =>
                        have ho1 := ho
                        cases ho
                        have t126 : a.tmps.getD 126 undef = .slice A n c := hG.dep 12 (by decide) (by decide) 126 rfl
                        obtain ⟨A132, n132, c132, t132, r132, q132⟩ : SlN (ls' ++ [(k : Int)]) (a.tmps.getD 132 undef) W := hG.dep 18 (by decide) (by decide) 132 rfl
                        have t123 : a.tmps.getD 123 undef = .bool true := hG.dep 9 (by decide) (by decide) 123 rfl
                        exact op_value_3 (w1 := W) ho1 (wanted_yes rfl rfl t123) (by decide) (.agg #[.slice A n c, .slice A132 n132 c132]) (by simp [go_sem, Act.eval, -Array.getD_eq_getD_getElem?, t126, t132, t123]) (Gr.refl _) ⟨_, _, _, rfl, r132, q132⟩
                      | q + 20 => exact absurd hiL (by simp)
                    · intro o ho a W hbW hG
                      have ho1 := ho
                      cases ho
                      have o129 : OwnS wc.heap.size ls' (a.tmps.getD 129 undef) W := hG.dep 15 (by decide) (by decide) 129 rfl
                      obtain ⟨b131, t131, l131, g131⟩ : CelP (k : Int) (a.tmps.getD 131 undef) W := hG.dep 17 (by decide) (by decide) 131 rfl
                      have t123 : a.tmps.getD 123 undef = .bool true := hG.dep 9 (by decide) (by decide) 123 rfl
                      obtain ⟨base, hN, hbs, HO⟩ := o129
                      refine op_app ho1 (wanted_yes rfl rfl t123) (.tmp 129) (.tmp 131) rfl base _ _ _ b131 rfl t131 HO g131 hbs HLEN.it ?_
                      intro v' w' hown hg
                      obtain ⟨A, c, hv, hn, _, _, hr⟩ := hown.form3 (by rw [List.length_append]; have := HLEN2.it; simp; omega)
                      exact ⟨v', rfl, hg, fun b hb => Nat.le_trans hN (HO.base_le b hb), A, _, c, hv, hr, hn⟩
                    · intro a W hbW hD
                      have hfr := hD.frame (by decide) [114, 115, 116, 117, 118, 119, 120, 121, 122, 123, 124, 125, 126, 127, 128, 129, 130, 131, 132, 133] (by kernel_rfl)
                      have t114 : a.tmps.getD 114 undef = .agg #[.slice A3 n3 c3, .slice A4 n4 c4] := hD.sp 0 (by decide) (by decide) 114 rfl
                      have t115 : a.tmps.getD 115 undef = .int .i64 k := hD.sp 1 (by decide) (by decide) 115 rfl
                      have t116 : a.tmps.getD 116 undef = .bool true := hD.sp 2 (by decide) (by decide) 116 rfl
                      have t117 : a.tmps.getD 117 undef = .bool true := hD.sp 3 (by decide) (by decide) 117 rfl
                      have t118 : a.tmps.getD 118 undef = .agg #[.slice A n c, .slice A' n' c'] := hD.sp 4 (by decide) (by decide) 118 rfl
                      have t119 : a.tmps.getD 119 undef = .int .i64 k := hD.sp 5 (by decide) (by decide) 119 rfl
                      have t120 : a.tmps.getD 120 undef = .bool false := hD.sp 6 (by decide) (by decide) 120 rfl
                      have t121 : a.tmps.getD 121 undef = .bool true := hD.sp 7 (by decide) (by decide) 121 rfl
                      have t122 : a.tmps.getD 122 undef = .bool true := hD.sp 8 (by decide) (by decide) 122 rfl
                      have t123 : a.tmps.getD 123 undef = .bool true := hD.sp 9 (by decide) (by decide) 123 rfl
                      have t124 : a.tmps.getD 124 undef = .func (.func 35) #[] #[.pointer (some ⟨w2.heap.size, 0, none⟩)] := hD.sp 10 (by decide) (by decide) 124 rfl
                      have t125 : a.tmps.getD 125 undef = .pointer (some ⟨w2.heap.size, 0, none⟩) := hD.sp 11 (by decide) (by decide) 125 rfl
                      have t126 : a.tmps.getD 126 undef = .slice A n c := hD.sp 12 (by decide) (by decide) 126 rfl
                      have t127 : a.tmps.getD 127 undef = .pointer (some ⟨w2.heap.size, 1, none⟩) := hD.sp 13 (by decide) (by decide) 127 rfl
                      have t128 : a.tmps.getD 128 undef = .slice A' n' c' := hD.sp 14 (by decide) (by decide) 128 rfl
                      have t130 : a.tmps.getD 130 undef = .int .i64 k := hD.sp 16 (by decide) (by decide) 130 rfl
                      obtain ⟨A133, n133, c133, t133, r133, q133⟩ := hD.sp 19 (by decide) (by decide) 133 rfl
                      simp only [List.foldl_cons, List.foldl_nil] at hfr
                      rw [t114, t115, t116, t117, t118, t119, t120, t121, t122, t123, t124, t125, t126, t127, t128, t130, t133] at hfr
                      generalize a.tmps.getD 129 undef = u129 at hfr
                      generalize a.tmps.getD 131 undef = u131 at hfr
                      generalize a.tmps.getD 132 undef = u132 at hfr
                      rw [hfr]
                      clear hfr hD t114 t115 t116 t117 t118 t119 t120 t121 t122 t123 t124 t125 t126 t127 t128 t130 t133
                      have HBW := Kp.mk hbW
                      clear hbW
                      simp only [Act.put, List.setIfInBounds_toArray, List.set_cons_succ, List.set_cons_zero]
                      refine wpOps_tail ?_
                      simp only [List.drop_succ_cons, List.drop_zero]
                      go_wp2_with (go_at_call 35; refine (step_any w2.heap.size A n c A' n' c' vs' ls' A n c A133 n133 c133 vs' (ls' ++ [(k : Int)]) _ (HAT.it.below HBW.it) (HAT.it.r1.below HBW.it) r133 HAT.it.e1 q133 HMZ.it).mono ?_; rintro e wz ⟨rfl, hb', hat'⟩; have HATz := Kp.mk hat'; have HBz := Kp.mk (HB.it.trans ((HBW.it.mono (Nat.le_of_lt HS5.it)).trans hb')); clear hb' hat')
                      go_wp2
                      go_roundg (5 - (k + 1))
                      case measure => omega
                      case rel => exact ⟨k + 1, _, _, _, _, _, _, _, _, by omega, by omega, by go_num, ⟨HGN.it⟩, HATz, HBz⟩
            · obtain rfl : k = 5 := by omega
              obtain ⟨g5, g6⟩ := Go2.done HGO.it HGU.it
              have HAL := Kp.mk g5
              obtain rfl : n3 = n := by rw [← HAT.it.r1.len, ← HC.it.len]; exact g6.symm
              clear g5 g6
              have HNA : Kp (n3 + n' ≤ 1000000000) := ⟨by have h1 := good_le HGO.it.1; have h2 := good_le' HGO.it.1; have h3 := HAT.it.r1.len; have h4 := HAT.it.r2.len; omega⟩
              have HNU : Kp (n3 + n4 ≤ 1000000000) := ⟨by have h1 := good_le HGU.it; have h2 := good_le' HGU.it; have h3 := HC.it.len; have h4 := HD.it.len; omega⟩
              have HLU : Kp ((allL us ks).length * 8 ≤ 140737488351232) := ⟨by unfold allL; have h0 := Lib.compact_length_le (sorted (us ++ ks)); rw [sorted_length, List.length_append] at h0; have h1 := good_le HGU.it; have h2 := good_le' HGU.it; omega⟩
              have HLA : Kp ((allL vs' ls').length * 8 ≤ 140737488351232) := ⟨by rw [HAL.it]; exact HLU.it⟩
              have hs5 : w2.heap.size < wr.heap.size := (Array.getElem?_eq_some_iff.1 HAT.it.box).1
              have hy0 : wr.cell? ⟨w2.heap.size, 0, none⟩ = some (.slice A n3 c) := blk_cell HAT.it.box rfl
              have hy1 : wr.cell? ⟨w2.heap.size, 1, none⟩ = some (.slice A' n' c') := blk_cell HAT.it.box rfl
              have hz2 := (HB.it.cell (p := ⟨w.heap.size + 1, 0, none⟩) hs2).trans Z2.it
              have hz3 := (HB.it.cell (p := ⟨w.heap.size + 1, 1, none⟩) hs2).trans Z3.it
              have HS5 := Kp.mk hs5
              have hs6 : w.heap.size + 1 < wr.heap.size := by omega
              go_wp2_with fail
              refine wp_region_sp [.ex (.agg #[.slice A n3 c, .slice A' n' c']), .sl (allL vs' ls'), .ex (.agg #[.slice A3 n3 c3, .slice A4 n4 c4]), .sl (allL us ks), .ex (.bool true), .ex (.bool true), .ex (.pointer (some ⟨w2.heap.size, 0, none⟩)), .ex (.slice A n3 c), .ex (.int .i64 (n3 : Int)), .ex (.pointer (some ⟨w.heap.size + 1, 0, none⟩)), .ex (.slice A3 n3 c3), .ex (.int .i64 (n3 : Int)), .ex (.bool true), .ex (.bool true), .ex (.bool true), .ex (.bool true), .ex (.bool true), .ex (.bool true)] (by kernel_rfl) (by kernel_rfl) ?_ ?_
              · intro i o ho a W hbW hG
                match i with
                | 0 =>
                  have ho1 := ho
                  cases ho
                  have t5 : a.tmps.getD 5 undef = .pointer (some ⟨w2.heap.size, 0, none⟩) := hG.old 5 (by decide)
                  have y0 := (hbW.cell (p := ⟨w2.heap.size, 0, none⟩) hs5).trans hy0
                  have y1 := (hbW.cell (p := ⟨w2.heap.size, 1, none⟩) hs5).trans hy1
                  have z2 := (hbW.cell (p := ⟨w.heap.size + 1, 0, none⟩) hs6).trans hz2
                  have z3 := (hbW.cell (p := ⟨w.heap.size + 1, 1, none⟩) hs6).trans hz3
                  exact op_value_g (w1 := W) ho1 (wanted_none rfl) (.agg #[.slice A n3 c, .slice A' n' c']) (by simp [go_sem, Act.eval, -Array.getD_eq_getD_getElem?, t5, y0, y1, z2, z3]) (Gr.refl _) rfl
                | 1 =>
                  have ho1 := ho
                  cases ho
                  have t138 : a.tmps.getD 138 undef = .agg #[.slice A n3 c, .slice A' n' c'] := hG.dep 0 (by decide) 138 rfl
                  refine op_call_g ho1 (wanted_none rfl) 29 #[.agg #[.slice A n3 c, .slice A' n' c']] (by simp [go_sem, Act.eval, -Array.getD_eq_getD_getElem?, t138]) ?_
                  refine (all_any A A' n3 c n' c' vs' ls' W (HAT.it.r1.below hbW) (HAT.it.r2.below hbW) HAT.it.e1 HAT.it.e2 HNA.it).mono ?_
                  rintro e W' ⟨v, rfl, ho, hb'⟩
                  obtain ⟨A, c, rfl, hr⟩ := ho.form
                  exact ⟨_, rfl, hb', _, _, _, rfl, hr HLA.it⟩
                | 2 =>
                  have ho1 := ho
                  cases ho
                  have t3 : a.tmps.getD 3 undef = .pointer (some ⟨w.heap.size + 1, 0, none⟩) := hG.old 3 (by decide)
                  have y0 := (hbW.cell (p := ⟨w2.heap.size, 0, none⟩) hs5).trans hy0
                  have y1 := (hbW.cell (p := ⟨w2.heap.size, 1, none⟩) hs5).trans hy1
                  have z2 := (hbW.cell (p := ⟨w.heap.size + 1, 0, none⟩) hs6).trans hz2
                  have z3 := (hbW.cell (p := ⟨w.heap.size + 1, 1, none⟩) hs6).trans hz3
                  exact op_value_g (w1 := W) ho1 (wanted_none rfl) (.agg #[.slice A3 n3 c3, .slice A4 n4 c4]) (by simp [go_sem, Act.eval, -Array.getD_eq_getD_getElem?, t3, y0, y1, z2, z3]) (Gr.refl _) rfl
                | 3 =>
                  have ho1 := ho
                  cases ho
                  have t140 : a.tmps.getD 140 undef = .agg #[.slice A3 n3 c3, .slice A4 n4 c4] := hG.dep 2 (by decide) 140 rfl
                  refine op_call_g ho1 (wanted_none rfl) 29 #[.agg #[.slice A3 n3 c3, .slice A4 n4 c4]] (by simp [go_sem, Act.eval, -Array.getD_eq_getD_getElem?, t140]) ?_
                  refine (all_any A3 A4 n3 c3 n4 c4 us ks W (HC.it.below (HBW2.it.trans ((HB.it.trans (hbW.mono (Nat.le_of_lt HS5.it))).mono HBW2.it.size))) (HD.it.below (HBW2.it.trans ((HB.it.trans (hbW.mono (Nat.le_of_lt HS5.it))).mono HBW2.it.size))) E3.it E4.it HNU.it).mono ?_
                  rintro e W' ⟨v, rfl, ho, hb'⟩
                  obtain ⟨A, c, rfl, hr⟩ := ho.form
                  exact ⟨_, rfl, hb', _, _, _, rfl, hr HLU.it⟩
                | 4 =>
                  have ho1 := ho
                  cases ho
                  obtain ⟨A139, n139, c139, t139, r139⟩ : (SpK.sl (allL vs' ls')).holds (a.tmps.getD 139 undef) W := hG.dep 1 (by decide) 139 rfl
                  obtain ⟨A141, n141, c141, t141, r141⟩ : (SpK.sl (allL us ks)).holds (a.tmps.getD 141 undef) W := hG.dep 3 (by decide) 141 rfl
                  refine op_call_g ho1 (wanted_none rfl) 24 #[.slice A139 n139 c139, .slice A141 n141 c141] (by simp [go_sem, Act.eval, -Array.getD_eq_getD_getElem?, t139, t141]) ?_
                  refine (equal_gr A139 A141 n139 c139 n141 c141 (allL vs' ls') (allL us ks) W r139 r141).mono ?_
                  rintro e W' ⟨rfl, hb'⟩
                  exact ⟨_, rfl, hb', by show Value.bool _ = _; rw [HAL.it, eqB_refl]⟩
                | 5 =>
                  have ho1 := ho
                  cases ho
                  have t142 : a.tmps.getD 142 undef = .bool true := hG.dep 4 (by decide) 142 rfl
                  exact op_value_g (w1 := W) ho1 (wanted_none rfl) (.bool true) (by simp [go_sem, Act.eval, -Array.getD_eq_getD_getElem?, t142]) (Gr.refl _) rfl
                | 6 =>
                  have ho1 := ho
                  cases ho
                  have t5 : a.tmps.getD 5 undef = .pointer (some ⟨w2.heap.size, 0, none⟩) := hG.old 5 (by decide)
                  have t143 : a.tmps.getD 143 undef = .bool true := hG.dep 5 (by decide) 143 rfl
                  exact op_value_g (w1 := W) ho1 (wanted_yes rfl rfl t143) (.pointer (some ⟨w2.heap.size, 0, none⟩)) (by simp [go_sem, Act.eval, -Array.getD_eq_getD_getElem?, t5, t143]) (Gr.refl _) rfl
                | 7 =>
                  have ho1 := ho
                  cases ho
                  have t144 : a.tmps.getD 144 undef = .pointer (some ⟨w2.heap.size, 0, none⟩) := hG.dep 6 (by decide) 144 rfl
                  have t143 : a.tmps.getD 143 undef = .bool true := hG.dep 5 (by decide) 143 rfl
                  have y0 := (hbW.cell (p := ⟨w2.heap.size, 0, none⟩) hs5).trans hy0
                  have y1 := (hbW.cell (p := ⟨w2.heap.size, 1, none⟩) hs5).trans hy1
                  have z2 := (hbW.cell (p := ⟨w.heap.size + 1, 0, none⟩) hs6).trans hz2
                  have z3 := (hbW.cell (p := ⟨w.heap.size + 1, 1, none⟩) hs6).trans hz3
                  exact op_value_g (w1 := W) ho1 (wanted_yes rfl rfl t143) (.slice A n3 c) (by simp [go_sem, Act.eval, -Array.getD_eq_getD_getElem?, t144, t143, y0, y1, z2, z3]) (Gr.refl _) rfl
                | 8 =>
                  have ho1 := ho
                  cases ho
                  have t145 : a.tmps.getD 145 undef = .slice A n3 c := hG.dep 7 (by decide) 145 rfl
                  have t143 : a.tmps.getD 143 undef = .bool true := hG.dep 5 (by decide) 143 rfl
                  exact op_value_g (w1 := W) ho1 (wanted_yes rfl rfl t143) (.int .i64 (n3 : Int)) (by simp [go_sem, Act.eval, -Array.getD_eq_getD_getElem?, t145, t143]) (Gr.refl _) rfl
                | 9 =>
                  have ho1 := ho
                  cases ho
                  have t3 : a.tmps.getD 3 undef = .pointer (some ⟨w.heap.size + 1, 0, none⟩) := hG.old 3 (by decide)
                  have t143 : a.tmps.getD 143 undef = .bool true := hG.dep 5 (by decide) 143 rfl
                  exact op_value_g (w1 := W) ho1 (wanted_yes rfl rfl t143) (.pointer (some ⟨w.heap.size + 1, 0, none⟩)) (by simp [go_sem, Act.eval, -Array.getD_eq_getD_getElem?, t3, t143]) (Gr.refl _) rfl
                | 10 =>
                  have ho1 := ho
                  cases ho
                  have t147 : a.tmps.getD 147 undef = .pointer (some ⟨w.heap.size + 1, 0, none⟩) := hG.dep 9 (by decide) 147 rfl
                  have t143 : a.tmps.getD 143 undef = .bool true := hG.dep 5 (by decide) 143 rfl
                  have y0 := (hbW.cell (p := ⟨w2.heap.size, 0, none⟩) hs5).trans hy0
                  have y1 := (hbW.cell (p := ⟨w2.heap.size, 1, none⟩) hs5).trans hy1
                  have z2 := (hbW.cell (p := ⟨w.heap.size + 1, 0, none⟩) hs6).trans hz2
                  have z3 := (hbW.cell (p := ⟨w.heap.size + 1, 1, none⟩) hs6).trans hz3
                  exact op_value_g (w1 := W) ho1 (wanted_yes rfl rfl t143) (.slice A3 n3 c3) (by simp [go_sem, Act.eval, -Array.getD_eq_getD_getElem?, t147, t143, y0, y1, z2, z3]) (Gr.refl _) rfl
                | 11 =>
                  have ho1 := ho
                  cases ho
                  have t148 : a.tmps.getD 148 undef = .slice A3 n3 c3 := hG.dep 10 (by decide) 148 rfl
                  have t143 : a.tmps.getD 143 undef = .bool true := hG.dep 5 (by decide) 143 rfl
                  exact op_value_g (w1 := W) ho1 (wanted_yes rfl rfl t143) (.int .i64 (n3 : Int)) (by simp [go_sem, Act.eval, -Array.getD_eq_getD_getElem?, t148, t143]) (Gr.refl _) rfl
                | 12 =>
                  have ho1 := ho
                  cases ho
                  have t146 : a.tmps.getD 146 undef = .int .i64 (n3 : Int) := hG.dep 8 (by decide) 146 rfl
                  have t149 : a.tmps.getD 149 undef = .int .i64 (n3 : Int) := hG.dep 11 (by decide) 149 rfl
                  have t143 : a.tmps.getD 143 undef = .bool true := hG.dep 5 (by decide) 143 rfl
                  exact op_value_g (w1 := W) ho1 (wanted_yes rfl rfl t143) (.bool true) (by simp [go_sem, Act.eval, -Array.getD_eq_getD_getElem?, t146, t149, t143]) (Gr.refl _) rfl
                | 13 =>
                  have ho1 := ho
                  cases ho
                  have t143 : a.tmps.getD 143 undef = .bool true := hG.dep 5 (by decide) 143 rfl
                  have t150 : a.tmps.getD 150 undef = .bool true := hG.dep 12 (by decide) 150 rfl
                  exact op_value_g (w1 := W) ho1 (wanted_none rfl) (.bool true) (by simp [go_sem, Act.eval, -Array.getD_eq_getD_getElem?, t143, t150]) (Gr.refl _) rfl
                | 14 =>
                  have ho1 := ho
                  cases ho
                  have t151 : a.tmps.getD 151 undef = .bool true := hG.dep 13 (by decide) 151 rfl
                  exact op_value_g (w1 := W) ho1 (wanted_none rfl) (.bool true) (by simp [go_sem, Act.eval, -Array.getD_eq_getD_getElem?, t151]) (Gr.refl _) rfl
                | 15 =>
                  have ho1 := ho
                  cases ho
                  have t152 : a.tmps.getD 152 undef = .bool true := hG.dep 14 (by decide) 152 rfl
                  refine op_call_g ho1 (wanted_yes rfl rfl t152) 14 #[] (by simp [go_sem, Act.eval, -Array.getD_eq_getD_getElem?, t152]) ?_
                  refine (awake_any W).mono ?_
                  rintro e W' ⟨rfl, hb'⟩
                  exact ⟨_, rfl, hb', rfl⟩
                | 16 =>
                  have ho1 := ho
                  cases ho
                  have t152 : a.tmps.getD 152 undef = .bool true := hG.dep 14 (by decide) 152 rfl
                  have t153 : a.tmps.getD 153 undef = .bool true := hG.dep 15 (by decide) 153 rfl
                  exact op_value_g (w1 := W) ho1 (wanted_none rfl) (.bool true) (by simp [go_sem, Act.eval, -Array.getD_eq_getD_getElem?, t152, t153]) (Gr.refl _) rfl
                | 17 =>
                  have ho1 := ho
                  cases ho
                  have t154 : a.tmps.getD 154 undef = .bool true := hG.dep 16 (by decide) 154 rfl
                  exact op_value_g (w1 := W) ho1 (wanted_none rfl) (.bool true) (by simp [go_sem, Act.eval, -Array.getD_eq_getD_getElem?, t154]) (Gr.refl _) rfl
                | q + 18 => cases ho
              · intro a W hbW hD
                have hfr := hD.frame [138, 139, 140, 141, 142, 143, 144, 145, 146, 147, 148, 149, 150, 151, 152, 153, 154, 4] (by kernel_rfl)
                have t138 : a.tmps.getD 138 undef = .agg #[.slice A n3 c, .slice A' n' c'] := hD.sp 0 (by decide) 138 rfl
                have t140 : a.tmps.getD 140 undef = .agg #[.slice A3 n3 c3, .slice A4 n4 c4] := hD.sp 2 (by decide) 140 rfl
                have t142 : a.tmps.getD 142 undef = .bool true := hD.sp 4 (by decide) 142 rfl
                have t143 : a.tmps.getD 143 undef = .bool true := hD.sp 5 (by decide) 143 rfl
                have t144 : a.tmps.getD 144 undef = .pointer (some ⟨w2.heap.size, 0, none⟩) := hD.sp 6 (by decide) 144 rfl
                have t145 : a.tmps.getD 145 undef = .slice A n3 c := hD.sp 7 (by decide) 145 rfl
                have t146 : a.tmps.getD 146 undef = .int .i64 (n3 : Int) := hD.sp 8 (by decide) 146 rfl
                have t147 : a.tmps.getD 147 undef = .pointer (some ⟨w.heap.size + 1, 0, none⟩) := hD.sp 9 (by decide) 147 rfl
                have t148 : a.tmps.getD 148 undef = .slice A3 n3 c3 := hD.sp 10 (by decide) 148 rfl
                have t149 : a.tmps.getD 149 undef = .int .i64 (n3 : Int) := hD.sp 11 (by decide) 149 rfl
                have t150 : a.tmps.getD 150 undef = .bool true := hD.sp 12 (by decide) 150 rfl
                have t151 : a.tmps.getD 151 undef = .bool true := hD.sp 13 (by decide) 151 rfl
                have t152 : a.tmps.getD 152 undef = .bool true := hD.sp 14 (by decide) 152 rfl
                have t153 : a.tmps.getD 153 undef = .bool true := hD.sp 15 (by decide) 153 rfl
                have t154 : a.tmps.getD 154 undef = .bool true := hD.sp 16 (by decide) 154 rfl
                have t4 : a.tmps.getD 4 undef = .bool true := hD.sp 17 (by decide) 4 rfl
                simp only [List.foldl_cons, List.foldl_nil] at hfr
                rw [t138, t140, t142, t143, t144, t145, t146, t147, t148, t149, t150, t151, t152, t153, t154, t4] at hfr
                generalize a.tmps.getD 139 undef = u139 at hfr
                generalize a.tmps.getD 141 undef = u141 at hfr
                rw [hfr]
                clear hfr hD t138 t140 t142 t143 t144 t145 t146 t147 t148 t149 t150 t151 t152 t153 t154 t4
                have HBW := Kp.mk hbW
                clear hbW
                simp only [Act.put, List.setIfInBounds_toArray, List.set_cons_succ, List.set_cons_zero]
                go_wp2
                go_ret
                exact ⟨rfl, HBW2.it.trans ((HB.it.trans (HBW.it.mono (Nat.le_of_lt HS5.it))).mono HBW2.it.size)⟩

set_option linter.unusedVariables false in
set_option maxRecDepth 100000 in
theorem quorumWays_lifted (os : Os) (started : os.Started) (H : Type) (enc : TypeId × Value → H) :
    ReturnsInHanded {} Try.checked os 12 .any (Rows.quorumWaysSpec.pre6 enc Try.prog Try.f12 Rows.quorumWaysRow.domain false) (Rows.quorumWaysSpec.post enc Try.prog Try.f12 false true false false) := by
  refine returnsInHanded_of_change_sized (C := Try.checked) (by kernel_rfl) started (by kernel_rfl) Try.func12
    (ChangeSpec.witness6 (enc := enc) (C := Try.checked) false ⟨#[], #[.agg #[.slice none 0 0, .slice none 0 0], .agg #[.slice none 0 0, .slice none 0 0]], []⟩ 8 (by kernel_rfl) (by kernel_rfl) (by kernel_rfl) (by kernel_rfl)) ?_
  intro W base args ds gs before hval0 hW hcnd hsz0 _
  have hval : ∀ (j : Nat) t v, Try.f12.params[j]? = some t → args[j]? = some v → Value.okWide Try.prog W .any base t v := hval0
  have hW' := hW
  obtain ⟨p, q, hA0, hV, rfl, hfz, hnd⟩ := hW
  have hA : DataW.TrodAll enc Try.prog W 0 (fun _ => true) true Try.f12.params.toList args.toList ds p := hA0
  have hsz : (DataW.weightsEach Try.prog (Try.f12.params.toList ++ Rows.quorumWaysSpec.plain.varTypes Try.prog) (ds ++ gs)).all (· ≤ reachBytes) = true := hsz0
  rw [Try.params12] at hA hval hsz
  obtain ⟨v0, vs0, d0, ds0, p0, q0, hargs, rfl, rfl, h0, r0⟩ := trodAll_cons hA
  obtain ⟨v1, vs1, d1, ds1, p1, q1, rfl, rfl, rfl, h1, r1⟩ := trodAll_cons r0
  obtain ⟨rfl, rfl, rfl⟩ := trodAll_nil r1
  obtain rfl : args = #[v0, v1] := by cases args; simp_all
  obtain ⟨rfl, rfl⟩ := trodVars_none hV
  have k0 := h0
  have lt0 : ∀ x ∈ p0, x.block < W.heap.size := by obtain ⟨m, hm⟩ := k0; exact DataW.trod_lt m _ _ _ hm
  obtain ⟨A0, n0, c0, B0, m0, e0, vs0', ls0', rfl, ra0, rb0, ea0, eb0⟩ := ro_open2 (hval 0 24 v0 rfl rfl) h0 (fun x hx => by simpa using List.all_eq_true.1 hsz x (DataW.weights_mem_each (j := 0) (t := 24) rfl rfl x hx))
  have k1 := h1
  have lt1 : ∀ x ∈ p1, x.block < W.heap.size := by obtain ⟨m, hm⟩ := k1; exact DataW.trod_lt m _ _ _ hm
  obtain ⟨A1, n1, c1, B1, m1, e1, vs1', ls1', rfl, ra1, rb1, ea1, eb1⟩ := ro_open2 (hval 1 24 v1 rfl rfl) h1 (fun x hx => by simpa using List.all_eq_true.1 hsz x (DataW.weights_mem_each (j := 1) (t := 24) rfl rfl x hx))
  clear hA0 hval0 hsz hsz0
  refine (ways_walk _ _ _ _ _ _ _ _ _ _ _ _ _ _ _ _ W ra0 rb0 ra1 rb1 ea0 eb0 ea1 eb1).mono fun e W' ⟨he, bel⟩ => ?_
  subst he
  exact ⟨_, rfl, _, _, _, [], _, [], hW', trodAll_mk1 (shut_bool Try.underlying4 _), (trodAll_cons_mk (Below.trod (by kernel_rfl) (by kernel_rfl) (of_decide_eq_true (by kernel_rfl)) k0 bel lt0) (trodAll_cons_mk (Below.trod (by kernel_rfl) (by kernel_rfl) (of_decide_eq_true (by kernel_rfl)) k1 bel lt1) trodAll_mk0)), rfl, bel.frame _, fun h => by cases h⟩

theorem QuorumWays_holds : Rows.QuorumWaysSaid :=
  OpenClaim.holds_of_wide 12 Try.f12 rfl rfl rfl rfl rfl rfl rfl ⟨rfl, rfl, rfl, rfl, rfl⟩ rfl rfl rfl rfl rfl (by kernel_rfl) Try.func12 (by kernel_rfl)
    (of_decide_eq_true (by kernel_rfl)) (by unfold Func.isWrapper; first | (rw [if_pos (by decide +kernel)]; kernel_rfl) | (rw [if_neg (by decide +kernel)]; exact ⟨rfl, rfl⟩))
    (fun os started H enc _ => quorumWays_lifted os started H enc)

#print axioms QuorumWays_holds
end Go.Proofs.Ytbfpdahbmdaenaa
