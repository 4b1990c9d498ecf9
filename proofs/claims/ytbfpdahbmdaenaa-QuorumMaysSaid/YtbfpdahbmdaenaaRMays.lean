/-
  The reference's May.
-/
import Derived.Test.YtbfpdahbmdaenaaMays
import Derived.Test.YtbfpdahbmdaenaaReg
namespace Go.Proofs.Ytbfpdahbmdaenaa
open Go.RowKit

section
variable (A1 A2 : Option Addr) (n1 c1 n2 c2 : Nat) (vs ls : List Int) (A3 A4 : Option Addr) (n3 c3 n4 c4 : Nat) (vs' ls' : List Int) (w : World) (h1 : Rd w A1 n1 vs) (h2 : Rd w A2 n2 ls) (h3 : Rd w A3 n3 vs') (h4 : Rd w A4 n4 ls')
include h1 h2 h3 h4

set_option linter.unusedSimpArgs false in
set_option maxHeartbeats 1000000 in
theorem rmay_any : Calls Try.prog 20 #[.agg #[.slice A1 n1 c1, .slice A2 n2 c2], .agg #[.slice A3 n3 c3, .slice A4 n4 c4]] w fun e w' =>
    e = .returned (.int .i64 (errM vs ls vs' ls')) ∧ Below w.heap.size w w' := by
  have hb : Below w.heap.size w ((w.alloc (.cells #[.slice A1 n1 c1, .slice A2 n2 c2] 24)).alloc (.cells #[.slice A3 n3 c3, .slice A4 n4 c4] 24)) := ((Below.refl _ _).alloc (Nat.le_refl _) _).alloc (by simp) _
  have HP := Kp.mk (rcheck_any A1 A2 n1 c1 n2 c2 vs ls _ (h1.below hb) (h2.below hb))
  have H1 := Kp.mk (h1.below hb)
  have H2 := Kp.mk (h2.below hb)
  have H3 := Kp.mk (h3.below hb)
  have H4 := Kp.mk (h4.below hb)
  clear hb h1 h2 h3 h4
  cases hg : goodB vs ls with
  | false =>
    have HE : Kp (errM vs ls vs' ls' = 110) := ⟨by simp [errM, hg]⟩
    have HC := Kp.mk (errC_bad hg)
    clear hg
    go_enter Try.func20, Try.ntmps20
    go_wp2_with (go_at_call 18; refine HP.it.mono ?_; rintro e w1 ⟨rfl, hb1⟩; rw [HC.it])
    go_ret
    exact ⟨ret_int HE.it.symm, (((Below.refl _ _).alloc (Nat.le_refl _) _).alloc (by simp) _).trans (hb1.mono (by simp; omega))⟩
  | true =>
    have HC := Kp.mk (errC_good hg)
    go_enter Try.func20, Try.ntmps20
    go_wp2_with fail
    refine HP.it.mono ?_
    rintro e w1 ⟨rfl, hb1⟩
    rw [HC.it]
    have hz1 := hb1.size
    simp at hz1
    have hz1a : w.heap.size + 1 < w1.heap.size := by omega
    have hc0 : w1.cell? ⟨w.heap.size, 0, none⟩ = some (.slice A1 n1 c1) := (hb1.cell (p := ⟨w.heap.size, 0, none⟩) (by simp; omega)).trans (blk_cell (blk_old _ (blk_new _ _)) rfl)
    have hc1 : w1.cell? ⟨w.heap.size, 1, none⟩ = some (.slice A2 n2 c2) := (hb1.cell (p := ⟨w.heap.size, 1, none⟩) (by simp; omega)).trans (blk_cell (blk_old _ (blk_new _ _)) rfl)
    have hc2 : w1.cell? ⟨w.heap.size + 1, 0, none⟩ = some (.slice A3 n3 c3) := (hb1.cell (p := ⟨w.heap.size + 1, 0, none⟩) (by simp)).trans (blk_cell (blk_new1 _ _ _) rfl)
    have hc3 : w1.cell? ⟨w.heap.size + 1, 1, none⟩ = some (.slice A4 n4 c4) := (hb1.cell (p := ⟨w.heap.size + 1, 1, none⟩) (by simp)).trans (blk_cell (blk_new1 _ _ _) rfl)
    have R1 := Kp.mk (H1.it.below hb1)
    have R2 := Kp.mk (H2.it.below hb1)
    have R3 := Kp.mk (H3.it.below hb1)
    have R4 := Kp.mk (H4.it.below hb1)
    have HB1 : Kp (Below w.heap.size w w1) := ⟨(((Below.refl _ _).alloc (Nat.le_refl _) _).alloc (by simp) _).trans (hb1.mono (by simp; omega))⟩
    clear hb1 H1 H2 H3 H4 HP
    cases hg' : goodB vs' ls' with
    | false =>
      have HE : Kp (errM vs ls vs' ls' = 110) := ⟨by simp [errM, hg']⟩
      have HC' := Kp.mk (errC_bad hg')
      clear hg hg'
      go_wp2_with fail
      refine (rcheck_any A3 A4 n3 c3 n4 c4 vs' ls' _ R3.it R4.it).mono ?_
      rintro e w2 ⟨rfl, hb2⟩
      rw [HC'.it]
      go_wp2
      go_ret
      exact ⟨ret_int HE.it.symm, HB1.it.trans (hb2.mono HB1.it.size)⟩
    | true =>
      have HC' := Kp.mk (errC_good hg')
      have HE : Kp (errM vs ls vs' ls' = mayOf (val (prs vs ls)) (val (prs vs' ls'))) := ⟨by rw [errM, hg, hg']; rfl⟩
      have hv : Kp (∀ m, val (prs vs ls) m = (2 * vs.countP (· == m) + ls.countP (· == m) : Nat)) := ⟨fun m => by rw [val_count (by unfold goodB wellB at hg; simp at hg; exact hg.1)]; omega⟩
      have hv' : Kp (∀ m, val (prs vs' ls') m = (2 * vs'.countP (· == m) + ls'.countP (· == m) : Nat)) := ⟨fun m => by rw [val_count (by unfold goodB wellB at hg'; simp at hg'; exact hg'.1)]; omega⟩
      obtain ⟨f, hf⟩ : ∃ f, f = val (prs vs ls) := ⟨_, rfl⟩
      obtain ⟨g, hgg⟩ : ∃ g, g = val (prs vs' ls') := ⟨_, rfl⟩
      rw [← hf, ← hgg] at HE
      rw [← hf] at hv
      rw [← hgg] at hv'
      have hfv : Kp (∀ m, Kp (f m = 0 ∨ f m = 1 ∨ f m = 2)) := ⟨fun m => ⟨by rw [hf]; exact val_three _ (fun q hq => prs_pos hq) m⟩⟩
      have hgv : Kp (∀ m, Kp (g m = 0 ∨ g m = 1 ∨ g m = 2)) := ⟨fun m => ⟨by rw [hgg]; exact val_three _ (fun q hq => prs_pos hq) m⟩⟩
      clear hg hg' hf hgg
      go_wp2_with fail
      refine (rcheck_any A3 A4 n3 c3 n4 c4 vs' ls' _ R3.it R4.it).mono ?_
      rintro e w2 ⟨rfl, hb2⟩
      rw [HC'.it]
      have hc0' := (hb2.cell (p := ⟨w.heap.size, 0, none⟩) (by simp; omega)).trans hc0
      have hc1' := (hb2.cell (p := ⟨w.heap.size, 1, none⟩) (by simp; omega)).trans hc1
      have hc2' := (hb2.cell (p := ⟨w.heap.size + 1, 0, none⟩) (by simp; omega)).trans hc2
      have hc3' := (hb2.cell (p := ⟨w.heap.size + 1, 1, none⟩) (by simp; omega)).trans hc3
      have HB2 : Kp (Below w.heap.size w w2) := ⟨HB1.it.trans (hb2.mono HB1.it.size)⟩
      have Q1 := Kp.mk (R1.it.below hb2)
      have Q2 := Kp.mk (R2.it.below hb2)
      have Q3 := Kp.mk (R3.it.below hb2)
      have Q4 := Kp.mk (R4.it.below hb2)
      have HS : Kp (w.heap.size + 1 < w2.heap.size) := ⟨Nat.lt_of_lt_of_le hz1a hb2.size⟩
      clear hb2 hc0 hc1 hc2 hc3 R1 R2 R3 R4 hz1 hz1a HB1
      go_wp2
      go_loopw [5, 15] (fun t i wr => ∃ k : Nat, k ≤ 5 ∧ i = .int .i64 k ∧ t = .int .i64 (dif f g k : Nat) ∧ Kp (¬ jump f g k) ∧ Kp (Below w2.heap.size w2 wr)) (fun _ i _ => 5 - (intOf i).toNat)
      case atStart => exact ⟨0, by omega, rfl, rfl, ⟨by rintro ⟨m, hm, _⟩; omega⟩, ⟨Below.refl _ _⟩⟩
      case round =>
        obtain ⟨k, hk, rfl, rfl, hno, hB⟩ := hrel
        have hdl := dif_le f g k
        by_cases hk5 : k < 5
        · have hd : decide ((k : Int) < 5) = true := by simp; omega
          go_wp2_with fail
          have hbw := hB.it
          obtain ⟨x, hx⟩ : ∃ x : Nat, x = 2 * vs.countP (· == (k : Int)) + ls.countP (· == (k : Int)) := ⟨_, rfl⟩
          obtain ⟨y, hy⟩ : ∃ y : Nat, y = 2 * vs'.countP (· == (k : Int)) + ls'.countP (· == (k : Int)) := ⟨_, rfl⟩
          -- REGION
          have hs0 : w.heap.size < w2.heap.size := by have := HS.it; omega
          have hs1 : w.heap.size + 1 < w2.heap.size := HS.it
          have lx : x ≤ 10000000000000000 := by
            have e1 := cnt_cp (· == (k : Int)) vs
            have e2 := cnt_cp (· == (k : Int)) ls
            have e3 := Q1.it.le
            have e4 := Q2.it.le
            omega
          have ly : y ≤ 10000000000000000 := by
            have e1 := cnt_cp (· == (k : Int)) vs'
            have e2 := cnt_cp (· == (k : Int)) ls'
            have e3 := Q3.it.le
            have e4 := Q4.it.le
            omega
          have WX : Kp (∀ W, Below w2.heap.size w2 W → Calls Try.prog 45 #[.agg #[.slice A1 n1 c1, .slice A2 n2 c2], .int .i64 k] W fun e W' => e = .returned (.int .i64 x) ∧ Below W.heap.size W W') :=
            ⟨fun W hW => by rw [hx]; exact way_any A1 A2 n1 c1 n2 c2 vs ls W (Q1.it.below hW) (Q2.it.below hW) k⟩
          have WY : Kp (∀ W, Below w2.heap.size w2 W → Calls Try.prog 45 #[.agg #[.slice A3 n3 c3, .slice A4 n4 c4], .int .i64 k] W fun e W' => e = .returned (.int .i64 y) ∧ Below W.heap.size W W') :=
            ⟨fun W hW => by rw [hy]; exact way_any A3 A4 n3 c3 n4 c4 vs' ls' W (Q3.it.below hW) (Q4.it.below hW) k⟩
          have FX : Kp (f k = x) := ⟨by rw [hv.it, hx]⟩
          have FY : Kp (g k = y) := ⟨by rw [hv'.it, hy]⟩
          have FV : Kp (f k = 0 ∨ f k = 1 ∨ f k = 2) := hfv.it k
          have GV : Kp (g k = 0 ∨ g k = 1 ∨ g k = 2) := hgv.it k
          have hwr : IntKind.i64.wrap ((y : Int) - x) = (y : Int) - x := IntWalk.i64_in _ (by omega)
          clear hx hy
          by_cases hxy : x = y
          · have q1 : ((x : Int) != y) = false := by simp; omega
            have HD : Kp (dif f g (k + 1) = dif f g k) := ⟨by rw [dif, if_pos (by rw [FX.it, FY.it, hxy])]; rfl⟩
            have HJ : Kp (¬ jump f g (k + 1)) := ⟨jump_succ hno.it (by rw [FX.it, FY.it]; omega)⟩
            clear hxy
            refine wp_region_sp [.ex (.agg #[.slice A1 n1 c1, .slice A2 n2 c2]), .ex (.int .i64 k), .ex (.int .i64 x), .ex (.agg #[.slice A3 n3 c3, .slice A4 n4 c4]), .ex (.int .i64 k), .ex (.int .i64 y), .ex (.bool false)] (by kernel_rfl) (by kernel_rfl) ?_ ?_
            · intro i o ho a W hbW hG
              match i with
              | 0 =>
                have ho1 := ho
                cases ho
                have t2 : a.tmps.getD 2 undef = .pointer (some ⟨w.heap.size, 0, none⟩) := hG.old 2 (by decide)
                have z0 := ((hbw.trans (hbW.mono hbw.size)).cell (p := ⟨w.heap.size, 0, none⟩) hs0).trans hc0'
                have z1 := ((hbw.trans (hbW.mono hbw.size)).cell (p := ⟨w.heap.size, 1, none⟩) hs0).trans hc1'
                have z2 := ((hbw.trans (hbW.mono hbw.size)).cell (p := ⟨w.heap.size + 1, 0, none⟩) hs1).trans hc2'
                have z3 := ((hbw.trans (hbW.mono hbw.size)).cell (p := ⟨w.heap.size + 1, 1, none⟩) hs1).trans hc3'
                exact op_value_g (w1 := W) ho1 (wanted_none rfl) (.agg #[.slice A1 n1 c1, .slice A2 n2 c2]) (by simp [go_sem, Act.eval, -Array.getD_eq_getD_getElem?, t2, q1, z0, z1, z2, z3]) (Gr.refl _) rfl
              | 1 =>
                have ho1 := ho
                cases ho
                have t6 : a.tmps.getD 6 undef = .int .i64 k := hG.old 6 (by decide)
                exact op_value_g (w1 := W) ho1 (wanted_none rfl) (.int .i64 k) (by simp [go_sem, Act.eval, -Array.getD_eq_getD_getElem?, t6, q1]) (Gr.refl _) rfl
              | 2 =>
                have ho1 := ho
                cases ho
                have t18 : a.tmps.getD 18 undef = .agg #[.slice A1 n1 c1, .slice A2 n2 c2] := hG.dep 0 (by decide) 18 rfl
                have t19 : a.tmps.getD 19 undef = .int .i64 k := hG.dep 1 (by decide) 19 rfl
                refine op_call_g ho1 (wanted_none rfl) 45 #[.agg #[.slice A1 n1 c1, .slice A2 n2 c2], .int .i64 k] (by simp [go_sem, Act.eval, -Array.getD_eq_getD_getElem?, t18, t19, q1]) ?_
                refine (WX.it W (hbw.trans (hbW.mono hbw.size))).mono ?_
                rintro e W' ⟨rfl, hb'⟩
                exact ⟨_, rfl, hb', rfl⟩
              | 3 =>
                have ho1 := ho
                cases ho
                have t3 : a.tmps.getD 3 undef = .pointer (some ⟨w.heap.size + 1, 0, none⟩) := hG.old 3 (by decide)
                have z0 := ((hbw.trans (hbW.mono hbw.size)).cell (p := ⟨w.heap.size, 0, none⟩) hs0).trans hc0'
                have z1 := ((hbw.trans (hbW.mono hbw.size)).cell (p := ⟨w.heap.size, 1, none⟩) hs0).trans hc1'
                have z2 := ((hbw.trans (hbW.mono hbw.size)).cell (p := ⟨w.heap.size + 1, 0, none⟩) hs1).trans hc2'
                have z3 := ((hbw.trans (hbW.mono hbw.size)).cell (p := ⟨w.heap.size + 1, 1, none⟩) hs1).trans hc3'
                exact op_value_g (w1 := W) ho1 (wanted_none rfl) (.agg #[.slice A3 n3 c3, .slice A4 n4 c4]) (by simp [go_sem, Act.eval, -Array.getD_eq_getD_getElem?, t3, q1, z0, z1, z2, z3]) (Gr.refl _) rfl
              | 4 =>
                have ho1 := ho
                cases ho
                have t6 : a.tmps.getD 6 undef = .int .i64 k := hG.old 6 (by decide)
                exact op_value_g (w1 := W) ho1 (wanted_none rfl) (.int .i64 k) (by simp [go_sem, Act.eval, -Array.getD_eq_getD_getElem?, t6, q1]) (Gr.refl _) rfl
              | 5 =>
                have ho1 := ho
                cases ho
                have t21 : a.tmps.getD 21 undef = .agg #[.slice A3 n3 c3, .slice A4 n4 c4] := hG.dep 3 (by decide) 21 rfl
                have t22 : a.tmps.getD 22 undef = .int .i64 k := hG.dep 4 (by decide) 22 rfl
                refine op_call_g ho1 (wanted_none rfl) 45 #[.agg #[.slice A3 n3 c3, .slice A4 n4 c4], .int .i64 k] (by simp [go_sem, Act.eval, -Array.getD_eq_getD_getElem?, t21, t22, q1]) ?_
                refine (WY.it W (hbw.trans (hbW.mono hbw.size))).mono ?_
                rintro e W' ⟨rfl, hb'⟩
                exact ⟨_, rfl, hb', rfl⟩
              | 6 =>
                have ho1 := ho
                cases ho
                have t20 : a.tmps.getD 20 undef = .int .i64 x := hG.dep 2 (by decide) 20 rfl
                have t23 : a.tmps.getD 23 undef = .int .i64 y := hG.dep 5 (by decide) 23 rfl
                exact op_value_g (w1 := W) ho1 (wanted_none rfl) (.bool false) (by simp [go_sem, Act.eval, -Array.getD_eq_getD_getElem?, t20, t23, q1]) (Gr.refl _) rfl
              | q + 7 => cases ho
            · intro a W hbW hD
              have hfr := hD.frame [18, 19, 20, 21, 22, 23, 24] (by kernel_rfl)
              have t18 : a.tmps.getD 18 undef = .agg #[.slice A1 n1 c1, .slice A2 n2 c2] := hD.sp 0 (by decide) 18 rfl
              have t19 : a.tmps.getD 19 undef = .int .i64 k := hD.sp 1 (by decide) 19 rfl
              have t20 : a.tmps.getD 20 undef = .int .i64 x := hD.sp 2 (by decide) 20 rfl
              have t21 : a.tmps.getD 21 undef = .agg #[.slice A3 n3 c3, .slice A4 n4 c4] := hD.sp 3 (by decide) 21 rfl
              have t22 : a.tmps.getD 22 undef = .int .i64 k := hD.sp 4 (by decide) 22 rfl
              have t23 : a.tmps.getD 23 undef = .int .i64 y := hD.sp 5 (by decide) 23 rfl
              have t24 : a.tmps.getD 24 undef = .bool false := hD.sp 6 (by decide) 24 rfl
              simp only [List.foldl_cons, List.foldl_nil] at hfr
              rw [t18, t19, t20, t21, t22, t23, t24] at hfr
              rw [hfr]
              clear hfr hD t18 t19 t20 t21 t22 t23 t24
              have HBW := Kp.mk hbW
              clear hbW
              simp only [Act.put, List.setIfInBounds_toArray, List.set_cons_succ, List.set_cons_zero]
              go_wp2
              go_roundw
              case rel => exact ⟨k + 1, by omega, by go_num, by rw [HD.it], HJ, ⟨hbw.trans (HBW.it.mono hbw.size)⟩⟩
              case measure => simp [intOf]; omega
          · have q1 : ((x : Int) != y) = true := by simp; omega
            have HD : Kp (dif f g (k + 1) = dif f g k + 1) := ⟨by rw [dif, if_neg (by rw [FX.it, FY.it]; omega)]⟩
            by_cases hj : x = 0 ∧ y = 2
            · have HM : Kp (mayOf f g = 111) := ⟨mayOf_jump hk5 (by rw [FX.it]; omega) (by rw [FY.it]; omega)⟩
              have q2 : (((y : Int) - x) == 2) = true := by simp; omega
              clear hj hxy
              refine wp_region_sp [.ex (.agg #[.slice A1 n1 c1, .slice A2 n2 c2]), .ex (.int .i64 k), .ex (.int .i64 x), .ex (.agg #[.slice A3 n3 c3, .slice A4 n4 c4]), .ex (.int .i64 k), .ex (.int .i64 y), .ex (.bool true)] (by kernel_rfl) (by kernel_rfl) ?_ ?_
              · intro i o ho a W hbW hG
                match i with
                | 0 =>
                  have ho1 := ho
                  cases ho
                  have t2 : a.tmps.getD 2 undef = .pointer (some ⟨w.heap.size, 0, none⟩) := hG.old 2 (by decide)
                  have z0 := ((hbw.trans (hbW.mono hbw.size)).cell (p := ⟨w.heap.size, 0, none⟩) hs0).trans hc0'
                  have z1 := ((hbw.trans (hbW.mono hbw.size)).cell (p := ⟨w.heap.size, 1, none⟩) hs0).trans hc1'
                  have z2 := ((hbw.trans (hbW.mono hbw.size)).cell (p := ⟨w.heap.size + 1, 0, none⟩) hs1).trans hc2'
                  have z3 := ((hbw.trans (hbW.mono hbw.size)).cell (p := ⟨w.heap.size + 1, 1, none⟩) hs1).trans hc3'
                  exact op_value_g (w1 := W) ho1 (wanted_none rfl) (.agg #[.slice A1 n1 c1, .slice A2 n2 c2]) (by simp [go_sem, Act.eval, -Array.getD_eq_getD_getElem?, t2, q1, z0, z1, z2, z3]) (Gr.refl _) rfl
                | 1 =>
                  have ho1 := ho
                  cases ho
                  have t6 : a.tmps.getD 6 undef = .int .i64 k := hG.old 6 (by decide)
                  exact op_value_g (w1 := W) ho1 (wanted_none rfl) (.int .i64 k) (by simp [go_sem, Act.eval, -Array.getD_eq_getD_getElem?, t6, q1]) (Gr.refl _) rfl
                | 2 =>
                  have ho1 := ho
                  cases ho
                  have t18 : a.tmps.getD 18 undef = .agg #[.slice A1 n1 c1, .slice A2 n2 c2] := hG.dep 0 (by decide) 18 rfl
                  have t19 : a.tmps.getD 19 undef = .int .i64 k := hG.dep 1 (by decide) 19 rfl
                  refine op_call_g ho1 (wanted_none rfl) 45 #[.agg #[.slice A1 n1 c1, .slice A2 n2 c2], .int .i64 k] (by simp [go_sem, Act.eval, -Array.getD_eq_getD_getElem?, t18, t19, q1]) ?_
                  refine (WX.it W (hbw.trans (hbW.mono hbw.size))).mono ?_
                  rintro e W' ⟨rfl, hb'⟩
                  exact ⟨_, rfl, hb', rfl⟩
                | 3 =>
                  have ho1 := ho
                  cases ho
                  have t3 : a.tmps.getD 3 undef = .pointer (some ⟨w.heap.size + 1, 0, none⟩) := hG.old 3 (by decide)
                  have z0 := ((hbw.trans (hbW.mono hbw.size)).cell (p := ⟨w.heap.size, 0, none⟩) hs0).trans hc0'
                  have z1 := ((hbw.trans (hbW.mono hbw.size)).cell (p := ⟨w.heap.size, 1, none⟩) hs0).trans hc1'
                  have z2 := ((hbw.trans (hbW.mono hbw.size)).cell (p := ⟨w.heap.size + 1, 0, none⟩) hs1).trans hc2'
                  have z3 := ((hbw.trans (hbW.mono hbw.size)).cell (p := ⟨w.heap.size + 1, 1, none⟩) hs1).trans hc3'
                  exact op_value_g (w1 := W) ho1 (wanted_none rfl) (.agg #[.slice A3 n3 c3, .slice A4 n4 c4]) (by simp [go_sem, Act.eval, -Array.getD_eq_getD_getElem?, t3, q1, z0, z1, z2, z3]) (Gr.refl _) rfl
                | 4 =>
                  have ho1 := ho
                  cases ho
                  have t6 : a.tmps.getD 6 undef = .int .i64 k := hG.old 6 (by decide)
                  exact op_value_g (w1 := W) ho1 (wanted_none rfl) (.int .i64 k) (by simp [go_sem, Act.eval, -Array.getD_eq_getD_getElem?, t6, q1]) (Gr.refl _) rfl
                | 5 =>
                  have ho1 := ho
                  cases ho
                  have t21 : a.tmps.getD 21 undef = .agg #[.slice A3 n3 c3, .slice A4 n4 c4] := hG.dep 3 (by decide) 21 rfl
                  have t22 : a.tmps.getD 22 undef = .int .i64 k := hG.dep 4 (by decide) 22 rfl
                  refine op_call_g ho1 (wanted_none rfl) 45 #[.agg #[.slice A3 n3 c3, .slice A4 n4 c4], .int .i64 k] (by simp [go_sem, Act.eval, -Array.getD_eq_getD_getElem?, t21, t22, q1]) ?_
                  refine (WY.it W (hbw.trans (hbW.mono hbw.size))).mono ?_
                  rintro e W' ⟨rfl, hb'⟩
                  exact ⟨_, rfl, hb', rfl⟩
                | 6 =>
                  have ho1 := ho
                  cases ho
                  have t20 : a.tmps.getD 20 undef = .int .i64 x := hG.dep 2 (by decide) 20 rfl
                  have t23 : a.tmps.getD 23 undef = .int .i64 y := hG.dep 5 (by decide) 23 rfl
                  exact op_value_g (w1 := W) ho1 (wanted_none rfl) (.bool true) (by simp [go_sem, Act.eval, -Array.getD_eq_getD_getElem?, t20, t23, q1]) (Gr.refl _) rfl
                | q + 7 => cases ho
              · intro a W hbW hD
                have hfr := hD.frame [18, 19, 20, 21, 22, 23, 24] (by kernel_rfl)
                have t18 : a.tmps.getD 18 undef = .agg #[.slice A1 n1 c1, .slice A2 n2 c2] := hD.sp 0 (by decide) 18 rfl
                have t19 : a.tmps.getD 19 undef = .int .i64 k := hD.sp 1 (by decide) 19 rfl
                have t20 : a.tmps.getD 20 undef = .int .i64 x := hD.sp 2 (by decide) 20 rfl
                have t21 : a.tmps.getD 21 undef = .agg #[.slice A3 n3 c3, .slice A4 n4 c4] := hD.sp 3 (by decide) 21 rfl
                have t22 : a.tmps.getD 22 undef = .int .i64 k := hD.sp 4 (by decide) 22 rfl
                have t23 : a.tmps.getD 23 undef = .int .i64 y := hD.sp 5 (by decide) 23 rfl
                have t24 : a.tmps.getD 24 undef = .bool true := hD.sp 6 (by decide) 24 rfl
                simp only [List.foldl_cons, List.foldl_nil] at hfr
                rw [t18, t19, t20, t21, t22, t23, t24] at hfr
                rw [hfr]
                clear hfr hD t18 t19 t20 t21 t22 t23 t24
                have HBW := Kp.mk hbW
                clear hbW
                simp only [Act.put, List.setIfInBounds_toArray, List.set_cons_succ, List.set_cons_zero]
                have KBW : Kp (Below w2.heap.size w2 W) := ⟨hbw.trans (HBW.it.mono hbw.size)⟩
                clear HBW
                go_wp2_with fail
                refine wp_region_sp [.ex (.agg #[.slice A3 n3 c3, .slice A4 n4 c4]), .ex (.int .i64 k), .ex (.int .i64 y), .ex (.agg #[.slice A1 n1 c1, .slice A2 n2 c2]), .ex (.int .i64 k), .ex (.int .i64 x), .ex (.int .i64 ((y : Int) - x)), .ex (.bool true)] (by kernel_rfl) (by kernel_rfl) ?_ ?_
                · intro i o ho a V hbV hG
                  match i with
                  | 0 =>
                    have ho1 := ho
                    cases ho
                    have t3 : a.tmps.getD 3 undef = .pointer (some ⟨w.heap.size + 1, 0, none⟩) := hG.old 3 (by decide)
                    have z0 := ((KBW.it.trans (hbV.mono KBW.it.size)).cell (p := ⟨w.heap.size, 0, none⟩) hs0).trans hc0'
                    have z1 := ((KBW.it.trans (hbV.mono KBW.it.size)).cell (p := ⟨w.heap.size, 1, none⟩) hs0).trans hc1'
                    have z2 := ((KBW.it.trans (hbV.mono KBW.it.size)).cell (p := ⟨w.heap.size + 1, 0, none⟩) hs1).trans hc2'
                    have z3 := ((KBW.it.trans (hbV.mono KBW.it.size)).cell (p := ⟨w.heap.size + 1, 1, none⟩) hs1).trans hc3'
                    exact op_value_g (w1 := V) ho1 (wanted_none rfl) (.agg #[.slice A3 n3 c3, .slice A4 n4 c4]) (by simp [go_sem, Act.eval, -Array.getD_eq_getD_getElem?, t3, q2, hwr, z0, z1, z2, z3]) (Gr.refl _) rfl
                  | 1 =>
                    have ho1 := ho
                    cases ho
                    have t6 : a.tmps.getD 6 undef = .int .i64 k := hG.old 6 (by decide)
                    exact op_value_g (w1 := V) ho1 (wanted_none rfl) (.int .i64 k) (by simp [go_sem, Act.eval, -Array.getD_eq_getD_getElem?, t6, q2, hwr]) (Gr.refl _) rfl
                  | 2 =>
                    have ho1 := ho
                    cases ho
                    have t27 : a.tmps.getD 27 undef = .agg #[.slice A3 n3 c3, .slice A4 n4 c4] := hG.dep 0 (by decide) 27 rfl
                    have t28 : a.tmps.getD 28 undef = .int .i64 k := hG.dep 1 (by decide) 28 rfl
                    refine op_call_g ho1 (wanted_none rfl) 45 #[.agg #[.slice A3 n3 c3, .slice A4 n4 c4], .int .i64 k] (by simp [go_sem, Act.eval, -Array.getD_eq_getD_getElem?, t27, t28, q2, hwr]) ?_
                    refine (WY.it V (KBW.it.trans (hbV.mono KBW.it.size))).mono ?_
                    rintro e V' ⟨rfl, hb'⟩
                    exact ⟨_, rfl, hb', rfl⟩
                  | 3 =>
                    have ho1 := ho
                    cases ho
                    have t2 : a.tmps.getD 2 undef = .pointer (some ⟨w.heap.size, 0, none⟩) := hG.old 2 (by decide)
                    have z0 := ((KBW.it.trans (hbV.mono KBW.it.size)).cell (p := ⟨w.heap.size, 0, none⟩) hs0).trans hc0'
                    have z1 := ((KBW.it.trans (hbV.mono KBW.it.size)).cell (p := ⟨w.heap.size, 1, none⟩) hs0).trans hc1'
                    have z2 := ((KBW.it.trans (hbV.mono KBW.it.size)).cell (p := ⟨w.heap.size + 1, 0, none⟩) hs1).trans hc2'
                    have z3 := ((KBW.it.trans (hbV.mono KBW.it.size)).cell (p := ⟨w.heap.size + 1, 1, none⟩) hs1).trans hc3'
                    exact op_value_g (w1 := V) ho1 (wanted_none rfl) (.agg #[.slice A1 n1 c1, .slice A2 n2 c2]) (by simp [go_sem, Act.eval, -Array.getD_eq_getD_getElem?, t2, q2, hwr, z0, z1, z2, z3]) (Gr.refl _) rfl
                  | 4 =>
                    have ho1 := ho
                    cases ho
                    have t6 : a.tmps.getD 6 undef = .int .i64 k := hG.old 6 (by decide)
                    exact op_value_g (w1 := V) ho1 (wanted_none rfl) (.int .i64 k) (by simp [go_sem, Act.eval, -Array.getD_eq_getD_getElem?, t6, q2, hwr]) (Gr.refl _) rfl
                  | 5 =>
                    have ho1 := ho
                    cases ho
                    have t30 : a.tmps.getD 30 undef = .agg #[.slice A1 n1 c1, .slice A2 n2 c2] := hG.dep 3 (by decide) 30 rfl
                    have t31 : a.tmps.getD 31 undef = .int .i64 k := hG.dep 4 (by decide) 31 rfl
                    refine op_call_g ho1 (wanted_none rfl) 45 #[.agg #[.slice A1 n1 c1, .slice A2 n2 c2], .int .i64 k] (by simp [go_sem, Act.eval, -Array.getD_eq_getD_getElem?, t30, t31, q2, hwr]) ?_
                    refine (WX.it V (KBW.it.trans (hbV.mono KBW.it.size))).mono ?_
                    rintro e V' ⟨rfl, hb'⟩
                    exact ⟨_, rfl, hb', rfl⟩
                  | 6 =>
                    have ho1 := ho
                    cases ho
                    have t29 : a.tmps.getD 29 undef = .int .i64 y := hG.dep 2 (by decide) 29 rfl
                    have t32 : a.tmps.getD 32 undef = .int .i64 x := hG.dep 5 (by decide) 32 rfl
                    exact op_value_g (w1 := V) ho1 (wanted_none rfl) (.int .i64 ((y : Int) - x)) (by simp [go_sem, Act.eval, -Array.getD_eq_getD_getElem?, t29, t32, q2, hwr]) (Gr.refl _) rfl
                  | 7 =>
                    have ho1 := ho
                    cases ho
                    have t33 : a.tmps.getD 33 undef = .int .i64 ((y : Int) - x) := hG.dep 6 (by decide) 33 rfl
                    exact op_value_g (w1 := V) ho1 (wanted_none rfl) (.bool true) (by simp [go_sem, Act.eval, -Array.getD_eq_getD_getElem?, t33, q2, hwr]) (Gr.refl _) rfl
                  | q + 8 => cases ho
                · intro a V hbV hD
                  have hfr := hD.frame [27, 28, 29, 30, 31, 32, 33, 34] (by kernel_rfl)
                  have t27 : a.tmps.getD 27 undef = .agg #[.slice A3 n3 c3, .slice A4 n4 c4] := hD.sp 0 (by decide) 27 rfl
                  have t28 : a.tmps.getD 28 undef = .int .i64 k := hD.sp 1 (by decide) 28 rfl
                  have t29 : a.tmps.getD 29 undef = .int .i64 y := hD.sp 2 (by decide) 29 rfl
                  have t30 : a.tmps.getD 30 undef = .agg #[.slice A1 n1 c1, .slice A2 n2 c2] := hD.sp 3 (by decide) 30 rfl
                  have t31 : a.tmps.getD 31 undef = .int .i64 k := hD.sp 4 (by decide) 31 rfl
                  have t32 : a.tmps.getD 32 undef = .int .i64 x := hD.sp 5 (by decide) 32 rfl
                  have t33 : a.tmps.getD 33 undef = .int .i64 ((y : Int) - x) := hD.sp 6 (by decide) 33 rfl
                  have t34 : a.tmps.getD 34 undef = .bool true := hD.sp 7 (by decide) 34 rfl
                  simp only [List.foldl_cons, List.foldl_nil] at hfr
                  rw [t27, t28, t29, t30, t31, t32, t33, t34] at hfr
                  rw [hfr]
                  clear hfr hD t27 t28 t29 t30 t31 t32 t33 t34
                  have HBV := Kp.mk hbV
                  clear hbV
                  simp only [Act.put, List.setIfInBounds_toArray, List.set_cons_succ, List.set_cons_zero]
                  go_wp2
                  go_ret
                  exact ⟨ret_int (by rw [HE.it, HM.it]), HB2.it.trans ((KBW.it.trans (HBV.it.mono KBW.it.size)).mono HB2.it.size)⟩
            · have HJ : Kp (¬ jump f g (k + 1)) := ⟨jump_succ hno.it (by rw [FX.it, FY.it]; omega)⟩
              have q2 : (((y : Int) - x) == 2) = false := by
                have := FV.it
                have := GV.it
                rw [FX.it] at *
                rw [FY.it] at *
                simp; omega
              clear hj hxy
              refine wp_region_sp [.ex (.agg #[.slice A1 n1 c1, .slice A2 n2 c2]), .ex (.int .i64 k), .ex (.int .i64 x), .ex (.agg #[.slice A3 n3 c3, .slice A4 n4 c4]), .ex (.int .i64 k), .ex (.int .i64 y), .ex (.bool true)] (by kernel_rfl) (by kernel_rfl) ?_ ?_
              · intro i o ho a W hbW hG
                match i with
                | 0 =>
                  have ho1 := ho
                  cases ho
                  have t2 : a.tmps.getD 2 undef = .pointer (some ⟨w.heap.size, 0, none⟩) := hG.old 2 (by decide)
                  have z0 := ((hbw.trans (hbW.mono hbw.size)).cell (p := ⟨w.heap.size, 0, none⟩) hs0).trans hc0'
                  have z1 := ((hbw.trans (hbW.mono hbw.size)).cell (p := ⟨w.heap.size, 1, none⟩) hs0).trans hc1'
                  have z2 := ((hbw.trans (hbW.mono hbw.size)).cell (p := ⟨w.heap.size + 1, 0, none⟩) hs1).trans hc2'
                  have z3 := ((hbw.trans (hbW.mono hbw.size)).cell (p := ⟨w.heap.size + 1, 1, none⟩) hs1).trans hc3'
                  exact op_value_g (w1 := W) ho1 (wanted_none rfl) (.agg #[.slice A1 n1 c1, .slice A2 n2 c2]) (by simp [go_sem, Act.eval, -Array.getD_eq_getD_getElem?, t2, q1, z0, z1, z2, z3]) (Gr.refl _) rfl
                | 1 =>
                  have ho1 := ho
                  cases ho
                  have t6 : a.tmps.getD 6 undef = .int .i64 k := hG.old 6 (by decide)
                  exact op_value_g (w1 := W) ho1 (wanted_none rfl) (.int .i64 k) (by simp [go_sem, Act.eval, -Array.getD_eq_getD_getElem?, t6, q1]) (Gr.refl _) rfl
                | 2 =>
                  have ho1 := ho
                  cases ho
                  have t18 : a.tmps.getD 18 undef = .agg #[.slice A1 n1 c1, .slice A2 n2 c2] := hG.dep 0 (by decide) 18 rfl
                  have t19 : a.tmps.getD 19 undef = .int .i64 k := hG.dep 1 (by decide) 19 rfl
                  refine op_call_g ho1 (wanted_none rfl) 45 #[.agg #[.slice A1 n1 c1, .slice A2 n2 c2], .int .i64 k] (by simp [go_sem, Act.eval, -Array.getD_eq_getD_getElem?, t18, t19, q1]) ?_
                  refine (WX.it W (hbw.trans (hbW.mono hbw.size))).mono ?_
                  rintro e W' ⟨rfl, hb'⟩
                  exact ⟨_, rfl, hb', rfl⟩
                | 3 =>
                  have ho1 := ho
                  cases ho
                  have t3 : a.tmps.getD 3 undef = .pointer (some ⟨w.heap.size + 1, 0, none⟩) := hG.old 3 (by decide)
                  have z0 := ((hbw.trans (hbW.mono hbw.size)).cell (p := ⟨w.heap.size, 0, none⟩) hs0).trans hc0'
                  have z1 := ((hbw.trans (hbW.mono hbw.size)).cell (p := ⟨w.heap.size, 1, none⟩) hs0).trans hc1'
                  have z2 := ((hbw.trans (hbW.mono hbw.size)).cell (p := ⟨w.heap.size + 1, 0, none⟩) hs1).trans hc2'
                  have z3 := ((hbw.trans (hbW.mono hbw.size)).cell (p := ⟨w.heap.size + 1, 1, none⟩) hs1).trans hc3'
                  exact op_value_g (w1 := W) ho1 (wanted_none rfl) (.agg #[.slice A3 n3 c3, .slice A4 n4 c4]) (by simp [go_sem, Act.eval, -Array.getD_eq_getD_getElem?, t3, q1, z0, z1, z2, z3]) (Gr.refl _) rfl
                | 4 =>
                  have ho1 := ho
                  cases ho
                  have t6 : a.tmps.getD 6 undef = .int .i64 k := hG.old 6 (by decide)
                  exact op_value_g (w1 := W) ho1 (wanted_none rfl) (.int .i64 k) (by simp [go_sem, Act.eval, -Array.getD_eq_getD_getElem?, t6, q1]) (Gr.refl _) rfl
                | 5 =>
                  have ho1 := ho
                  cases ho
                  have t21 : a.tmps.getD 21 undef = .agg #[.slice A3 n3 c3, .slice A4 n4 c4] := hG.dep 3 (by decide) 21 rfl
                  have t22 : a.tmps.getD 22 undef = .int .i64 k := hG.dep 4 (by decide) 22 rfl
                  refine op_call_g ho1 (wanted_none rfl) 45 #[.agg #[.slice A3 n3 c3, .slice A4 n4 c4], .int .i64 k] (by simp [go_sem, Act.eval, -Array.getD_eq_getD_getElem?, t21, t22, q1]) ?_
                  refine (WY.it W (hbw.trans (hbW.mono hbw.size))).mono ?_
                  rintro e W' ⟨rfl, hb'⟩
                  exact ⟨_, rfl, hb', rfl⟩
                | 6 =>
                  have ho1 := ho
                  cases ho
                  have t20 : a.tmps.getD 20 undef = .int .i64 x := hG.dep 2 (by decide) 20 rfl
                  have t23 : a.tmps.getD 23 undef = .int .i64 y := hG.dep 5 (by decide) 23 rfl
                  exact op_value_g (w1 := W) ho1 (wanted_none rfl) (.bool true) (by simp [go_sem, Act.eval, -Array.getD_eq_getD_getElem?, t20, t23, q1]) (Gr.refl _) rfl
                | q + 7 => cases ho
              · intro a W hbW hD
                have hfr := hD.frame [18, 19, 20, 21, 22, 23, 24] (by kernel_rfl)
                have t18 : a.tmps.getD 18 undef = .agg #[.slice A1 n1 c1, .slice A2 n2 c2] := hD.sp 0 (by decide) 18 rfl
                have t19 : a.tmps.getD 19 undef = .int .i64 k := hD.sp 1 (by decide) 19 rfl
                have t20 : a.tmps.getD 20 undef = .int .i64 x := hD.sp 2 (by decide) 20 rfl
                have t21 : a.tmps.getD 21 undef = .agg #[.slice A3 n3 c3, .slice A4 n4 c4] := hD.sp 3 (by decide) 21 rfl
                have t22 : a.tmps.getD 22 undef = .int .i64 k := hD.sp 4 (by decide) 22 rfl
                have t23 : a.tmps.getD 23 undef = .int .i64 y := hD.sp 5 (by decide) 23 rfl
                have t24 : a.tmps.getD 24 undef = .bool true := hD.sp 6 (by decide) 24 rfl
                simp only [List.foldl_cons, List.foldl_nil] at hfr
                rw [t18, t19, t20, t21, t22, t23, t24] at hfr
                rw [hfr]
                clear hfr hD t18 t19 t20 t21 t22 t23 t24
                have HBW := Kp.mk hbW
                clear hbW
                simp only [Act.put, List.setIfInBounds_toArray, List.set_cons_succ, List.set_cons_zero]
                have KBW : Kp (Below w2.heap.size w2 W) := ⟨hbw.trans (HBW.it.mono hbw.size)⟩
                clear HBW
                go_wp2_with fail
                refine wp_region_sp [.ex (.agg #[.slice A3 n3 c3, .slice A4 n4 c4]), .ex (.int .i64 k), .ex (.int .i64 y), .ex (.agg #[.slice A1 n1 c1, .slice A2 n2 c2]), .ex (.int .i64 k), .ex (.int .i64 x), .ex (.int .i64 ((y : Int) - x)), .ex (.bool false)] (by kernel_rfl) (by kernel_rfl) ?_ ?_
                · intro i o ho a V hbV hG
                  match i with
                  | 0 =>
                    have ho1 := ho
                    cases ho
                    have t3 : a.tmps.getD 3 undef = .pointer (some ⟨w.heap.size + 1, 0, none⟩) := hG.old 3 (by decide)
                    have z0 := ((KBW.it.trans (hbV.mono KBW.it.size)).cell (p := ⟨w.heap.size, 0, none⟩) hs0).trans hc0'
                    have z1 := ((KBW.it.trans (hbV.mono KBW.it.size)).cell (p := ⟨w.heap.size, 1, none⟩) hs0).trans hc1'
                    have z2 := ((KBW.it.trans (hbV.mono KBW.it.size)).cell (p := ⟨w.heap.size + 1, 0, none⟩) hs1).trans hc2'
                    have z3 := ((KBW.it.trans (hbV.mono KBW.it.size)).cell (p := ⟨w.heap.size + 1, 1, none⟩) hs1).trans hc3'
                    exact op_value_g (w1 := V) ho1 (wanted_none rfl) (.agg #[.slice A3 n3 c3, .slice A4 n4 c4]) (by simp [go_sem, Act.eval, -Array.getD_eq_getD_getElem?, t3, q2, hwr, z0, z1, z2, z3]) (Gr.refl _) rfl
                  | 1 =>
                    have ho1 := ho
                    cases ho
                    have t6 : a.tmps.getD 6 undef = .int .i64 k := hG.old 6 (by decide)
                    exact op_value_g (w1 := V) ho1 (wanted_none rfl) (.int .i64 k) (by simp [go_sem, Act.eval, -Array.getD_eq_getD_getElem?, t6, q2, hwr]) (Gr.refl _) rfl
                  | 2 =>
                    have ho1 := ho
                    cases ho
                    have t27 : a.tmps.getD 27 undef = .agg #[.slice A3 n3 c3, .slice A4 n4 c4] := hG.dep 0 (by decide) 27 rfl
                    have t28 : a.tmps.getD 28 undef = .int .i64 k := hG.dep 1 (by decide) 28 rfl
                    refine op_call_g ho1 (wanted_none rfl) 45 #[.agg #[.slice A3 n3 c3, .slice A4 n4 c4], .int .i64 k] (by simp [go_sem, Act.eval, -Array.getD_eq_getD_getElem?, t27, t28, q2, hwr]) ?_
                    refine (WY.it V (KBW.it.trans (hbV.mono KBW.it.size))).mono ?_
                    rintro e V' ⟨rfl, hb'⟩
                    exact ⟨_, rfl, hb', rfl⟩
                  | 3 =>
                    have ho1 := ho
                    cases ho
                    have t2 : a.tmps.getD 2 undef = .pointer (some ⟨w.heap.size, 0, none⟩) := hG.old 2 (by decide)
                    have z0 := ((KBW.it.trans (hbV.mono KBW.it.size)).cell (p := ⟨w.heap.size, 0, none⟩) hs0).trans hc0'
                    have z1 := ((KBW.it.trans (hbV.mono KBW.it.size)).cell (p := ⟨w.heap.size, 1, none⟩) hs0).trans hc1'
                    have z2 := ((KBW.it.trans (hbV.mono KBW.it.size)).cell (p := ⟨w.heap.size + 1, 0, none⟩) hs1).trans hc2'
                    have z3 := ((KBW.it.trans (hbV.mono KBW.it.size)).cell (p := ⟨w.heap.size + 1, 1, none⟩) hs1).trans hc3'
                    exact op_value_g (w1 := V) ho1 (wanted_none rfl) (.agg #[.slice A1 n1 c1, .slice A2 n2 c2]) (by simp [go_sem, Act.eval, -Array.getD_eq_getD_getElem?, t2, q2, hwr, z0, z1, z2, z3]) (Gr.refl _) rfl
                  | 4 =>
                    have ho1 := ho
                    cases ho
                    have t6 : a.tmps.getD 6 undef = .int .i64 k := hG.old 6 (by decide)
                    exact op_value_g (w1 := V) ho1 (wanted_none rfl) (.int .i64 k) (by simp [go_sem, Act.eval, -Array.getD_eq_getD_getElem?, t6, q2, hwr]) (Gr.refl _) rfl
                  | 5 =>
                    have ho1 := ho
                    cases ho
                    have t30 : a.tmps.getD 30 undef = .agg #[.slice A1 n1 c1, .slice A2 n2 c2] := hG.dep 3 (by decide) 30 rfl
                    have t31 : a.tmps.getD 31 undef = .int .i64 k := hG.dep 4 (by decide) 31 rfl
                    refine op_call_g ho1 (wanted_none rfl) 45 #[.agg #[.slice A1 n1 c1, .slice A2 n2 c2], .int .i64 k] (by simp [go_sem, Act.eval, -Array.getD_eq_getD_getElem?, t30, t31, q2, hwr]) ?_
                    refine (WX.it V (KBW.it.trans (hbV.mono KBW.it.size))).mono ?_
                    rintro e V' ⟨rfl, hb'⟩
                    exact ⟨_, rfl, hb', rfl⟩
                  | 6 =>
                    have ho1 := ho
                    cases ho
                    have t29 : a.tmps.getD 29 undef = .int .i64 y := hG.dep 2 (by decide) 29 rfl
                    have t32 : a.tmps.getD 32 undef = .int .i64 x := hG.dep 5 (by decide) 32 rfl
                    exact op_value_g (w1 := V) ho1 (wanted_none rfl) (.int .i64 ((y : Int) - x)) (by simp [go_sem, Act.eval, -Array.getD_eq_getD_getElem?, t29, t32, q2, hwr]) (Gr.refl _) rfl
                  | 7 =>
                    have ho1 := ho
                    cases ho
                    have t33 : a.tmps.getD 33 undef = .int .i64 ((y : Int) - x) := hG.dep 6 (by decide) 33 rfl
                    exact op_value_g (w1 := V) ho1 (wanted_none rfl) (.bool false) (by simp [go_sem, Act.eval, -Array.getD_eq_getD_getElem?, t33, q2, hwr]) (Gr.refl _) rfl
                  | q + 8 => cases ho
                · intro a V hbV hD
                  have hfr := hD.frame [27, 28, 29, 30, 31, 32, 33, 34] (by kernel_rfl)
                  have t27 : a.tmps.getD 27 undef = .agg #[.slice A3 n3 c3, .slice A4 n4 c4] := hD.sp 0 (by decide) 27 rfl
                  have t28 : a.tmps.getD 28 undef = .int .i64 k := hD.sp 1 (by decide) 28 rfl
                  have t29 : a.tmps.getD 29 undef = .int .i64 y := hD.sp 2 (by decide) 29 rfl
                  have t30 : a.tmps.getD 30 undef = .agg #[.slice A1 n1 c1, .slice A2 n2 c2] := hD.sp 3 (by decide) 30 rfl
                  have t31 : a.tmps.getD 31 undef = .int .i64 k := hD.sp 4 (by decide) 31 rfl
                  have t32 : a.tmps.getD 32 undef = .int .i64 x := hD.sp 5 (by decide) 32 rfl
                  have t33 : a.tmps.getD 33 undef = .int .i64 ((y : Int) - x) := hD.sp 6 (by decide) 33 rfl
                  have t34 : a.tmps.getD 34 undef = .bool false := hD.sp 7 (by decide) 34 rfl
                  simp only [List.foldl_cons, List.foldl_nil] at hfr
                  rw [t27, t28, t29, t30, t31, t32, t33, t34] at hfr
                  rw [hfr]
                  clear hfr hD t27 t28 t29 t30 t31 t32 t33 t34
                  have HBV := Kp.mk hbV
                  clear hbV
                  simp only [Act.put, List.setIfInBounds_toArray, List.set_cons_succ, List.set_cons_zero]
                  go_wp2
                  go_roundw
                  case rel => exact ⟨k + 1, by omega, by go_num, by rw [HD.it]; go_num, HJ, ⟨KBW.it.trans (HBV.it.mono KBW.it.size)⟩⟩
                  case measure => simp [intOf]; omega
        · have e : k = 5 := by omega
          subst e
          have HM := Kp.mk (mayOf_else hno.it)
          have HBL : Kp (Below w.heap.size w wr) := ⟨HB2.it.trans (hB.it.mono HB2.it.size)⟩
          by_cases h1 : dif f g 5 = 1
          · have HV : Kp (mayOf f g = 0) := ⟨by rw [HM.it, if_pos h1]⟩
            rw [h1]
            clear h1 hdl
            go_wp2
            go_ret
            exact ⟨ret_int (by rw [HE.it, HV.it]), HBL.it⟩
          · have HV : Kp (mayOf f g = 111) := ⟨by rw [HM.it, if_neg h1]⟩
            have q : ((dif f g 5 : Int) != 1) = true := by simp; omega
            clear h1
            go_wp2
            go_ret
            exact ⟨ret_int (by rw [HE.it, HV.it]), HBL.it⟩
end

end Go.Proofs.Ytbfpdahbmdaenaa
