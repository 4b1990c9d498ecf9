/-
  The digest of a pair, both sides.
-/
import Derived.Test.YtcmkjoepndbicaaReg2
import Derived.Test.YtcmkjoepndbicaaRWir
namespace Go.Proofs.Ytcmkjoepndbicaa
open Go Go.RowKit

/-- The digest of a pair. -/
def pairU (ka kb : BitVec 64) (p : ByteArray × ByteArray) : BitVec 64 := sumU ka kb (txtB p.1 ++ txtB p.2)
theorem txtB_small (s : ByteArray) (h : s.size ≤ 140737488351232) : (txtB s).length ≤ s.size + 9 := by
  unfold txtB
  have := numB_len s.size (by omega)
  have e : s.data.toList.length = s.size := by simp
  rw [List.length_append, e]
  omega
set_option linter.unusedSimpArgs false in
set_option linter.unusedVariables false in
set_option maxRecDepth 100000 in
set_option maxHeartbeats 4000000 in
theorem pair_any (ka kb : BitVec 64) (p : ByteArray × ByteArray) (w : World) (hp : p.1.size + p.2.size ≤ 140737488351232) :
    Calls Try.prog 23 #[.agg #[.int .u64 (ka.toNat : Int), .int .u64 (kb.toNat : Int)], .agg #[.string p.1, .string p.2]] w fun e w' => e = .returned (.int .u64 ((pairU ka kb p).toNat : Int)) ∧ Below w.heap.size w w' := by
  go_enter Try.func23, Try.ntmps23
  go_upto_region 1 with fail
  refine wp_on (fun wx => wx.heap.size = w.heap.size + 2 ∧ wx.cell? ⟨w.heap.size, 0, none⟩ = some (.int .u64 (ka.toNat : Int)) ∧ wx.cell? ⟨w.heap.size, 1, none⟩ = some (.int .u64 (kb.toNat : Int)) ∧ wx.cell? ⟨w.heap.size + 1, 0, none⟩ = some (.string p.1) ∧ wx.cell? ⟨w.heap.size + 1, 1, none⟩ = some (.string p.2) ∧ Below w.heap.size w wx) ⟨by simp, blk_cell (blk_old _ (blk_new _ _)) rfl, blk_cell (blk_old _ (blk_new _ _)) rfl, blk_cell (blk_new1 _ _ _) rfl, blk_cell (blk_new1 _ _ _) rfl, ((Below.refl _ _).alloc (Nat.le_refl _) _).alloc (by simp) _⟩ (fun wx hx => ?_)
  obtain ⟨hsz, z0, z1, z2, z3, hB⟩ := hx
  have hs0 : w.heap.size < wx.heap.size := by omega
  have hs1 : w.heap.size + 1 < wx.heap.size := by omega
  refine wp_region_sp [SpK.ex (.agg #[.int .u64 (ka.toNat : Int), .int .u64 (kb.toNat : Int)]), SpK.ex (.pointer (some ⟨w.heap.size + 1, 0, none⟩)), SpK.ex (.string p.1), SpK.rb (txtB p.1), SpK.ex (.pointer (some ⟨w.heap.size + 1, 1, none⟩)), SpK.ex (.string p.2), SpK.rb (txtB p.1 ++ txtB p.2), SpK.ex (.int .u64 ((pairU ka kb p).toNat : Int)), SpK.ex (.int .u64 ((pairU ka kb p).toNat : Int))] (by kernel_rfl) (by kernel_rfl) ?_ ?_
  · intro i o ho a W hbW hG
    match i with
    | 0 =>
      have ho1 := ho
      cases ho
      have t2 : a.tmps.getD 2 undef = .pointer (some ⟨w.heap.size, 0, none⟩) := hG.old 2 (by decide)
      have q0 := (hbW.cell (p := ⟨w.heap.size, 0, none⟩) hs0).trans z0
      have q1 := (hbW.cell (p := ⟨w.heap.size, 1, none⟩) hs0).trans z1
      have q2 := (hbW.cell (p := ⟨w.heap.size + 1, 0, none⟩) hs1).trans z2
      have q3 := (hbW.cell (p := ⟨w.heap.size + 1, 1, none⟩) hs1).trans z3
      exact op_value_g (w1 := W) ho1 (wanted_none rfl) (.agg #[.int .u64 (ka.toNat : Int), .int .u64 (kb.toNat : Int)]) (by simp [go_sem, Act.eval, -Array.getD_eq_getD_getElem?, t2, q0, q1, q2, q3]) (Gr.refl _) rfl
    | 1 =>
      have ho1 := ho
      cases ho
      have t3 : a.tmps.getD 3 undef = .pointer (some ⟨w.heap.size + 1, 0, none⟩) := hG.old 3 (by decide)
      exact op_value_g (w1 := W) ho1 (wanted_none rfl) (.pointer (some ⟨w.heap.size + 1, 0, none⟩)) (by simp [go_sem, Act.eval, -Array.getD_eq_getD_getElem?, t3]) (Gr.refl _) rfl
    | 2 =>
      have ho1 := ho
      cases ho
      have t6 : a.tmps.getD 6 undef = .pointer (some ⟨w.heap.size + 1, 0, none⟩) := hG.dep 1 (by decide) 6 rfl
      have q0 := (hbW.cell (p := ⟨w.heap.size, 0, none⟩) hs0).trans z0
      have q1 := (hbW.cell (p := ⟨w.heap.size, 1, none⟩) hs0).trans z1
      have q2 := (hbW.cell (p := ⟨w.heap.size + 1, 0, none⟩) hs1).trans z2
      have q3 := (hbW.cell (p := ⟨w.heap.size + 1, 1, none⟩) hs1).trans z3
      exact op_value_g (w1 := W) ho1 (wanted_none rfl) (.string p.1) (by simp [go_sem, Act.eval, -Array.getD_eq_getD_getElem?, t6, q0, q1, q2, q3]) (Gr.refl _) rfl
    | 3 =>
      have ho1 := ho
      cases ho
      have t7 : a.tmps.getD 7 undef = .string p.1 := hG.dep 2 (by decide) 7 rfl
      refine op_call_g ho1 (wanted_none rfl) 57 #[.slice none 0 0, .string p.1] (by simp [go_sem, Act.eval, -Array.getD_eq_getD_getElem?, t7]) ?_
      refine (text_any none 0 0 [] p.1 W ⟨rfl, by decide, fun h => absurd h (by decide)⟩ (fun _ => rfl) (by omega)).mono ?_
      rintro e W' ⟨v, rfl, ho', hb'⟩
      obtain ⟨A, c, rfl, e1, e2, e3⟩ := ho'.form (by rw [List.nil_append]; have := txtB_small p.1 (by omega); omega)
      exact ⟨_, rfl, hb', A, _, c, rfl, e1, e2, e3⟩
    | 4 =>
      have ho1 := ho
      cases ho
      have t3 : a.tmps.getD 3 undef = .pointer (some ⟨w.heap.size + 1, 0, none⟩) := hG.old 3 (by decide)
      exact op_value_g (w1 := W) ho1 (wanted_none rfl) (.pointer (some ⟨w.heap.size + 1, 1, none⟩)) (by simp [go_sem, Act.eval, -Array.getD_eq_getD_getElem?, t3]) (Gr.refl _) rfl
    | 5 =>
      have ho1 := ho
      cases ho
      have t9 : a.tmps.getD 9 undef = .pointer (some ⟨w.heap.size + 1, 1, none⟩) := hG.dep 4 (by decide) 9 rfl
      have q0 := (hbW.cell (p := ⟨w.heap.size, 0, none⟩) hs0).trans z0
      have q1 := (hbW.cell (p := ⟨w.heap.size, 1, none⟩) hs0).trans z1
      have q2 := (hbW.cell (p := ⟨w.heap.size + 1, 0, none⟩) hs1).trans z2
      have q3 := (hbW.cell (p := ⟨w.heap.size + 1, 1, none⟩) hs1).trans z3
      exact op_value_g (w1 := W) ho1 (wanted_none rfl) (.string p.2) (by simp [go_sem, Act.eval, -Array.getD_eq_getD_getElem?, t9, q0, q1, q2, q3]) (Gr.refl _) rfl
    | 6 =>
      have ho1 := ho
      cases ho
      obtain ⟨A8, n8, c8, t8, e8, m8, r8⟩ : (SpK.rb (txtB p.1)).p (a.tmps.getD 8 undef) W := hG.dep 3 (by decide) 8 rfl
      have t10 : a.tmps.getD 10 undef = .string p.2 := hG.dep 5 (by decide) 10 rfl
      refine op_call_g ho1 (wanted_none rfl) 57 #[.slice A8 n8 c8, .string p.2] (by simp [go_sem, Act.eval, -Array.getD_eq_getD_getElem?, t8, t10]) ?_
      refine (text_any A8 n8 c8 _ p.2 W r8 e8 (by rw [← r8.len]; have := txtB_small p.1 (by omega); omega)).mono ?_
      rintro e W' ⟨v, rfl, ho', hb'⟩
      obtain ⟨A, c, rfl, e1, e2, e3⟩ := ho'.form (by rw [List.length_append]; have := txtB_small p.1 (by omega); have := txtB_small p.2 (by omega); omega)
      exact ⟨_, rfl, hb', A, _, c, rfl, e1, e2, e3⟩
    | 7 =>
      have ho1 := ho
      cases ho
      have t5 : a.tmps.getD 5 undef = .agg #[.int .u64 (ka.toNat : Int), .int .u64 (kb.toNat : Int)] := hG.dep 0 (by decide) 5 rfl
      obtain ⟨A11, n11, c11, t11, e11, m11, r11⟩ : (SpK.rb (txtB p.1 ++ txtB p.2)).p (a.tmps.getD 11 undef) W := hG.dep 6 (by decide) 11 rfl
      refine op_call_g ho1 (wanted_none rfl) 19 #[.agg #[.int .u64 (ka.toNat : Int), .int .u64 (kb.toNat : Int)], .slice A11 n11 c11] (by simp [go_sem, Act.eval, -Array.getD_eq_getD_getElem?, t5, t11]) ?_
      refine (sum_any A11 n11 c11 _ ka kb W r11 m11).mono ?_
      rintro e W' ⟨rfl, hb'⟩
      exact ⟨_, rfl, hb', rfl⟩
    | 8 =>
      have ho1 := ho
      cases ho
      have t12 : a.tmps.getD 12 undef = .int .u64 ((pairU ka kb p).toNat : Int) := hG.dep 7 (by decide) 12 rfl
      exact op_value_g (w1 := W) ho1 (wanted_none rfl) (.int .u64 ((pairU ka kb p).toNat : Int)) (by simp [go_sem, Act.eval, -Array.getD_eq_getD_getElem?, t12]) (Gr.refl _) rfl
    | q + 9 => cases ho
  · intro a W hbW hD
    have hfr := hD.frame [5, 6, 7, 8, 9, 10, 11, 12, 4] (by kernel_rfl)
    have t5 : a.tmps.getD 5 undef = .agg #[.int .u64 (ka.toNat : Int), .int .u64 (kb.toNat : Int)] := hD.sp 0 (by decide) 5 rfl
    have t6 : a.tmps.getD 6 undef = .pointer (some ⟨w.heap.size + 1, 0, none⟩) := hD.sp 1 (by decide) 6 rfl
    have t7 : a.tmps.getD 7 undef = .string p.1 := hD.sp 2 (by decide) 7 rfl
    have t9 : a.tmps.getD 9 undef = .pointer (some ⟨w.heap.size + 1, 1, none⟩) := hD.sp 4 (by decide) 9 rfl
    have t10 : a.tmps.getD 10 undef = .string p.2 := hD.sp 5 (by decide) 10 rfl
    have t12 : a.tmps.getD 12 undef = .int .u64 ((pairU ka kb p).toNat : Int) := hD.sp 7 (by decide) 12 rfl
    have t4 : a.tmps.getD 4 undef = .int .u64 ((pairU ka kb p).toNat : Int) := hD.sp 8 (by decide) 4 rfl
    simp only [List.foldl_cons, List.foldl_nil] at hfr
    rw [t5, t6, t7, t9, t10, t12, t4] at hfr
    generalize a.tmps.getD 8 undef = u8 at hfr
    generalize a.tmps.getD 11 undef = u11 at hfr
    rw [hfr]
    clear hfr hD t5 t6 t7 t9 t10 t12 t4
    have HBW := Kp.mk hbW
    clear hbW
    simp only [Act.put, List.setIfInBounds_toArray, List.set_cons_succ, List.set_cons_zero]
    clear hsz z0 z1 z2 z3 hs0 hs1
    have HB := Kp.mk hB
    clear hB
    go_wp2
    go_ret
    exact ⟨rfl, HB.it.trans (HBW.it.mono HB.it.size)⟩
set_option linter.unusedSimpArgs false in
set_option linter.unusedVariables false in
set_option maxRecDepth 100000 in
set_option maxHeartbeats 4000000 in
theorem rpair_any (ka kb : BitVec 64) (p : ByteArray × ByteArray) (w : World) (hp : p.1.size + p.2.size ≤ 140737488351232) :
    Calls Try.prog 24 #[.agg #[.int .u64 (ka.toNat : Int), .int .u64 (kb.toNat : Int)], .agg #[.string p.1, .string p.2]] w fun e w' => e = .returned (.int .u64 ((pairU ka kb p).toNat : Int)) ∧ Below w.heap.size w w' := by
  go_enter Try.func24, Try.ntmps24
  go_upto_region 1 with fail
  refine wp_on (fun wx => wx.heap.size = w.heap.size + 2 ∧ wx.cell? ⟨w.heap.size, 0, none⟩ = some (.int .u64 (ka.toNat : Int)) ∧ wx.cell? ⟨w.heap.size, 1, none⟩ = some (.int .u64 (kb.toNat : Int)) ∧ wx.cell? ⟨w.heap.size + 1, 0, none⟩ = some (.string p.1) ∧ wx.cell? ⟨w.heap.size + 1, 1, none⟩ = some (.string p.2) ∧ Below w.heap.size w wx) ⟨by simp, blk_cell (blk_old _ (blk_new _ _)) rfl, blk_cell (blk_old _ (blk_new _ _)) rfl, blk_cell (blk_new1 _ _ _) rfl, blk_cell (blk_new1 _ _ _) rfl, ((Below.refl _ _).alloc (Nat.le_refl _) _).alloc (by simp) _⟩ (fun wx hx => ?_)
  obtain ⟨hsz, z0, z1, z2, z3, hB⟩ := hx
  have hs0 : w.heap.size < wx.heap.size := by omega
  have hs1 : w.heap.size + 1 < wx.heap.size := by omega
  refine wp_region_sp [SpK.ex (.agg #[.int .u64 (ka.toNat : Int), .int .u64 (kb.toNat : Int)]), SpK.ex (.pointer (some ⟨w.heap.size + 1, 0, none⟩)), SpK.ex (.string p.1), SpK.rb (txtB p.1), SpK.ex (.pointer (some ⟨w.heap.size + 1, 1, none⟩)), SpK.ex (.string p.2), SpK.rb (txtB p.1 ++ txtB p.2), SpK.ex (.int .u64 ((pairU ka kb p).toNat : Int)), SpK.ex (.int .u64 ((pairU ka kb p).toNat : Int))] (by kernel_rfl) (by kernel_rfl) ?_ ?_
  · intro i o ho a W hbW hG
    match i with
    | 0 =>
      have ho1 := ho
      cases ho
      have t2 : a.tmps.getD 2 undef = .pointer (some ⟨w.heap.size, 0, none⟩) := hG.old 2 (by decide)
      have q0 := (hbW.cell (p := ⟨w.heap.size, 0, none⟩) hs0).trans z0
      have q1 := (hbW.cell (p := ⟨w.heap.size, 1, none⟩) hs0).trans z1
      have q2 := (hbW.cell (p := ⟨w.heap.size + 1, 0, none⟩) hs1).trans z2
      have q3 := (hbW.cell (p := ⟨w.heap.size + 1, 1, none⟩) hs1).trans z3
      exact op_value_g (w1 := W) ho1 (wanted_none rfl) (.agg #[.int .u64 (ka.toNat : Int), .int .u64 (kb.toNat : Int)]) (by simp [go_sem, Act.eval, -Array.getD_eq_getD_getElem?, t2, q0, q1, q2, q3]) (Gr.refl _) rfl
    | 1 =>
      have ho1 := ho
      cases ho
      have t3 : a.tmps.getD 3 undef = .pointer (some ⟨w.heap.size + 1, 0, none⟩) := hG.old 3 (by decide)
      exact op_value_g (w1 := W) ho1 (wanted_none rfl) (.pointer (some ⟨w.heap.size + 1, 0, none⟩)) (by simp [go_sem, Act.eval, -Array.getD_eq_getD_getElem?, t3]) (Gr.refl _) rfl
    | 2 =>
      have ho1 := ho
      cases ho
      have t6 : a.tmps.getD 6 undef = .pointer (some ⟨w.heap.size + 1, 0, none⟩) := hG.dep 1 (by decide) 6 rfl
      have q0 := (hbW.cell (p := ⟨w.heap.size, 0, none⟩) hs0).trans z0
      have q1 := (hbW.cell (p := ⟨w.heap.size, 1, none⟩) hs0).trans z1
      have q2 := (hbW.cell (p := ⟨w.heap.size + 1, 0, none⟩) hs1).trans z2
      have q3 := (hbW.cell (p := ⟨w.heap.size + 1, 1, none⟩) hs1).trans z3
      exact op_value_g (w1 := W) ho1 (wanted_none rfl) (.string p.1) (by simp [go_sem, Act.eval, -Array.getD_eq_getD_getElem?, t6, q0, q1, q2, q3]) (Gr.refl _) rfl
    | 3 =>
      have ho1 := ho
      cases ho
      have t7 : a.tmps.getD 7 undef = .string p.1 := hG.dep 2 (by decide) 7 rfl
      refine op_call_g ho1 (wanted_none rfl) 58 #[.slice none 0 0, .string p.1] (by simp [go_sem, Act.eval, -Array.getD_eq_getD_getElem?, t7]) ?_
      refine (rtext_any none 0 0 [] p.1 W ⟨rfl, by decide, fun h => absurd h (by decide)⟩ (fun _ => rfl) (by omega)).mono ?_
      rintro e W' ⟨v, rfl, ho', hb'⟩
      obtain ⟨A, c, rfl, e1, e2, e3⟩ := ho'.form (by rw [List.nil_append]; have := txtB_small p.1 (by omega); omega)
      exact ⟨_, rfl, hb', A, _, c, rfl, e1, e2, e3⟩
    | 4 =>
      have ho1 := ho
      cases ho
      have t3 : a.tmps.getD 3 undef = .pointer (some ⟨w.heap.size + 1, 0, none⟩) := hG.old 3 (by decide)
      exact op_value_g (w1 := W) ho1 (wanted_none rfl) (.pointer (some ⟨w.heap.size + 1, 1, none⟩)) (by simp [go_sem, Act.eval, -Array.getD_eq_getD_getElem?, t3]) (Gr.refl _) rfl
    | 5 =>
      have ho1 := ho
      cases ho
      have t9 : a.tmps.getD 9 undef = .pointer (some ⟨w.heap.size + 1, 1, none⟩) := hG.dep 4 (by decide) 9 rfl
      have q0 := (hbW.cell (p := ⟨w.heap.size, 0, none⟩) hs0).trans z0
      have q1 := (hbW.cell (p := ⟨w.heap.size, 1, none⟩) hs0).trans z1
      have q2 := (hbW.cell (p := ⟨w.heap.size + 1, 0, none⟩) hs1).trans z2
      have q3 := (hbW.cell (p := ⟨w.heap.size + 1, 1, none⟩) hs1).trans z3
      exact op_value_g (w1 := W) ho1 (wanted_none rfl) (.string p.2) (by simp [go_sem, Act.eval, -Array.getD_eq_getD_getElem?, t9, q0, q1, q2, q3]) (Gr.refl _) rfl
    | 6 =>
      have ho1 := ho
      cases ho
      obtain ⟨A8, n8, c8, t8, e8, m8, r8⟩ : (SpK.rb (txtB p.1)).p (a.tmps.getD 8 undef) W := hG.dep 3 (by decide) 8 rfl
      have t10 : a.tmps.getD 10 undef = .string p.2 := hG.dep 5 (by decide) 10 rfl
      refine op_call_g ho1 (wanted_none rfl) 58 #[.slice A8 n8 c8, .string p.2] (by simp [go_sem, Act.eval, -Array.getD_eq_getD_getElem?, t8, t10]) ?_
      refine (rtext_any A8 n8 c8 _ p.2 W r8 e8 (by rw [← r8.len]; have := txtB_small p.1 (by omega); omega)).mono ?_
      rintro e W' ⟨v, rfl, ho', hb'⟩
      obtain ⟨A, c, rfl, e1, e2, e3⟩ := ho'.form (by rw [List.length_append]; have := txtB_small p.1 (by omega); have := txtB_small p.2 (by omega); omega)
      exact ⟨_, rfl, hb', A, _, c, rfl, e1, e2, e3⟩
    | 7 =>
      have ho1 := ho
      cases ho
      have t5 : a.tmps.getD 5 undef = .agg #[.int .u64 (ka.toNat : Int), .int .u64 (kb.toNat : Int)] := hG.dep 0 (by decide) 5 rfl
      obtain ⟨A11, n11, c11, t11, e11, m11, r11⟩ : (SpK.rb (txtB p.1 ++ txtB p.2)).p (a.tmps.getD 11 undef) W := hG.dep 6 (by decide) 11 rfl
      refine op_call_g ho1 (wanted_none rfl) 20 #[.agg #[.int .u64 (ka.toNat : Int), .int .u64 (kb.toNat : Int)], .slice A11 n11 c11] (by simp [go_sem, Act.eval, -Array.getD_eq_getD_getElem?, t5, t11]) ?_
      refine (rsum_any A11 n11 c11 _ ka kb W r11).mono ?_
      rintro e W' ⟨rfl, hb'⟩
      exact ⟨_, rfl, hb', rfl⟩
    | 8 =>
      have ho1 := ho
      cases ho
      have t12 : a.tmps.getD 12 undef = .int .u64 ((pairU ka kb p).toNat : Int) := hG.dep 7 (by decide) 12 rfl
      exact op_value_g (w1 := W) ho1 (wanted_none rfl) (.int .u64 ((pairU ka kb p).toNat : Int)) (by simp [go_sem, Act.eval, -Array.getD_eq_getD_getElem?, t12]) (Gr.refl _) rfl
    | q + 9 => cases ho
  · intro a W hbW hD
    have hfr := hD.frame [5, 6, 7, 8, 9, 10, 11, 12, 4] (by kernel_rfl)
    have t5 : a.tmps.getD 5 undef = .agg #[.int .u64 (ka.toNat : Int), .int .u64 (kb.toNat : Int)] := hD.sp 0 (by decide) 5 rfl
    have t6 : a.tmps.getD 6 undef = .pointer (some ⟨w.heap.size + 1, 0, none⟩) := hD.sp 1 (by decide) 6 rfl
    have t7 : a.tmps.getD 7 undef = .string p.1 := hD.sp 2 (by decide) 7 rfl
    have t9 : a.tmps.getD 9 undef = .pointer (some ⟨w.heap.size + 1, 1, none⟩) := hD.sp 4 (by decide) 9 rfl
    have t10 : a.tmps.getD 10 undef = .string p.2 := hD.sp 5 (by decide) 10 rfl
    have t12 : a.tmps.getD 12 undef = .int .u64 ((pairU ka kb p).toNat : Int) := hD.sp 7 (by decide) 12 rfl
    have t4 : a.tmps.getD 4 undef = .int .u64 ((pairU ka kb p).toNat : Int) := hD.sp 8 (by decide) 4 rfl
    simp only [List.foldl_cons, List.foldl_nil] at hfr
    rw [t5, t6, t7, t9, t10, t12, t4] at hfr
    generalize a.tmps.getD 8 undef = u8 at hfr
    generalize a.tmps.getD 11 undef = u11 at hfr
    rw [hfr]
    clear hfr hD t5 t6 t7 t9 t10 t12 t4
    have HBW := Kp.mk hbW
    clear hbW
    simp only [Act.put, List.setIfInBounds_toArray, List.set_cons_succ, List.set_cons_zero]
    clear hsz z0 z1 z2 z3 hs0 hs1
    have HB := Kp.mk hB
    clear hB
    go_wp2
    go_ret
    exact ⟨rfl, HB.it.trans (HBW.it.mono HB.it.size)⟩
end Go.Proofs.Ytcmkjoepndbicaa
