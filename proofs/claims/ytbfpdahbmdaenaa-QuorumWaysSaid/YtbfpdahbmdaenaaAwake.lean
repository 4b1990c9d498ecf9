/-
  The examples of the law's text.
-/
import Derived.Test.YtbfpdahbmdaenaaMays
import Derived.Test.YtbfpdahbmdaenaaReg
import Derived.Test.YtbfpdahbmdaenaaPlain3
namespace Go.Proofs.Ytbfpdahbmdaenaa
open Go.RowKit

theorem rd_new (W : World) (xs : List Int) (e : TypeId) (hl : xs.length * 8 ≤ 140737488351232) : Rd (W.alloc (.cells (xs.map (Value.int .i64)).toArray e)) (some ⟨W.heap.size, 0, none⟩) xs.length xs :=
  ⟨rfl, hl, fun _ => ⟨_, _, rfl, by simp, fun j hj => by rw [Nat.zero_add]; exact blk_cell (blk_new _ _) (by simp [hj, rd_lt])⟩⟩
theorem rd_nil (W : World) : Rd W none 0 [] := ⟨rfl, by decide, fun h => absurd h (by decide)⟩
theorem gr_below {B : Nat} {a b : World} (h : Gr a b) (hB : B ≤ a.heap.size) : Below B a b := h.mono hB

def r597 (m : Int) : Int := if m = 0 then 5 else if m = 1 then 9 else if m = 2 then 7 else 0
theorem agr_597 : agr r597 [0, 1, 2] = 7 := by
  obtain ⟨h1, h2, v, hv, h3⟩ := agr_half (r := r597) (vs := [0, 1, 2]) (by decide) (by decide)
  have h7 : Half r597 [0, 1, 2] 7 := by unfold Half; decide
  have h8 : ¬ Half r597 [0, 1, 2] 9 := by unfold Half; decide
  have hle : ¬ agr r597 [0, 1, 2] < 7 := fun h => h2 7 h h7
  simp only [List.mem_cons, List.not_mem_nil, or_false] at hv
  rcases hv with rfl | rfl | rfl
  · have : r597 0 = 5 := rfl
    omega
  · have : r597 1 = 9 := rfl
    rw [← h3, this] at h1
    exact absurd h1 h8
  · have : r597 2 = 7 := rfl
    omega

set_option linter.unusedSimpArgs false in
set_option maxRecDepth 100000 in
set_option maxHeartbeats 4000000 in
theorem awake_any (w : World) : Calls Try.prog 14 #[] w fun e w' => e = .returned (.bool true) ∧ Below w.heap.size w w' := by
  go_enter Try.func14, Try.ntmps14
  go_wp2_with fail
  obtain ⟨w0, hw0⟩ : ∃ w0, w0 = ((w.alloc (.cells #[.int .i64 0, .int .i64 1] 3)).alloc (.cells #[.int .i64 2] 3)).alloc (.cells #[.slice (some ⟨w.heap.size, 0, none⟩) 2 2, .slice (some ⟨w.heap.size + 1, 0, none⟩) 1 1] 24) := ⟨_, rfl⟩
  rw [← hw0]
  have hbw0 : Below w.heap.size w w0 := by rw [hw0]; exact (((Below.refl _ _).alloc (Nat.le_refl _) _).alloc (by simp) _).alloc (by simp; omega) _
  have hsz0 : w0.heap.size = w.heap.size + 1 + 1 + 1 := by rw [hw0]; simp
  have hc0 : w0.cell? ⟨w.heap.size + 1 + 1, 0, none⟩ = some (.slice (some ⟨w.heap.size, 0, none⟩) 2 2) := by
    rw [hw0]
    have := blk_new ((w.alloc (.cells #[.int .i64 0, .int .i64 1] 3)).alloc (.cells #[.int .i64 2] 3)) (.cells #[.slice (some ⟨w.heap.size, 0, none⟩) 2 2, .slice (some ⟨w.heap.size + 1, 0, none⟩) 1 1] 24)
    rw [World.size_alloc, World.size_alloc] at this
    exact blk_cell this rfl
  have hc1 : w0.cell? ⟨w.heap.size + 1 + 1, 1, none⟩ = some (.slice (some ⟨w.heap.size + 1, 0, none⟩) 1 1) := by
    rw [hw0]
    have := blk_new ((w.alloc (.cells #[.int .i64 0, .int .i64 1] 3)).alloc (.cells #[.int .i64 2] 3)) (.cells #[.slice (some ⟨w.heap.size, 0, none⟩) 2 2, .slice (some ⟨w.heap.size + 1, 0, none⟩) 1 1] 24)
    rw [World.size_alloc, World.size_alloc] at this
    exact blk_cell this rfl
  have hr0 : Rd w0 (some ⟨w.heap.size, 0, none⟩) 2 [0, 1] := by
    rw [hw0]
    exact ((rd_new w [0, 1] 3 (by decide)).below ((Below.refl _ _).alloc (Nat.le_refl _) _)).below ((Below.refl _ _).alloc (Nat.le_refl _) _)
  have hr1 : Rd w0 (some ⟨w.heap.size + 1, 0, none⟩) 1 [2] := by
    rw [hw0]
    have := rd_new (w.alloc (.cells #[.int .i64 0, .int .i64 1] 3)) [2] 3 (by decide)
    rw [World.size_alloc] at this
    exact this.below ((Below.refl _ _).alloc (Nat.le_refl _) _)
  clear hw0
  refine wp_region_sp [.sl [0, 1, 2], .ro [0, 1, 2] [], .sl [0, 2], .ex (.bool true), .ex (.bool true), .sl [0, 1, 2], .ro [0, 1, 2] [], .sl [2], .ex (.bool false), .ex (.bool true), .ex (.bool true), .ex (.bool true), .sl [0, 1], .ro [0, 1] [], .ro [0, 1] [2], .ex (.int .i64 0), .ex (.bool true), .ex (.bool true), .ex (.bool true), .ro [0, 1] [2], .sl [0, 1, 2], .ro [0, 1, 2] [], .ex (.int .i64 0), .ex (.bool true), .ex (.bool true), .ex (.bool true), .sl [0, 1], .ro [0, 1] [], .sl [0, 1, 2], .ro [0, 1, 2] [], .ex (.int .i64 111), .ex (.bool true), .ex (.bool true), .ex (.bool true), .sl [0, 1, 2], .ro [0, 1, 2] [], .ex (.agg #[.int .i64 5, .int .i64 9, .int .i64 7, .int .i64 0, .int .i64 0]), .ex (.int .i64 7), .ex (.bool true), .ex (.bool true), .ex (.bool true), .ro [] [], .ex (.int .i64 110), .ex (.bool true), .ex (.bool true), .ex (.bool true)] (by kernel_rfl) (by kernel_rfl) ?_ ?_
  · intro i o ho a W hbW hG
    match i with
    | 0 =>
      have ho1 := ho
      cases ho
      exact op_value_g ho1 (wanted_none rfl) (.slice (some ⟨W.heap.size, 0, none⟩) 3 3) (by simp [go_sem, Act.eval, -Array.getD_eq_getD_getElem?, ]) ((Below.refl _ _).alloc (Nat.le_refl _) _) ⟨_, _, _, rfl, rd_new W [0, 1, 2] 3 (by decide)⟩
    | 1 =>
      have ho1 := ho
      cases ho
      obtain ⟨A5, n5, c5, t5, r5⟩ : (SpK.sl [0, 1, 2]).holds (a.tmps.getD 5 undef) W := hG.dep 0 (by decide) 5 rfl
      refine op_call_g ho1 (wanted_none rfl) 40 #[.slice A5 n5 c5] (by simp [go_sem, Act.eval, -Array.getD_eq_getD_getElem?, t5]) ?_
      refine (of_any _ _ _ _).mono ?_
      rintro e W' ⟨rfl, hb'⟩
      exact ⟨_, rfl, hb', ⟨_, _, _, _, _, _, rfl, r5.below hb', rd_nil _⟩⟩
    | 2 =>
      have ho1 := ho
      cases ho
      exact op_value_g ho1 (wanted_none rfl) (.slice (some ⟨W.heap.size, 0, none⟩) 2 2) (by simp [go_sem, Act.eval, -Array.getD_eq_getD_getElem?, ]) ((Below.refl _ _).alloc (Nat.le_refl _) _) ⟨_, _, _, rfl, rd_new W [0, 2] 3 (by decide)⟩
    | 3 =>
      have ho1 := ho
      cases ho
      obtain ⟨A6, n6, c6, B6, m6, d6, t6, r6, s6⟩ : (SpK.ro [0, 1, 2] []).holds (a.tmps.getD 6 undef) W := hG.dep 1 (by decide) 6 rfl
      obtain ⟨A7, n7, c7, t7, r7⟩ : (SpK.sl [0, 2]).holds (a.tmps.getD 7 undef) W := hG.dep 2 (by decide) 7 rfl
      refine op_call_g ho1 (wanted_none rfl) 16 #[.agg #[.slice A6 n6 c6, .slice B6 m6 d6], .slice A7 n7 c7] (by simp [go_sem, Act.eval, -Array.getD_eq_getD_getElem?, t6, t7]) ?_
      refine (majority_any _ _ _ _ _ _ _ _ _ [0, 1, 2] [0, 2] W r6 r7).mono ?_
      rintro e W' ⟨rfl, hb'⟩
      exact ⟨_, rfl, hb', by show Value.bool _ = _; rw [show major [0, 1, 2] [0, 2] = true by decide]⟩
    | 4 =>
      have ho1 := ho
      cases ho
      have t8 : a.tmps.getD 8 undef = .bool true := hG.dep 3 (by decide) 8 rfl
      exact op_value_g (w1 := W) ho1 (wanted_none rfl) (.bool true) (by simp [go_sem, Act.eval, -Array.getD_eq_getD_getElem?, t8]) (Gr.refl _) rfl
    | 5 =>
      have ho1 := ho
      cases ho
      have t9 : a.tmps.getD 9 undef = .bool true := hG.dep 4 (by decide) 9 rfl
      exact op_value_g ho1 (wanted_yes rfl rfl t9) (.slice (some ⟨W.heap.size, 0, none⟩) 3 3) (by simp [go_sem, Act.eval, -Array.getD_eq_getD_getElem?, t9]) ((Below.refl _ _).alloc (Nat.le_refl _) _) ⟨_, _, _, rfl, rd_new W [0, 1, 2] 3 (by decide)⟩
    | 6 =>
      have ho1 := ho
      cases ho
      obtain ⟨A10, n10, c10, t10, r10⟩ : (SpK.sl [0, 1, 2]).holds (a.tmps.getD 10 undef) W := hG.dep 5 (by decide) 10 rfl
      have t9 : a.tmps.getD 9 undef = .bool true := hG.dep 4 (by decide) 9 rfl
      refine op_call_g ho1 (wanted_yes rfl rfl t9) 40 #[.slice A10 n10 c10] (by simp [go_sem, Act.eval, -Array.getD_eq_getD_getElem?, t10, t9]) ?_
      refine (of_any _ _ _ _).mono ?_
      rintro e W' ⟨rfl, hb'⟩
      exact ⟨_, rfl, hb', ⟨_, _, _, _, _, _, rfl, r10.below hb', rd_nil _⟩⟩
    | 7 =>
      have ho1 := ho
      cases ho
      have t9 : a.tmps.getD 9 undef = .bool true := hG.dep 4 (by decide) 9 rfl
      exact op_value_g ho1 (wanted_yes rfl rfl t9) (.slice (some ⟨W.heap.size, 0, none⟩) 1 1) (by simp [go_sem, Act.eval, -Array.getD_eq_getD_getElem?, t9]) ((Below.refl _ _).alloc (Nat.le_refl _) _) ⟨_, _, _, rfl, rd_new W [2] 3 (by decide)⟩
    | 8 =>
      have ho1 := ho
      cases ho
      obtain ⟨A11, n11, c11, B11, m11, d11, t11, r11, s11⟩ : (SpK.ro [0, 1, 2] []).holds (a.tmps.getD 11 undef) W := hG.dep 6 (by decide) 11 rfl
      obtain ⟨A12, n12, c12, t12, r12⟩ : (SpK.sl [2]).holds (a.tmps.getD 12 undef) W := hG.dep 7 (by decide) 12 rfl
      have t9 : a.tmps.getD 9 undef = .bool true := hG.dep 4 (by decide) 9 rfl
      refine op_call_g ho1 (wanted_yes rfl rfl t9) 16 #[.agg #[.slice A11 n11 c11, .slice B11 m11 d11], .slice A12 n12 c12] (by simp [go_sem, Act.eval, -Array.getD_eq_getD_getElem?, t11, t12, t9]) ?_
      refine (majority_any _ _ _ _ _ _ _ _ _ [0, 1, 2] [2] W r11 r12).mono ?_
      rintro e W' ⟨rfl, hb'⟩
      exact ⟨_, rfl, hb', by show Value.bool _ = _; rw [show major [0, 1, 2] [2] = false by decide]⟩
    | 9 =>
      have ho1 := ho
      cases ho
      have t13 : a.tmps.getD 13 undef = .bool false := hG.dep 8 (by decide) 13 rfl
      have t9 : a.tmps.getD 9 undef = .bool true := hG.dep 4 (by decide) 9 rfl
      exact op_value_g (w1 := W) ho1 (wanted_yes rfl rfl t9) (.bool true) (by simp [go_sem, Act.eval, -Array.getD_eq_getD_getElem?, t13, t9]) (Gr.refl _) rfl
    | 10 =>
      have ho1 := ho
      cases ho
      have t9 : a.tmps.getD 9 undef = .bool true := hG.dep 4 (by decide) 9 rfl
      have t14 : a.tmps.getD 14 undef = .bool true := hG.dep 9 (by decide) 14 rfl
      exact op_value_g (w1 := W) ho1 (wanted_none rfl) (.bool true) (by simp [go_sem, Act.eval, -Array.getD_eq_getD_getElem?, t9, t14]) (Gr.refl _) rfl
    | 11 =>
      have ho1 := ho
      cases ho
      have t15 : a.tmps.getD 15 undef = .bool true := hG.dep 10 (by decide) 15 rfl
      exact op_value_g (w1 := W) ho1 (wanted_none rfl) (.bool true) (by simp [go_sem, Act.eval, -Array.getD_eq_getD_getElem?, t15]) (Gr.refl _) rfl
    | 12 =>
      have ho1 := ho
      cases ho
      have t16 : a.tmps.getD 16 undef = .bool true := hG.dep 11 (by decide) 16 rfl
      exact op_value_g ho1 (wanted_yes rfl rfl t16) (.slice (some ⟨W.heap.size, 0, none⟩) 2 2) (by simp [go_sem, Act.eval, -Array.getD_eq_getD_getElem?, t16]) ((Below.refl _ _).alloc (Nat.le_refl _) _) ⟨_, _, _, rfl, rd_new W [0, 1] 3 (by decide)⟩
    | 13 =>
      have ho1 := ho
      cases ho
      obtain ⟨A17, n17, c17, t17, r17⟩ : (SpK.sl [0, 1]).holds (a.tmps.getD 17 undef) W := hG.dep 12 (by decide) 17 rfl
      have t16 : a.tmps.getD 16 undef = .bool true := hG.dep 11 (by decide) 16 rfl
      refine op_call_g ho1 (wanted_yes rfl rfl t16) 40 #[.slice A17 n17 c17] (by simp [go_sem, Act.eval, -Array.getD_eq_getD_getElem?, t17, t16]) ?_
      refine (of_any _ _ _ _).mono ?_
      rintro e W' ⟨rfl, hb'⟩
      exact ⟨_, rfl, hb', ⟨_, _, _, _, _, _, rfl, r17.below hb', rd_nil _⟩⟩
    | 14 =>
      have ho1 := ho
      cases ho
      have t1 : a.tmps.getD 1 undef = .pointer (some ⟨w.heap.size + 1 + 1, 0, none⟩) := hG.old 1 (by decide)
      have t16 : a.tmps.getD 16 undef = .bool true := hG.dep 11 (by decide) 16 rfl
      have z0 := (hbW.cell (p := ⟨w.heap.size + 1 + 1, 0, none⟩) (by rw [hsz0]; simp)).trans hc0
      have z1 := (hbW.cell (p := ⟨w.heap.size + 1 + 1, 1, none⟩) (by rw [hsz0]; simp)).trans hc1
      exact op_value_g (w1 := W) ho1 (wanted_yes rfl rfl t16) (.agg #[.slice (some ⟨w.heap.size, 0, none⟩) 2 2, .slice (some ⟨w.heap.size + 1, 0, none⟩) 1 1]) (by simp [go_sem, Act.eval, -Array.getD_eq_getD_getElem?, t1, t16, z0, z1]) (Gr.refl _) ⟨_, _, _, _, _, _, rfl, hr0.below hbW, hr1.below hbW⟩
    | 15 =>
      have ho1 := ho
      cases ho
      obtain ⟨A18, n18, c18, B18, m18, d18, t18, r18, s18⟩ : (SpK.ro [0, 1] []).holds (a.tmps.getD 18 undef) W := hG.dep 13 (by decide) 18 rfl
      obtain ⟨A19, n19, c19, B19, m19, d19, t19, r19, s19⟩ : (SpK.ro [0, 1] [2]).holds (a.tmps.getD 19 undef) W := hG.dep 14 (by decide) 19 rfl
      have t16 : a.tmps.getD 16 undef = .bool true := hG.dep 11 (by decide) 16 rfl
      refine op_call_g ho1 (wanted_yes rfl rfl t16) 19 #[.agg #[.slice A18 n18 c18, .slice B18 m18 d18], .agg #[.slice A19 n19 c19, .slice B19 m19 d19]] (by simp [go_sem, Act.eval, -Array.getD_eq_getD_getElem?, t18, t19, t16]) ?_
      refine (may_any _ _ _ _ _ _ [0, 1] [] _ _ _ _ _ _ [0, 1] [2] W r18 s18 r19 s19).mono ?_
      rintro e W' ⟨rfl, hb'⟩
      exact ⟨_, rfl, hb', by show Value.int _ _ = _; rw [show errM [0, 1] [] [0, 1] [2] = 0 by decide]⟩
    | 16 =>
      have ho1 := ho
      cases ho
      have t20 : a.tmps.getD 20 undef = .int .i64 0 := hG.dep 15 (by decide) 20 rfl
      have t16 : a.tmps.getD 16 undef = .bool true := hG.dep 11 (by decide) 16 rfl
      exact op_value_g (w1 := W) ho1 (wanted_yes rfl rfl t16) (.bool true) (by simp [go_sem, Act.eval, -Array.getD_eq_getD_getElem?, t20, t16]) (Gr.refl _) rfl
    | 17 =>
      have ho1 := ho
      cases ho
      have t16 : a.tmps.getD 16 undef = .bool true := hG.dep 11 (by decide) 16 rfl
      have t21 : a.tmps.getD 21 undef = .bool true := hG.dep 16 (by decide) 21 rfl
      exact op_value_g (w1 := W) ho1 (wanted_none rfl) (.bool true) (by simp [go_sem, Act.eval, -Array.getD_eq_getD_getElem?, t16, t21]) (Gr.refl _) rfl
    | 18 =>
      have ho1 := ho
      cases ho
      have t22 : a.tmps.getD 22 undef = .bool true := hG.dep 17 (by decide) 22 rfl
      exact op_value_g (w1 := W) ho1 (wanted_none rfl) (.bool true) (by simp [go_sem, Act.eval, -Array.getD_eq_getD_getElem?, t22]) (Gr.refl _) rfl
    | 19 =>
      have ho1 := ho
      cases ho
      have t1 : a.tmps.getD 1 undef = .pointer (some ⟨w.heap.size + 1 + 1, 0, none⟩) := hG.old 1 (by decide)
      have t23 : a.tmps.getD 23 undef = .bool true := hG.dep 18 (by decide) 23 rfl
      have z0 := (hbW.cell (p := ⟨w.heap.size + 1 + 1, 0, none⟩) (by rw [hsz0]; simp)).trans hc0
      have z1 := (hbW.cell (p := ⟨w.heap.size + 1 + 1, 1, none⟩) (by rw [hsz0]; simp)).trans hc1
      exact op_value_g (w1 := W) ho1 (wanted_yes rfl rfl t23) (.agg #[.slice (some ⟨w.heap.size, 0, none⟩) 2 2, .slice (some ⟨w.heap.size + 1, 0, none⟩) 1 1]) (by simp [go_sem, Act.eval, -Array.getD_eq_getD_getElem?, t1, t23, z0, z1]) (Gr.refl _) ⟨_, _, _, _, _, _, rfl, hr0.below hbW, hr1.below hbW⟩
    | 20 =>
      have ho1 := ho
      cases ho
      have t23 : a.tmps.getD 23 undef = .bool true := hG.dep 18 (by decide) 23 rfl
      exact op_value_g ho1 (wanted_yes rfl rfl t23) (.slice (some ⟨W.heap.size, 0, none⟩) 3 3) (by simp [go_sem, Act.eval, -Array.getD_eq_getD_getElem?, t23]) ((Below.refl _ _).alloc (Nat.le_refl _) _) ⟨_, _, _, rfl, rd_new W [0, 1, 2] 3 (by decide)⟩
    | 21 =>
      have ho1 := ho
      cases ho
      obtain ⟨A25, n25, c25, t25, r25⟩ : (SpK.sl [0, 1, 2]).holds (a.tmps.getD 25 undef) W := hG.dep 20 (by decide) 25 rfl
      have t23 : a.tmps.getD 23 undef = .bool true := hG.dep 18 (by decide) 23 rfl
      refine op_call_g ho1 (wanted_yes rfl rfl t23) 40 #[.slice A25 n25 c25] (by simp [go_sem, Act.eval, -Array.getD_eq_getD_getElem?, t25, t23]) ?_
      refine (of_any _ _ _ _).mono ?_
      rintro e W' ⟨rfl, hb'⟩
      exact ⟨_, rfl, hb', ⟨_, _, _, _, _, _, rfl, r25.below hb', rd_nil _⟩⟩
    | 22 =>
      have ho1 := ho
      cases ho
      obtain ⟨A24, n24, c24, B24, m24, d24, t24, r24, s24⟩ : (SpK.ro [0, 1] [2]).holds (a.tmps.getD 24 undef) W := hG.dep 19 (by decide) 24 rfl
      obtain ⟨A26, n26, c26, B26, m26, d26, t26, r26, s26⟩ : (SpK.ro [0, 1, 2] []).holds (a.tmps.getD 26 undef) W := hG.dep 21 (by decide) 26 rfl
      have t23 : a.tmps.getD 23 undef = .bool true := hG.dep 18 (by decide) 23 rfl
      refine op_call_g ho1 (wanted_yes rfl rfl t23) 19 #[.agg #[.slice A24 n24 c24, .slice B24 m24 d24], .agg #[.slice A26 n26 c26, .slice B26 m26 d26]] (by simp [go_sem, Act.eval, -Array.getD_eq_getD_getElem?, t24, t26, t23]) ?_
      refine (may_any _ _ _ _ _ _ [0, 1] [2] _ _ _ _ _ _ [0, 1, 2] [] W r24 s24 r26 s26).mono ?_
      rintro e W' ⟨rfl, hb'⟩
      exact ⟨_, rfl, hb', by show Value.int _ _ = _; rw [show errM [0, 1] [2] [0, 1, 2] [] = 0 by decide]⟩
    | 23 =>
      have ho1 := ho
      cases ho
      have t27 : a.tmps.getD 27 undef = .int .i64 0 := hG.dep 22 (by decide) 27 rfl
      have t23 : a.tmps.getD 23 undef = .bool true := hG.dep 18 (by decide) 23 rfl
      exact op_value_g (w1 := W) ho1 (wanted_yes rfl rfl t23) (.bool true) (by simp [go_sem, Act.eval, -Array.getD_eq_getD_getElem?, t27, t23]) (Gr.refl _) rfl
    | 24 =>
      have ho1 := ho
      cases ho
      have t23 : a.tmps.getD 23 undef = .bool true := hG.dep 18 (by decide) 23 rfl
      have t28 : a.tmps.getD 28 undef = .bool true := hG.dep 23 (by decide) 28 rfl
      exact op_value_g (w1 := W) ho1 (wanted_none rfl) (.bool true) (by simp [go_sem, Act.eval, -Array.getD_eq_getD_getElem?, t23, t28]) (Gr.refl _) rfl
    | 25 =>
      have ho1 := ho
      cases ho
      have t29 : a.tmps.getD 29 undef = .bool true := hG.dep 24 (by decide) 29 rfl
      exact op_value_g (w1 := W) ho1 (wanted_none rfl) (.bool true) (by simp [go_sem, Act.eval, -Array.getD_eq_getD_getElem?, t29]) (Gr.refl _) rfl
    | 26 =>
      have ho1 := ho
      cases ho
      have t30 : a.tmps.getD 30 undef = .bool true := hG.dep 25 (by decide) 30 rfl
      exact op_value_g ho1 (wanted_yes rfl rfl t30) (.slice (some ⟨W.heap.size, 0, none⟩) 2 2) (by simp [go_sem, Act.eval, -Array.getD_eq_getD_getElem?, t30]) ((Below.refl _ _).alloc (Nat.le_refl _) _) ⟨_, _, _, rfl, rd_new W [0, 1] 3 (by decide)⟩
    | 27 =>
      have ho1 := ho
      cases ho
      obtain ⟨A31, n31, c31, t31, r31⟩ : (SpK.sl [0, 1]).holds (a.tmps.getD 31 undef) W := hG.dep 26 (by decide) 31 rfl
      have t30 : a.tmps.getD 30 undef = .bool true := hG.dep 25 (by decide) 30 rfl
      refine op_call_g ho1 (wanted_yes rfl rfl t30) 40 #[.slice A31 n31 c31] (by simp [go_sem, Act.eval, -Array.getD_eq_getD_getElem?, t31, t30]) ?_
      refine (of_any _ _ _ _).mono ?_
      rintro e W' ⟨rfl, hb'⟩
      exact ⟨_, rfl, hb', ⟨_, _, _, _, _, _, rfl, r31.below hb', rd_nil _⟩⟩
    | 28 =>
      have ho1 := ho
      cases ho
      have t30 : a.tmps.getD 30 undef = .bool true := hG.dep 25 (by decide) 30 rfl
      exact op_value_g ho1 (wanted_yes rfl rfl t30) (.slice (some ⟨W.heap.size, 0, none⟩) 3 3) (by simp [go_sem, Act.eval, -Array.getD_eq_getD_getElem?, t30]) ((Below.refl _ _).alloc (Nat.le_refl _) _) ⟨_, _, _, rfl, rd_new W [0, 1, 2] 3 (by decide)⟩
    | 29 =>
      have ho1 := ho
      cases ho
      obtain ⟨A33, n33, c33, t33, r33⟩ : (SpK.sl [0, 1, 2]).holds (a.tmps.getD 33 undef) W := hG.dep 28 (by decide) 33 rfl
      have t30 : a.tmps.getD 30 undef = .bool true := hG.dep 25 (by decide) 30 rfl
      refine op_call_g ho1 (wanted_yes rfl rfl t30) 40 #[.slice A33 n33 c33] (by simp [go_sem, Act.eval, -Array.getD_eq_getD_getElem?, t33, t30]) ?_
      refine (of_any _ _ _ _).mono ?_
      rintro e W' ⟨rfl, hb'⟩
      exact ⟨_, rfl, hb', ⟨_, _, _, _, _, _, rfl, r33.below hb', rd_nil _⟩⟩
    | 30 =>
      have ho1 := ho
      cases ho
      obtain ⟨A32, n32, c32, B32, m32, d32, t32, r32, s32⟩ : (SpK.ro [0, 1] []).holds (a.tmps.getD 32 undef) W := hG.dep 27 (by decide) 32 rfl
      obtain ⟨A34, n34, c34, B34, m34, d34, t34, r34, s34⟩ : (SpK.ro [0, 1, 2] []).holds (a.tmps.getD 34 undef) W := hG.dep 29 (by decide) 34 rfl
      have t30 : a.tmps.getD 30 undef = .bool true := hG.dep 25 (by decide) 30 rfl
      refine op_call_g ho1 (wanted_yes rfl rfl t30) 19 #[.agg #[.slice A32 n32 c32, .slice B32 m32 d32], .agg #[.slice A34 n34 c34, .slice B34 m34 d34]] (by simp [go_sem, Act.eval, -Array.getD_eq_getD_getElem?, t32, t34, t30]) ?_
      refine (may_any _ _ _ _ _ _ [0, 1] [] _ _ _ _ _ _ [0, 1, 2] [] W r32 s32 r34 s34).mono ?_
      rintro e W' ⟨rfl, hb'⟩
      exact ⟨_, rfl, hb', by show Value.int _ _ = _; rw [show errM [0, 1] [] [0, 1, 2] [] = 111 by decide]⟩
    | 31 =>
      have ho1 := ho
      cases ho
      have t35 : a.tmps.getD 35 undef = .int .i64 111 := hG.dep 30 (by decide) 35 rfl
      have t30 : a.tmps.getD 30 undef = .bool true := hG.dep 25 (by decide) 30 rfl
      exact op_value_g (w1 := W) ho1 (wanted_yes rfl rfl t30) (.bool true) (by simp [go_sem, Act.eval, -Array.getD_eq_getD_getElem?, t35, t30]) (Gr.refl _) rfl
    | 32 =>
      have ho1 := ho
      cases ho
      have t30 : a.tmps.getD 30 undef = .bool true := hG.dep 25 (by decide) 30 rfl
      have t36 : a.tmps.getD 36 undef = .bool true := hG.dep 31 (by decide) 36 rfl
      exact op_value_g (w1 := W) ho1 (wanted_none rfl) (.bool true) (by simp [go_sem, Act.eval, -Array.getD_eq_getD_getElem?, t30, t36]) (Gr.refl _) rfl
    | 33 =>
      have ho1 := ho
      cases ho
      have t37 : a.tmps.getD 37 undef = .bool true := hG.dep 32 (by decide) 37 rfl
      exact op_value_g (w1 := W) ho1 (wanted_none rfl) (.bool true) (by simp [go_sem, Act.eval, -Array.getD_eq_getD_getElem?, t37]) (Gr.refl _) rfl
    | 34 =>
      have ho1 := ho
      cases ho
      have t38 : a.tmps.getD 38 undef = .bool true := hG.dep 33 (by decide) 38 rfl
      exact op_value_g ho1 (wanted_yes rfl rfl t38) (.slice (some ⟨W.heap.size, 0, none⟩) 3 3) (by simp [go_sem, Act.eval, -Array.getD_eq_getD_getElem?, t38]) ((Below.refl _ _).alloc (Nat.le_refl _) _) ⟨_, _, _, rfl, rd_new W [0, 1, 2] 3 (by decide)⟩
    | 35 =>
      have ho1 := ho
      cases ho
      obtain ⟨A39, n39, c39, t39, r39⟩ : (SpK.sl [0, 1, 2]).holds (a.tmps.getD 39 undef) W := hG.dep 34 (by decide) 39 rfl
      have t38 : a.tmps.getD 38 undef = .bool true := hG.dep 33 (by decide) 38 rfl
      refine op_call_g ho1 (wanted_yes rfl rfl t38) 40 #[.slice A39 n39 c39] (by simp [go_sem, Act.eval, -Array.getD_eq_getD_getElem?, t39, t38]) ?_
      refine (of_any _ _ _ _).mono ?_
      rintro e W' ⟨rfl, hb'⟩
      exact ⟨_, rfl, hb', ⟨_, _, _, _, _, _, rfl, r39.below hb', rd_nil _⟩⟩
    | 36 =>
      have ho1 := ho
      cases ho
      have t38 : a.tmps.getD 38 undef = .bool true := hG.dep 33 (by decide) 38 rfl
      exact op_value_g (w1 := W) ho1 (wanted_yes rfl rfl t38) (.agg #[.int .i64 5, .int .i64 9, .int .i64 7, .int .i64 0, .int .i64 0]) (by simp [go_sem, Act.eval, -Array.getD_eq_getD_getElem?, t38]) (Gr.refl _) rfl
    | 37 =>
      have ho1 := ho
      cases ho
      obtain ⟨A40, n40, c40, B40, m40, d40, t40, r40, s40⟩ : (SpK.ro [0, 1, 2] []).holds (a.tmps.getD 40 undef) W := hG.dep 35 (by decide) 40 rfl
      have t41 : a.tmps.getD 41 undef = .agg #[.int .i64 5, .int .i64 9, .int .i64 7, .int .i64 0, .int .i64 0] := hG.dep 36 (by decide) 41 rfl
      have t38 : a.tmps.getD 38 undef = .bool true := hG.dep 33 (by decide) 38 rfl
      refine op_call_g ho1 (wanted_yes rfl rfl t38) 15 #[.agg #[.slice A40 n40 c40, .slice B40 m40 d40], .agg #[.int .i64 5, .int .i64 9, .int .i64 7, .int .i64 0, .int .i64 0]] (by simp [go_sem, Act.eval, -Array.getD_eq_getD_getElem?, t40, t41, t38]) ?_
      refine (agreed_any _ _ _ _ _ _ [0, 1, 2] r597 W r40).mono ?_
      rintro e W' ⟨rfl, hb'⟩
      exact ⟨_, rfl, hb', by show Value.int _ _ = _; rw [agr_597]⟩
    | 38 =>
      have ho1 := ho
      cases ho
      have t42 : a.tmps.getD 42 undef = .int .i64 7 := hG.dep 37 (by decide) 42 rfl
      have t38 : a.tmps.getD 38 undef = .bool true := hG.dep 33 (by decide) 38 rfl
      exact op_value_g (w1 := W) ho1 (wanted_yes rfl rfl t38) (.bool true) (by simp [go_sem, Act.eval, -Array.getD_eq_getD_getElem?, t42, t38]) (Gr.refl _) rfl
    | 39 =>
      have ho1 := ho
      cases ho
      have t38 : a.tmps.getD 38 undef = .bool true := hG.dep 33 (by decide) 38 rfl
      have t43 : a.tmps.getD 43 undef = .bool true := hG.dep 38 (by decide) 43 rfl
      exact op_value_g (w1 := W) ho1 (wanted_none rfl) (.bool true) (by simp [go_sem, Act.eval, -Array.getD_eq_getD_getElem?, t38, t43]) (Gr.refl _) rfl
    | 40 =>
      have ho1 := ho
      cases ho
      have t44 : a.tmps.getD 44 undef = .bool true := hG.dep 39 (by decide) 44 rfl
      exact op_value_g (w1 := W) ho1 (wanted_none rfl) (.bool true) (by simp [go_sem, Act.eval, -Array.getD_eq_getD_getElem?, t44]) (Gr.refl _) rfl
    | 41 =>
      have ho1 := ho
      cases ho
      have t45 : a.tmps.getD 45 undef = .bool true := hG.dep 40 (by decide) 45 rfl
      refine op_call_g ho1 (wanted_yes rfl rfl t45) 40 #[.slice none 0 0] (by simp [go_sem, Act.eval, -Array.getD_eq_getD_getElem?, t45]) ?_
      refine (of_any _ _ _ _).mono ?_
      rintro e W' ⟨rfl, hb'⟩
      exact ⟨_, rfl, hb', ⟨_, _, _, _, _, _, rfl, rd_nil _, rd_nil _⟩⟩
    | 42 =>
      have ho1 := ho
      cases ho
      obtain ⟨A46, n46, c46, B46, m46, d46, t46, r46, s46⟩ : (SpK.ro [] []).holds (a.tmps.getD 46 undef) W := hG.dep 41 (by decide) 46 rfl
      have t45 : a.tmps.getD 45 undef = .bool true := hG.dep 40 (by decide) 45 rfl
      refine op_call_g ho1 (wanted_yes rfl rfl t45) 13 #[.agg #[.slice A46 n46 c46, .slice B46 m46 d46]] (by simp [go_sem, Act.eval, -Array.getD_eq_getD_getElem?, t46, t45]) ?_
      refine (check_any _ _ _ _ _ _ [] [] W r46 s46).mono ?_
      rintro e W' ⟨rfl, hb'⟩
      exact ⟨_, rfl, hb', by show Value.int _ _ = _; rw [show errC [] [] = 110 by decide]⟩
    | 43 =>
      have ho1 := ho
      cases ho
      have t47 : a.tmps.getD 47 undef = .int .i64 110 := hG.dep 42 (by decide) 47 rfl
      have t45 : a.tmps.getD 45 undef = .bool true := hG.dep 40 (by decide) 45 rfl
      exact op_value_g (w1 := W) ho1 (wanted_yes rfl rfl t45) (.bool true) (by simp [go_sem, Act.eval, -Array.getD_eq_getD_getElem?, t47, t45]) (Gr.refl _) rfl
    | 44 =>
      have ho1 := ho
      cases ho
      have t45 : a.tmps.getD 45 undef = .bool true := hG.dep 40 (by decide) 45 rfl
      have t48 : a.tmps.getD 48 undef = .bool true := hG.dep 43 (by decide) 48 rfl
      exact op_value_g (w1 := W) ho1 (wanted_none rfl) (.bool true) (by simp [go_sem, Act.eval, -Array.getD_eq_getD_getElem?, t45, t48]) (Gr.refl _) rfl
    | 45 =>
      have ho1 := ho
      cases ho
      have t49 : a.tmps.getD 49 undef = .bool true := hG.dep 44 (by decide) 49 rfl
      exact op_value_g (w1 := W) ho1 (wanted_none rfl) (.bool true) (by simp [go_sem, Act.eval, -Array.getD_eq_getD_getElem?, t49]) (Gr.refl _) rfl
    | q + 46 => cases ho
  · intro a W hbW hD
    have hfr := hD.frame [5, 6, 7, 8, 9, 10, 11, 12, 13, 14, 15, 16, 17, 18, 19, 20, 21, 22, 23, 24, 25, 26, 27, 28, 29, 30, 31, 32, 33, 34, 35, 36, 37, 38, 39, 40, 41, 42, 43, 44, 45, 46, 47, 48, 49, 0] (by kernel_rfl)
    have t8 : a.tmps.getD 8 undef = .bool true := hD.sp 3 (by decide) 8 rfl
    have t9 : a.tmps.getD 9 undef = .bool true := hD.sp 4 (by decide) 9 rfl
    have t13 : a.tmps.getD 13 undef = .bool false := hD.sp 8 (by decide) 13 rfl
    have t14 : a.tmps.getD 14 undef = .bool true := hD.sp 9 (by decide) 14 rfl
    have t15 : a.tmps.getD 15 undef = .bool true := hD.sp 10 (by decide) 15 rfl
    have t16 : a.tmps.getD 16 undef = .bool true := hD.sp 11 (by decide) 16 rfl
    have t20 : a.tmps.getD 20 undef = .int .i64 0 := hD.sp 15 (by decide) 20 rfl
    have t21 : a.tmps.getD 21 undef = .bool true := hD.sp 16 (by decide) 21 rfl
    have t22 : a.tmps.getD 22 undef = .bool true := hD.sp 17 (by decide) 22 rfl
    have t23 : a.tmps.getD 23 undef = .bool true := hD.sp 18 (by decide) 23 rfl
    have t27 : a.tmps.getD 27 undef = .int .i64 0 := hD.sp 22 (by decide) 27 rfl
    have t28 : a.tmps.getD 28 undef = .bool true := hD.sp 23 (by decide) 28 rfl
    have t29 : a.tmps.getD 29 undef = .bool true := hD.sp 24 (by decide) 29 rfl
    have t30 : a.tmps.getD 30 undef = .bool true := hD.sp 25 (by decide) 30 rfl
    have t35 : a.tmps.getD 35 undef = .int .i64 111 := hD.sp 30 (by decide) 35 rfl
    have t36 : a.tmps.getD 36 undef = .bool true := hD.sp 31 (by decide) 36 rfl
    have t37 : a.tmps.getD 37 undef = .bool true := hD.sp 32 (by decide) 37 rfl
    have t38 : a.tmps.getD 38 undef = .bool true := hD.sp 33 (by decide) 38 rfl
    have t41 : a.tmps.getD 41 undef = .agg #[.int .i64 5, .int .i64 9, .int .i64 7, .int .i64 0, .int .i64 0] := hD.sp 36 (by decide) 41 rfl
    have t42 : a.tmps.getD 42 undef = .int .i64 7 := hD.sp 37 (by decide) 42 rfl
    have t43 : a.tmps.getD 43 undef = .bool true := hD.sp 38 (by decide) 43 rfl
    have t44 : a.tmps.getD 44 undef = .bool true := hD.sp 39 (by decide) 44 rfl
    have t45 : a.tmps.getD 45 undef = .bool true := hD.sp 40 (by decide) 45 rfl
    have t47 : a.tmps.getD 47 undef = .int .i64 110 := hD.sp 42 (by decide) 47 rfl
    have t48 : a.tmps.getD 48 undef = .bool true := hD.sp 43 (by decide) 48 rfl
    have t49 : a.tmps.getD 49 undef = .bool true := hD.sp 44 (by decide) 49 rfl
    have t0 : a.tmps.getD 0 undef = .bool true := hD.sp 45 (by decide) 0 rfl
    simp only [List.foldl_cons, List.foldl_nil] at hfr
    rw [t8, t9, t13, t14, t15, t16, t20, t21, t22, t23, t27, t28, t29, t30, t35, t36, t37, t38, t41, t42, t43, t44, t45, t47, t48, t49, t0] at hfr
    generalize a.tmps.getD 5 undef = u5 at hfr
    generalize a.tmps.getD 6 undef = u6 at hfr
    generalize a.tmps.getD 7 undef = u7 at hfr
    generalize a.tmps.getD 10 undef = u10 at hfr
    generalize a.tmps.getD 11 undef = u11 at hfr
    generalize a.tmps.getD 12 undef = u12 at hfr
    generalize a.tmps.getD 17 undef = u17 at hfr
    generalize a.tmps.getD 18 undef = u18 at hfr
    generalize a.tmps.getD 19 undef = u19 at hfr
    generalize a.tmps.getD 24 undef = u24 at hfr
    generalize a.tmps.getD 25 undef = u25 at hfr
    generalize a.tmps.getD 26 undef = u26 at hfr
    generalize a.tmps.getD 31 undef = u31 at hfr
    generalize a.tmps.getD 32 undef = u32 at hfr
    generalize a.tmps.getD 33 undef = u33 at hfr
    generalize a.tmps.getD 34 undef = u34 at hfr
    generalize a.tmps.getD 39 undef = u39 at hfr
    generalize a.tmps.getD 40 undef = u40 at hfr
    generalize a.tmps.getD 46 undef = u46 at hfr
    rw [hfr]
    clear hfr hD t8 t9 t13 t14 t15 t16 t20 t21 t22 t23 t27 t28 t29 t30 t35 t36 t37 t38 t41 t42 t43 t44 t45 t47 t48 t49 t0
    have HBW := Kp.mk hbW
    clear hbW
    simp only [Act.put, List.setIfInBounds_toArray, List.set_cons_succ, List.set_cons_zero]
    go_wp2
    go_ret
    exact ⟨rfl, hbw0.trans (gr_below HBW.it hbw0.size)⟩

end Go.Proofs.Ytbfpdahbmdaenaa
