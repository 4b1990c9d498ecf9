/-
  DigestSums: the digest of any bytes, by any seed; of keys, of pairs.
-/
import Derived.Test.YtcmkjoepndbicaaByq
import Derived.ChangeSame
namespace Go.Proofs.Ytcmkjoepndbicaa
open Go.ChangeShapes Go.WideShapes Go.ChangeAt Go.RowKit

set_option linter.unusedSimpArgs false in
set_option linter.unusedVariables false in
set_option maxRecDepth 100000 in
set_option maxHeartbeats 8000000 in
theorem sums_walk (ka kb : BitVec 64) (A : Option Addr) (n c : Nat) (bs : List UInt8) (p : Pr) (w : World) (h : Rb w A n bs) (hnil : A = none → c = 0) (hp1 : p.1.size ≤ 140737488351232) (hp2 : p.2.size ≤ 140737488351232) :
    Calls Try.prog 4 #[.agg #[.int .u64 (ka.toNat : Int), .int .u64 (kb.toNat : Int)], .slice A n c, .agg #[.string p.1, .string p.2]] w fun e w' => e = .returned (.bool true) ∧ Below w.heap.size w w' := by
  have hbd := h.bd
  have H := Kp.mk h
  have HNL := Kp.mk hnil
  have HP1 := Kp.mk hp1
  have HP2 := Kp.mk hp2
  clear h hnil hp1 hp2
  go_enter Try.func4, Try.ntmps4
  go_upto_region 1 with fail
  refine wp_on (fun wx => wx.heap[w.heap.size]? = some (.cells #[.int .u64 (ka.toNat : Int), .int .u64 (kb.toNat : Int)] 24 (0, 0)) ∧ wx.heap[w.heap.size + 1]? = some (.cells #[.string p.1, .string p.2] 43 (0, 0)) ∧ Below w.heap.size w wx) ⟨blk_old _ (blk_new _ _), blk_new1 _ _ _, ((Below.refl _ _).alloc (Nat.le_refl _) _).alloc (by simp) _⟩ (fun w1 hx => ?_)
  obtain ⟨e1, e2, hb1⟩ := hx
  obtain ⟨X, hX⟩ : ∃ X, X = w.heap.size := ⟨_, rfl⟩
  rw [← hX] at e1 e2
  have HX := Kp.mk hX
  rw [← hX]
  clear hX
  have E1 := Kp.mk e1
  have E2 := Kp.mk e2
  have B1 := Kp.mk hb1
  clear e1 e2 hb1
  by_cases hn : 8192 < n
  · have hd : decide ((8192 : Int) < (n : Int)) = true := by simp; omega
    go_wp2_with (go_at_call 12; refine (awake_any _).mono ?_; rintro e w' ⟨rfl, hb'⟩)
    go_ret
    exact ⟨rfl, B1.it.trans (hb'.mono B1.it.size)⟩
  · have hd : decide ((8192 : Int) < (n : Int)) = false := by rw [decide_eq_false_iff_not]; omega
    have s0 : w1.cell? ⟨X + 1, 0, none⟩ = some (.string p.1) := blk_cell E2.it rfl
    have s1 : w1.cell? ⟨X + 1, 1, none⟩ = some (.string p.2) := blk_cell E2.it rfl
    have hl2 := (Array.getElem?_eq_some_iff.1 E2.it).1
    go_wp2_with fail
    refine (short_one (w1.heap.size + 1) (some ⟨w1.heap.size, 0, none⟩) 1 1 [p] _ (fun _ => True) ⟨rfl, by decide, fun _ => ⟨w1.heap.size, 0, rfl, trivial, by rw [World.size_alloc, World.size_alloc]; omega, fun i k hk => ?_⟩⟩ (blk_new1 _ _ _)).mono ?_
    · match i with
      | 0 =>
        cases hk
        have hb0 := blk_old (.cells #[.slice (some ⟨w1.heap.size, 0, none⟩) 1 1] 25 (0, 0)) (blk_new w1 (.cells #[.string p.1, .string p.2] 43 (0, 0)))
        exact ⟨blk_cell hb0 rfl, blk_cell hb0 rfl⟩
      | i + 1 => simp at hk
    rintro e w2 ⟨r, rfl, hr, hb2⟩
    have hb : Below w1.heap.size w1 w2 := (((Below.refl w1.heap.size w1).alloc (Nat.le_refl _) _).alloc (by simp) _).trans (hb2.mono (by simp; omega))
    have B2 := Kp.mk hb
    clear hb hb2 s0 s1
    cases r with
    | false =>
      clear hr
      go_wp2_with (go_at_call 12; refine (awake_any _).mono ?_; rintro e w' ⟨rfl, hb'⟩)
      go_ret
      exact ⟨rfl, (B1.it.trans (B2.it.mono B1.it.size)).trans (hb'.mono (Nat.le_trans B1.it.size B2.it.size))⟩
    | true =>
      have HPS := Kp.mk ((hr rfl).sum (List.mem_cons_self ..) HP1.it HP2.it)
      clear hr
      go_wp2_with fail
      refine (cloneb_any A n c bs w2 ((H.it.below B1.it).below B2.it) HNL.it).mono ?_
      rintro e w3 ⟨v, rfl, hv, hb3⟩
      have hbl : bs.length = n := H.it.len
      obtain ⟨A7, c7, rfl, hA7, hc7, hR7⟩ := hv.form (by rw [hbl]; exact hbd)
      rw [hbl] at hc7 hR7
      simp only [hbl]
      clear hv hbl hA7
      have HG := Kp.mk hR7
      have HGC := Kp.mk hc7
      have hb13 : Below w1.heap.size w1 w3 := B2.it.trans (hb3.mono B2.it.size)
      have HI := Kp.mk ((H.it.below B1.it).below hb13)
      have lx0 := (Array.getElem?_eq_some_iff.1 E1.it).1
      have lx1 := (Array.getElem?_eq_some_iff.1 E2.it).1
      have z0 : w3.cell? ⟨X, 0, none⟩ = some (.int .u64 (ka.toNat : Int)) := (hb13.cell (p := ⟨X, 0, none⟩) lx0).trans (blk_cell E1.it rfl)
      have z1 : w3.cell? ⟨X, 1, none⟩ = some (.int .u64 (kb.toNat : Int)) := (hb13.cell (p := ⟨X, 1, none⟩) lx0).trans (blk_cell E1.it rfl)
      have z2 : w3.cell? ⟨X + 1, 0, none⟩ = some (.string p.1) := (hb13.cell (p := ⟨X + 1, 0, none⟩) lx1).trans (blk_cell E2.it rfl)
      have z3 : w3.cell? ⟨X + 1, 1, none⟩ = some (.string p.2) := (hb13.cell (p := ⟨X + 1, 1, none⟩) lx1).trans (blk_cell E2.it rfl)
      have hx0 : X < w3.heap.size := Nat.lt_of_lt_of_le lx0 hb13.size
      have hx1 : X + 1 < w3.heap.size := Nat.lt_of_lt_of_le lx1 hb13.size
      have B3 := Kp.mk hb13
      clear hR7 hc7 hb3 hb13 lx0 lx1 hl2
      go_wp2_with fail
      refine wp_region_sp [SpK.ex (.agg #[.int .u64 (ka.toNat : Int), .int .u64 (kb.toNat : Int)]), SpK.ex (.slice A7 n c7), SpK.ex (.int .u64 ((sumU ka kb bs).toNat : Int)), SpK.ex (.agg #[.int .u64 (ka.toNat : Int), .int .u64 (kb.toNat : Int)]), SpK.ex (.slice A n c), SpK.ex (.int .u64 ((sumU ka kb bs).toNat : Int)), SpK.ex (.bool true), SpK.ex (.bool true), SpK.ex (.agg #[.int .u64 (ka.toNat : Int), .int .u64 (kb.toNat : Int)]), SpK.ex (.pointer (some ⟨X + 1, 0, none⟩)), SpK.ex (.string p.1), SpK.ex (.int .u64 ((sumU ka kb p.1.data.toList).toNat : Int)), SpK.ex (.agg #[.int .u64 (ka.toNat : Int), .int .u64 (kb.toNat : Int)]), SpK.ex (.pointer (some ⟨X + 1, 0, none⟩)), SpK.ex (.string p.1), SpK.ex (.int .u64 ((sumU ka kb p.1.data.toList).toNat : Int)), SpK.ex (.bool true), SpK.ex (.bool true), SpK.ex (.bool true), SpK.ex (.agg #[.int .u64 (ka.toNat : Int), .int .u64 (kb.toNat : Int)]), SpK.ex (.agg #[.string p.1, .string p.2]), SpK.ex (.int .u64 ((pairU ka kb p).toNat : Int)), SpK.ex (.agg #[.int .u64 (ka.toNat : Int), .int .u64 (kb.toNat : Int)]), SpK.ex (.agg #[.string p.1, .string p.2]), SpK.ex (.int .u64 ((pairU ka kb p).toNat : Int)), SpK.ex (.bool true), SpK.ex (.bool true), SpK.ex (.bool true), SpK.ex (.slice A7 n c7), SpK.ex (.slice A n c), SpK.ex (.bool true), SpK.ex (.bool true), SpK.ex (.bool true), SpK.ex (.bool true), SpK.ex (.bool true), SpK.ex (.bool true)] (by kernel_rfl) (by kernel_rfl) ?_ ?_
      · intro i o ho a W hbW hG
        match i with
        | 0 =>
          have ho1 := ho
          cases ho
          have t3 : a.tmps.getD 3 undef = .pointer (some ⟨X, 0, none⟩) := hG.old 3 (by decide)
          have q0 := (hbW.cell (p := ⟨X, 0, none⟩) hx0).trans z0
          have q1 := (hbW.cell (p := ⟨X, 1, none⟩) hx0).trans z1
          have q2 := (hbW.cell (p := ⟨X + 1, 0, none⟩) hx1).trans z2
          have q3 := (hbW.cell (p := ⟨X + 1, 1, none⟩) hx1).trans z3
          exact op_value_g (w1 := W) ho1 (wanted_none rfl) (.agg #[.int .u64 (ka.toNat : Int), .int .u64 (kb.toNat : Int)]) (by simp [go_sem, Act.eval, -Array.getD_eq_getD_getElem?, t3, q0, q1, q2, q3]) (Gr.refl _) rfl
        | 1 =>
          have ho1 := ho
          cases ho
          have t7 : a.tmps.getD 7 undef = .slice A7 n c7 := hG.old 7 (by decide)
          exact op_value_g (w1 := W) ho1 (wanted_none rfl) (.slice A7 n c7) (by simp [go_sem, Act.eval, -Array.getD_eq_getD_getElem?, t7]) (Gr.refl _) rfl
        | 2 =>
          have ho1 := ho
          cases ho
          have t21 : a.tmps.getD 21 undef = .agg #[.int .u64 (ka.toNat : Int), .int .u64 (kb.toNat : Int)] := hG.dep 0 (by decide) 21 rfl
          have t22 : a.tmps.getD 22 undef = .slice A7 n c7 := hG.dep 1 (by decide) 22 rfl
          refine op_call_g ho1 (wanted_none rfl) 19 #[.agg #[.int .u64 (ka.toNat : Int), .int .u64 (kb.toNat : Int)], .slice A7 n c7] (by simp [go_sem, Act.eval, -Array.getD_eq_getD_getElem?, t21, t22]) ?_
          refine (sum_any A7 n c7 bs ka kb W (HG.it.below hbW) HGC.it).mono ?_
          rintro e W' ⟨rfl, hb'⟩
          exact ⟨_, rfl, hb', rfl⟩
        | 3 =>
          have ho1 := ho
          cases ho
          have t3 : a.tmps.getD 3 undef = .pointer (some ⟨X, 0, none⟩) := hG.old 3 (by decide)
          have q0 := (hbW.cell (p := ⟨X, 0, none⟩) hx0).trans z0
          have q1 := (hbW.cell (p := ⟨X, 1, none⟩) hx0).trans z1
          have q2 := (hbW.cell (p := ⟨X + 1, 0, none⟩) hx1).trans z2
          have q3 := (hbW.cell (p := ⟨X + 1, 1, none⟩) hx1).trans z3
          exact op_value_g (w1 := W) ho1 (wanted_none rfl) (.agg #[.int .u64 (ka.toNat : Int), .int .u64 (kb.toNat : Int)]) (by simp [go_sem, Act.eval, -Array.getD_eq_getD_getElem?, t3, q0, q1, q2, q3]) (Gr.refl _) rfl
        | 4 =>
          have ho1 := ho
          cases ho
          have t1 : a.tmps.getD 1 undef = .slice A n c := hG.old 1 (by decide)
          exact op_value_g (w1 := W) ho1 (wanted_none rfl) (.slice A n c) (by simp [go_sem, Act.eval, -Array.getD_eq_getD_getElem?, t1]) (Gr.refl _) rfl
        | 5 =>
          have ho1 := ho
          cases ho
          have t24 : a.tmps.getD 24 undef = .agg #[.int .u64 (ka.toNat : Int), .int .u64 (kb.toNat : Int)] := hG.dep 3 (by decide) 24 rfl
          have t25 : a.tmps.getD 25 undef = .slice A n c := hG.dep 4 (by decide) 25 rfl
          refine op_call_g ho1 (wanted_none rfl) 20 #[.agg #[.int .u64 (ka.toNat : Int), .int .u64 (kb.toNat : Int)], .slice A n c] (by simp [go_sem, Act.eval, -Array.getD_eq_getD_getElem?, t24, t25]) ?_
          refine (rsum_any A n c bs ka kb W (HI.it.below hbW)).mono ?_
          rintro e W' ⟨rfl, hb'⟩
          exact ⟨_, rfl, hb', rfl⟩
        | 6 =>
          have ho1 := ho
          cases ho
          have t23 : a.tmps.getD 23 undef = .int .u64 ((sumU ka kb bs).toNat : Int) := hG.dep 2 (by decide) 23 rfl
          have t26 : a.tmps.getD 26 undef = .int .u64 ((sumU ka kb bs).toNat : Int) := hG.dep 5 (by decide) 26 rfl
          exact op_value_g (w1 := W) ho1 (wanted_none rfl) (.bool true) (by simp [go_sem, Act.eval, -Array.getD_eq_getD_getElem?, t23, t26]) (Gr.refl _) rfl
        | 7 =>
          have ho1 := ho
          cases ho
          have t27 : a.tmps.getD 27 undef = .bool true := hG.dep 6 (by decide) 27 rfl
          exact op_value_g (w1 := W) ho1 (wanted_none rfl) (.bool true) (by simp [go_sem, Act.eval, -Array.getD_eq_getD_getElem?, t27]) (Gr.refl _) rfl
        | 8 =>
          have ho1 := ho
          cases ho
          have t3 : a.tmps.getD 3 undef = .pointer (some ⟨X, 0, none⟩) := hG.old 3 (by decide)
          have t28 : a.tmps.getD 28 undef = .bool true := hG.dep 7 (by decide) 28 rfl
          have q0 := (hbW.cell (p := ⟨X, 0, none⟩) hx0).trans z0
          have q1 := (hbW.cell (p := ⟨X, 1, none⟩) hx0).trans z1
          have q2 := (hbW.cell (p := ⟨X + 1, 0, none⟩) hx1).trans z2
          have q3 := (hbW.cell (p := ⟨X + 1, 1, none⟩) hx1).trans z3
          exact op_value_g (w1 := W) ho1 (wanted_yes rfl rfl t28) (.agg #[.int .u64 (ka.toNat : Int), .int .u64 (kb.toNat : Int)]) (by simp [go_sem, Act.eval, -Array.getD_eq_getD_getElem?, t3, t28, q0, q1, q2, q3]) (Gr.refl _) rfl
        | 9 =>
          have ho1 := ho
          cases ho
          have t5 : a.tmps.getD 5 undef = .pointer (some ⟨X + 1, 0, none⟩) := hG.old 5 (by decide)
          have t28 : a.tmps.getD 28 undef = .bool true := hG.dep 7 (by decide) 28 rfl
          exact op_value_g (w1 := W) ho1 (wanted_yes rfl rfl t28) (.pointer (some ⟨X + 1, 0, none⟩)) (by simp [go_sem, Act.eval, -Array.getD_eq_getD_getElem?, t5, t28]) (Gr.refl _) rfl
        | 10 =>
          have ho1 := ho
          cases ho
          have t30 : a.tmps.getD 30 undef = .pointer (some ⟨X + 1, 0, none⟩) := hG.dep 9 (by decide) 30 rfl
          have t28 : a.tmps.getD 28 undef = .bool true := hG.dep 7 (by decide) 28 rfl
          have q0 := (hbW.cell (p := ⟨X, 0, none⟩) hx0).trans z0
          have q1 := (hbW.cell (p := ⟨X, 1, none⟩) hx0).trans z1
          have q2 := (hbW.cell (p := ⟨X + 1, 0, none⟩) hx1).trans z2
          have q3 := (hbW.cell (p := ⟨X + 1, 1, none⟩) hx1).trans z3
          exact op_value_g (w1 := W) ho1 (wanted_yes rfl rfl t28) (.string p.1) (by simp [go_sem, Act.eval, -Array.getD_eq_getD_getElem?, t30, t28, q0, q1, q2, q3]) (Gr.refl _) rfl
        | 11 =>
          have ho1 := ho
          cases ho
          have t29 : a.tmps.getD 29 undef = .agg #[.int .u64 (ka.toNat : Int), .int .u64 (kb.toNat : Int)] := hG.dep 8 (by decide) 29 rfl
          have t31 : a.tmps.getD 31 undef = .string p.1 := hG.dep 10 (by decide) 31 rfl
          have t28 : a.tmps.getD 28 undef = .bool true := hG.dep 7 (by decide) 28 rfl
          refine op_call_g ho1 (wanted_yes rfl rfl t28) 21 #[.agg #[.int .u64 (ka.toNat : Int), .int .u64 (kb.toNat : Int)], .string p.1] (by simp [go_sem, Act.eval, -Array.getD_eq_getD_getElem?, t29, t31, t28]) ?_
          refine (place_d ka kb p.1 W HP1.it).mono ?_
          rintro e W' ⟨rfl, hb'⟩
          exact ⟨_, rfl, hb', rfl⟩
        | 12 =>
          have ho1 := ho
          cases ho
          have t3 : a.tmps.getD 3 undef = .pointer (some ⟨X, 0, none⟩) := hG.old 3 (by decide)
          have t28 : a.tmps.getD 28 undef = .bool true := hG.dep 7 (by decide) 28 rfl
          have q0 := (hbW.cell (p := ⟨X, 0, none⟩) hx0).trans z0
          have q1 := (hbW.cell (p := ⟨X, 1, none⟩) hx0).trans z1
          have q2 := (hbW.cell (p := ⟨X + 1, 0, none⟩) hx1).trans z2
          have q3 := (hbW.cell (p := ⟨X + 1, 1, none⟩) hx1).trans z3
          exact op_value_g (w1 := W) ho1 (wanted_yes rfl rfl t28) (.agg #[.int .u64 (ka.toNat : Int), .int .u64 (kb.toNat : Int)]) (by simp [go_sem, Act.eval, -Array.getD_eq_getD_getElem?, t3, t28, q0, q1, q2, q3]) (Gr.refl _) rfl
        | 13 =>
          have ho1 := ho
          cases ho
          have t5 : a.tmps.getD 5 undef = .pointer (some ⟨X + 1, 0, none⟩) := hG.old 5 (by decide)
          have t28 : a.tmps.getD 28 undef = .bool true := hG.dep 7 (by decide) 28 rfl
          exact op_value_g (w1 := W) ho1 (wanted_yes rfl rfl t28) (.pointer (some ⟨X + 1, 0, none⟩)) (by simp [go_sem, Act.eval, -Array.getD_eq_getD_getElem?, t5, t28]) (Gr.refl _) rfl
        | 14 =>
          have ho1 := ho
          cases ho
          have t34 : a.tmps.getD 34 undef = .pointer (some ⟨X + 1, 0, none⟩) := hG.dep 13 (by decide) 34 rfl
          have t28 : a.tmps.getD 28 undef = .bool true := hG.dep 7 (by decide) 28 rfl
          have q0 := (hbW.cell (p := ⟨X, 0, none⟩) hx0).trans z0
          have q1 := (hbW.cell (p := ⟨X, 1, none⟩) hx0).trans z1
          have q2 := (hbW.cell (p := ⟨X + 1, 0, none⟩) hx1).trans z2
          have q3 := (hbW.cell (p := ⟨X + 1, 1, none⟩) hx1).trans z3
          exact op_value_g (w1 := W) ho1 (wanted_yes rfl rfl t28) (.string p.1) (by simp [go_sem, Act.eval, -Array.getD_eq_getD_getElem?, t34, t28, q0, q1, q2, q3]) (Gr.refl _) rfl
        | 15 =>
          have ho1 := ho
          cases ho
          have t33 : a.tmps.getD 33 undef = .agg #[.int .u64 (ka.toNat : Int), .int .u64 (kb.toNat : Int)] := hG.dep 12 (by decide) 33 rfl
          have t35 : a.tmps.getD 35 undef = .string p.1 := hG.dep 14 (by decide) 35 rfl
          have t28 : a.tmps.getD 28 undef = .bool true := hG.dep 7 (by decide) 28 rfl
          refine op_call_g ho1 (wanted_yes rfl rfl t28) 22 #[.agg #[.int .u64 (ka.toNat : Int), .int .u64 (kb.toNat : Int)], .string p.1] (by simp [go_sem, Act.eval, -Array.getD_eq_getD_getElem?, t33, t35, t28]) ?_
          refine (place_r ka kb p.1 W HP1.it).mono ?_
          rintro e W' ⟨rfl, hb'⟩
          exact ⟨_, rfl, hb', rfl⟩
        | 16 =>
          have ho1 := ho
          cases ho
          have t32 : a.tmps.getD 32 undef = .int .u64 ((sumU ka kb p.1.data.toList).toNat : Int) := hG.dep 11 (by decide) 32 rfl
          have t36 : a.tmps.getD 36 undef = .int .u64 ((sumU ka kb p.1.data.toList).toNat : Int) := hG.dep 15 (by decide) 36 rfl
          have t28 : a.tmps.getD 28 undef = .bool true := hG.dep 7 (by decide) 28 rfl
          exact op_value_g (w1 := W) ho1 (wanted_yes rfl rfl t28) (.bool true) (by simp [go_sem, Act.eval, -Array.getD_eq_getD_getElem?, t32, t36, t28]) (Gr.refl _) rfl
        | 17 =>
          have ho1 := ho
          cases ho
          have t28 : a.tmps.getD 28 undef = .bool true := hG.dep 7 (by decide) 28 rfl
          have t37 : a.tmps.getD 37 undef = .bool true := hG.dep 16 (by decide) 37 rfl
          exact op_value_g (w1 := W) ho1 (wanted_none rfl) (.bool true) (by simp [go_sem, Act.eval, -Array.getD_eq_getD_getElem?, t28, t37]) (Gr.refl _) rfl
        | 18 =>
          have ho1 := ho
          cases ho
          have t38 : a.tmps.getD 38 undef = .bool true := hG.dep 17 (by decide) 38 rfl
          exact op_value_g (w1 := W) ho1 (wanted_none rfl) (.bool true) (by simp [go_sem, Act.eval, -Array.getD_eq_getD_getElem?, t38]) (Gr.refl _) rfl
        | 19 =>
          have ho1 := ho
          cases ho
          have t3 : a.tmps.getD 3 undef = .pointer (some ⟨X, 0, none⟩) := hG.old 3 (by decide)
          have t39 : a.tmps.getD 39 undef = .bool true := hG.dep 18 (by decide) 39 rfl
          have q0 := (hbW.cell (p := ⟨X, 0, none⟩) hx0).trans z0
          have q1 := (hbW.cell (p := ⟨X, 1, none⟩) hx0).trans z1
          have q2 := (hbW.cell (p := ⟨X + 1, 0, none⟩) hx1).trans z2
          have q3 := (hbW.cell (p := ⟨X + 1, 1, none⟩) hx1).trans z3
          exact op_value_g (w1 := W) ho1 (wanted_yes rfl rfl t39) (.agg #[.int .u64 (ka.toNat : Int), .int .u64 (kb.toNat : Int)]) (by simp [go_sem, Act.eval, -Array.getD_eq_getD_getElem?, t3, t39, q0, q1, q2, q3]) (Gr.refl _) rfl
        | 20 =>
          have ho1 := ho
          cases ho
          have t5 : a.tmps.getD 5 undef = .pointer (some ⟨X + 1, 0, none⟩) := hG.old 5 (by decide)
          have t39 : a.tmps.getD 39 undef = .bool true := hG.dep 18 (by decide) 39 rfl
          have q0 := (hbW.cell (p := ⟨X, 0, none⟩) hx0).trans z0
          have q1 := (hbW.cell (p := ⟨X, 1, none⟩) hx0).trans z1
          have q2 := (hbW.cell (p := ⟨X + 1, 0, none⟩) hx1).trans z2
          have q3 := (hbW.cell (p := ⟨X + 1, 1, none⟩) hx1).trans z3
          exact op_value_g (w1 := W) ho1 (wanted_yes rfl rfl t39) (.agg #[.string p.1, .string p.2]) (by simp [go_sem, Act.eval, -Array.getD_eq_getD_getElem?, t5, t39, q0, q1, q2, q3]) (Gr.refl _) rfl
        | 21 =>
          have ho1 := ho
          cases ho
          have t40 : a.tmps.getD 40 undef = .agg #[.int .u64 (ka.toNat : Int), .int .u64 (kb.toNat : Int)] := hG.dep 19 (by decide) 40 rfl
          have t41 : a.tmps.getD 41 undef = .agg #[.string p.1, .string p.2] := hG.dep 20 (by decide) 41 rfl
          have t39 : a.tmps.getD 39 undef = .bool true := hG.dep 18 (by decide) 39 rfl
          refine op_call_g ho1 (wanted_yes rfl rfl t39) 23 #[.agg #[.int .u64 (ka.toNat : Int), .int .u64 (kb.toNat : Int)], .agg #[.string p.1, .string p.2]] (by simp [go_sem, Act.eval, -Array.getD_eq_getD_getElem?, t40, t41, t39]) ?_
          refine (pair_any ka kb p W HPS.it).mono ?_
          rintro e W' ⟨rfl, hb'⟩
          exact ⟨_, rfl, hb', rfl⟩
        | 22 =>
          have ho1 := ho
          cases ho
          have t3 : a.tmps.getD 3 undef = .pointer (some ⟨X, 0, none⟩) := hG.old 3 (by decide)
          have t39 : a.tmps.getD 39 undef = .bool true := hG.dep 18 (by decide) 39 rfl
          have q0 := (hbW.cell (p := ⟨X, 0, none⟩) hx0).trans z0
          have q1 := (hbW.cell (p := ⟨X, 1, none⟩) hx0).trans z1
          have q2 := (hbW.cell (p := ⟨X + 1, 0, none⟩) hx1).trans z2
          have q3 := (hbW.cell (p := ⟨X + 1, 1, none⟩) hx1).trans z3
          exact op_value_g (w1 := W) ho1 (wanted_yes rfl rfl t39) (.agg #[.int .u64 (ka.toNat : Int), .int .u64 (kb.toNat : Int)]) (by simp [go_sem, Act.eval, -Array.getD_eq_getD_getElem?, t3, t39, q0, q1, q2, q3]) (Gr.refl _) rfl
        | 23 =>
          have ho1 := ho
          cases ho
          have t5 : a.tmps.getD 5 undef = .pointer (some ⟨X + 1, 0, none⟩) := hG.old 5 (by decide)
          have t39 : a.tmps.getD 39 undef = .bool true := hG.dep 18 (by decide) 39 rfl
          have q0 := (hbW.cell (p := ⟨X, 0, none⟩) hx0).trans z0
          have q1 := (hbW.cell (p := ⟨X, 1, none⟩) hx0).trans z1
          have q2 := (hbW.cell (p := ⟨X + 1, 0, none⟩) hx1).trans z2
          have q3 := (hbW.cell (p := ⟨X + 1, 1, none⟩) hx1).trans z3
          exact op_value_g (w1 := W) ho1 (wanted_yes rfl rfl t39) (.agg #[.string p.1, .string p.2]) (by simp [go_sem, Act.eval, -Array.getD_eq_getD_getElem?, t5, t39, q0, q1, q2, q3]) (Gr.refl _) rfl
        | 24 =>
          have ho1 := ho
          cases ho
          have t43 : a.tmps.getD 43 undef = .agg #[.int .u64 (ka.toNat : Int), .int .u64 (kb.toNat : Int)] := hG.dep 22 (by decide) 43 rfl
          have t44 : a.tmps.getD 44 undef = .agg #[.string p.1, .string p.2] := hG.dep 23 (by decide) 44 rfl
          have t39 : a.tmps.getD 39 undef = .bool true := hG.dep 18 (by decide) 39 rfl
          refine op_call_g ho1 (wanted_yes rfl rfl t39) 24 #[.agg #[.int .u64 (ka.toNat : Int), .int .u64 (kb.toNat : Int)], .agg #[.string p.1, .string p.2]] (by simp [go_sem, Act.eval, -Array.getD_eq_getD_getElem?, t43, t44, t39]) ?_
          refine (rpair_any ka kb p W HPS.it).mono ?_
          rintro e W' ⟨rfl, hb'⟩
          exact ⟨_, rfl, hb', rfl⟩
        | 25 =>
          have ho1 := ho
          cases ho
          have t42 : a.tmps.getD 42 undef = .int .u64 ((pairU ka kb p).toNat : Int) := hG.dep 21 (by decide) 42 rfl
          have t45 : a.tmps.getD 45 undef = .int .u64 ((pairU ka kb p).toNat : Int) := hG.dep 24 (by decide) 45 rfl
          have t39 : a.tmps.getD 39 undef = .bool true := hG.dep 18 (by decide) 39 rfl
          exact op_value_g (w1 := W) ho1 (wanted_yes rfl rfl t39) (.bool true) (by simp [go_sem, Act.eval, -Array.getD_eq_getD_getElem?, t42, t45, t39]) (Gr.refl _) rfl
        | 26 =>
          have ho1 := ho
          cases ho
          have t39 : a.tmps.getD 39 undef = .bool true := hG.dep 18 (by decide) 39 rfl
          have t46 : a.tmps.getD 46 undef = .bool true := hG.dep 25 (by decide) 46 rfl
          exact op_value_g (w1 := W) ho1 (wanted_none rfl) (.bool true) (by simp [go_sem, Act.eval, -Array.getD_eq_getD_getElem?, t39, t46]) (Gr.refl _) rfl
        | 27 =>
          have ho1 := ho
          cases ho
          have t47 : a.tmps.getD 47 undef = .bool true := hG.dep 26 (by decide) 47 rfl
          exact op_value_g (w1 := W) ho1 (wanted_none rfl) (.bool true) (by simp [go_sem, Act.eval, -Array.getD_eq_getD_getElem?, t47]) (Gr.refl _) rfl
        | 28 =>
          have ho1 := ho
          cases ho
          have t7 : a.tmps.getD 7 undef = .slice A7 n c7 := hG.old 7 (by decide)
          have t48 : a.tmps.getD 48 undef = .bool true := hG.dep 27 (by decide) 48 rfl
          exact op_value_g (w1 := W) ho1 (wanted_yes rfl rfl t48) (.slice A7 n c7) (by simp [go_sem, Act.eval, -Array.getD_eq_getD_getElem?, t7, t48]) (Gr.refl _) rfl
        | 29 =>
          have ho1 := ho
          cases ho
          have t1 : a.tmps.getD 1 undef = .slice A n c := hG.old 1 (by decide)
          have t48 : a.tmps.getD 48 undef = .bool true := hG.dep 27 (by decide) 48 rfl
          exact op_value_g (w1 := W) ho1 (wanted_yes rfl rfl t48) (.slice A n c) (by simp [go_sem, Act.eval, -Array.getD_eq_getD_getElem?, t1, t48]) (Gr.refl _) rfl
        | 30 =>
          have ho1 := ho
          cases ho
          have t49 : a.tmps.getD 49 undef = .slice A7 n c7 := hG.dep 28 (by decide) 49 rfl
          have t50 : a.tmps.getD 50 undef = .slice A n c := hG.dep 29 (by decide) 50 rfl
          have t48 : a.tmps.getD 48 undef = .bool true := hG.dep 27 (by decide) 48 rfl
          refine op_call_g ho1 (wanted_yes rfl rfl t48) 25 #[.slice A7 n c7, .slice A n c] (by simp [go_sem, Act.eval, -Array.getD_eq_getD_getElem?, t49, t50, t48]) ?_
          refine (equalb_same A7 A n c7 c bs W (HG.it.below hbW) (HI.it.below hbW)).mono ?_
          rintro e W' ⟨rfl, hb'⟩
          exact ⟨_, rfl, hb', rfl⟩
        | 31 =>
          have ho1 := ho
          cases ho
          have t48 : a.tmps.getD 48 undef = .bool true := hG.dep 27 (by decide) 48 rfl
          have t51 : a.tmps.getD 51 undef = .bool true := hG.dep 30 (by decide) 51 rfl
          exact op_value_g (w1 := W) ho1 (wanted_none rfl) (.bool true) (by simp [go_sem, Act.eval, -Array.getD_eq_getD_getElem?, t48, t51]) (Gr.refl _) rfl
        | 32 =>
          have ho1 := ho
          cases ho
          have t52 : a.tmps.getD 52 undef = .bool true := hG.dep 31 (by decide) 52 rfl
          exact op_value_g (w1 := W) ho1 (wanted_none rfl) (.bool true) (by simp [go_sem, Act.eval, -Array.getD_eq_getD_getElem?, t52]) (Gr.refl _) rfl
        | 33 =>
          have ho1 := ho
          cases ho
          have t53 : a.tmps.getD 53 undef = .bool true := hG.dep 32 (by decide) 53 rfl
          refine op_call_g ho1 (wanted_yes rfl rfl t53) 12 #[] (by simp [go_sem, Act.eval, -Array.getD_eq_getD_getElem?]) ?_
          refine (awake_any W).mono ?_
          rintro e W' ⟨rfl, hb'⟩
          exact ⟨_, rfl, hb', rfl⟩
        | 34 =>
          have ho1 := ho
          cases ho
          have t53 : a.tmps.getD 53 undef = .bool true := hG.dep 32 (by decide) 53 rfl
          have t54 : a.tmps.getD 54 undef = .bool true := hG.dep 33 (by decide) 54 rfl
          exact op_value_g (w1 := W) ho1 (wanted_none rfl) (.bool true) (by simp [go_sem, Act.eval, -Array.getD_eq_getD_getElem?, t53, t54]) (Gr.refl _) rfl
        | 35 =>
          have ho1 := ho
          cases ho
          have t55 : a.tmps.getD 55 undef = .bool true := hG.dep 34 (by decide) 55 rfl
          exact op_value_g (w1 := W) ho1 (wanted_none rfl) (.bool true) (by simp [go_sem, Act.eval, -Array.getD_eq_getD_getElem?, t55]) (Gr.refl _) rfl
        | q + 36 => cases ho
      · intro a W hbW hD
        have hfr := hD.frame [21, 22, 23, 24, 25, 26, 27, 28, 29, 30, 31, 32, 33, 34, 35, 36, 37, 38, 39, 40, 41, 42, 43, 44, 45, 46, 47, 48, 49, 50, 51, 52, 53, 54, 55, 6] (by kernel_rfl)
        have t21 : a.tmps.getD 21 undef = .agg #[.int .u64 (ka.toNat : Int), .int .u64 (kb.toNat : Int)] := hD.sp 0 (by decide) 21 rfl
        have t22 : a.tmps.getD 22 undef = .slice A7 n c7 := hD.sp 1 (by decide) 22 rfl
        have t23 : a.tmps.getD 23 undef = .int .u64 ((sumU ka kb bs).toNat : Int) := hD.sp 2 (by decide) 23 rfl
        have t24 : a.tmps.getD 24 undef = .agg #[.int .u64 (ka.toNat : Int), .int .u64 (kb.toNat : Int)] := hD.sp 3 (by decide) 24 rfl
        have t25 : a.tmps.getD 25 undef = .slice A n c := hD.sp 4 (by decide) 25 rfl
        have t26 : a.tmps.getD 26 undef = .int .u64 ((sumU ka kb bs).toNat : Int) := hD.sp 5 (by decide) 26 rfl
        have t27 : a.tmps.getD 27 undef = .bool true := hD.sp 6 (by decide) 27 rfl
        have t28 : a.tmps.getD 28 undef = .bool true := hD.sp 7 (by decide) 28 rfl
        have t29 : a.tmps.getD 29 undef = .agg #[.int .u64 (ka.toNat : Int), .int .u64 (kb.toNat : Int)] := hD.sp 8 (by decide) 29 rfl
        have t30 : a.tmps.getD 30 undef = .pointer (some ⟨X + 1, 0, none⟩) := hD.sp 9 (by decide) 30 rfl
        have t31 : a.tmps.getD 31 undef = .string p.1 := hD.sp 10 (by decide) 31 rfl
        have t32 : a.tmps.getD 32 undef = .int .u64 ((sumU ka kb p.1.data.toList).toNat : Int) := hD.sp 11 (by decide) 32 rfl
        have t33 : a.tmps.getD 33 undef = .agg #[.int .u64 (ka.toNat : Int), .int .u64 (kb.toNat : Int)] := hD.sp 12 (by decide) 33 rfl
        have t34 : a.tmps.getD 34 undef = .pointer (some ⟨X + 1, 0, none⟩) := hD.sp 13 (by decide) 34 rfl
        have t35 : a.tmps.getD 35 undef = .string p.1 := hD.sp 14 (by decide) 35 rfl
        have t36 : a.tmps.getD 36 undef = .int .u64 ((sumU ka kb p.1.data.toList).toNat : Int) := hD.sp 15 (by decide) 36 rfl
        have t37 : a.tmps.getD 37 undef = .bool true := hD.sp 16 (by decide) 37 rfl
        have t38 : a.tmps.getD 38 undef = .bool true := hD.sp 17 (by decide) 38 rfl
        have t39 : a.tmps.getD 39 undef = .bool true := hD.sp 18 (by decide) 39 rfl
        have t40 : a.tmps.getD 40 undef = .agg #[.int .u64 (ka.toNat : Int), .int .u64 (kb.toNat : Int)] := hD.sp 19 (by decide) 40 rfl
        have t41 : a.tmps.getD 41 undef = .agg #[.string p.1, .string p.2] := hD.sp 20 (by decide) 41 rfl
        have t42 : a.tmps.getD 42 undef = .int .u64 ((pairU ka kb p).toNat : Int) := hD.sp 21 (by decide) 42 rfl
        have t43 : a.tmps.getD 43 undef = .agg #[.int .u64 (ka.toNat : Int), .int .u64 (kb.toNat : Int)] := hD.sp 22 (by decide) 43 rfl
        have t44 : a.tmps.getD 44 undef = .agg #[.string p.1, .string p.2] := hD.sp 23 (by decide) 44 rfl
        have t45 : a.tmps.getD 45 undef = .int .u64 ((pairU ka kb p).toNat : Int) := hD.sp 24 (by decide) 45 rfl
        have t46 : a.tmps.getD 46 undef = .bool true := hD.sp 25 (by decide) 46 rfl
        have t47 : a.tmps.getD 47 undef = .bool true := hD.sp 26 (by decide) 47 rfl
        have t48 : a.tmps.getD 48 undef = .bool true := hD.sp 27 (by decide) 48 rfl
        have t49 : a.tmps.getD 49 undef = .slice A7 n c7 := hD.sp 28 (by decide) 49 rfl
        have t50 : a.tmps.getD 50 undef = .slice A n c := hD.sp 29 (by decide) 50 rfl
        have t51 : a.tmps.getD 51 undef = .bool true := hD.sp 30 (by decide) 51 rfl
        have t52 : a.tmps.getD 52 undef = .bool true := hD.sp 31 (by decide) 52 rfl
        have t53 : a.tmps.getD 53 undef = .bool true := hD.sp 32 (by decide) 53 rfl
        have t54 : a.tmps.getD 54 undef = .bool true := hD.sp 33 (by decide) 54 rfl
        have t55 : a.tmps.getD 55 undef = .bool true := hD.sp 34 (by decide) 55 rfl
        have t6 : a.tmps.getD 6 undef = .bool true := hD.sp 35 (by decide) 6 rfl
        simp only [List.foldl_cons, List.foldl_nil] at hfr
        rw [t21, t22, t23, t24, t25, t26, t27, t28, t29, t30, t31, t32, t33, t34, t35, t36, t37, t38, t39, t40, t41, t42, t43, t44, t45, t46, t47, t48, t49, t50, t51, t52, t53, t54, t55, t6] at hfr
        rw [hfr]
        clear hfr hD t21 t22 t23 t24 t25 t26 t27 t28 t29 t30 t31 t32 t33 t34 t35 t36 t37 t38 t39 t40 t41 t42 t43 t44 t45 t46 t47 t48 t49 t50 t51 t52 t53 t54 t55 t6
        have HBW := Kp.mk hbW
        clear hbW
        simp only [Act.put, List.setIfInBounds_toArray, List.set_cons_succ, List.set_cons_zero]
        go_wp2
        go_ret
        exact ⟨rfl, (B1.it.trans (B3.it.mono B1.it.size)).trans (HBW.it.mono (Nat.le_trans B1.it.size B3.it.size))⟩

section
variable {H : Type} {enc : TypeId × Value → H} {W : World}
set_option maxRecDepth 100000 in
theorem seed_open {base : Nat} {v : Value} {d : DataW H} {p : List MemPlace} (hv : Value.okWide Try.prog W .any base 24 v) (h : DataW.Trod enc Try.prog W 0 (fun _ => true) true 24 v d p) :
    ∃ ka kb : BitVec 64, v = .agg #[.int .u64 (ka.toNat : Int), .int .u64 (kb.toNat : Int)] := by
  obtain ⟨v0, v1, y0, y1, n, rfl, rfl, rfl, h0, h1⟩ := Go.Joins.open_agg2 Try.underlying24 (by kernel_rfl) (by kernel_rfl) hv h
  obtain ⟨a, e0, rfl, w0⟩ := DataW.trod_int Try.underlying22 h0
  obtain ⟨b, e1, rfl, w1⟩ := DataW.trod_int Try.underlying22 h1
  cases e0
  cases e1
  simp [Lit.wf, IntKind.min, IntKind.max, IntKind.bits, IntKind.signed] at w0 w1
  refine ⟨BitVec.ofNat 64 a.toNat, BitVec.ofNat 64 b.toNat, ?_⟩
  rw [BitVec.toNat_ofNat, BitVec.toNat_ofNat, Nat.mod_eq_of_lt (by omega), Nat.mod_eq_of_lt (by omega), Int.toNat_of_nonneg (by omega), Int.toNat_of_nonneg (by omega)]
set_option maxRecDepth 100000 in
theorem pr_open {base : Nat} {v : Value} {d : DataW H} {p : List MemPlace} (hv : Value.okWide Try.prog W .any base 43 v) (h : DataW.Trod enc Try.prog W 0 (fun _ => true) true 43 v d p) (hz : ∀ x ∈ DataW.weights Try.prog 43 d, x ≤ reachBytes) :
    ∃ k : Pr, v = .agg #[.string k.1, .string k.2] ∧ k.1.size ≤ 140737488351232 ∧ k.2.size ≤ 140737488351232 := by
  obtain ⟨v0, v1, y0, y1, n, rfl, rfl, rfl, h0, h1⟩ := Go.Joins.open_agg2 Try.underlying43 (by kernel_rfl) (by kernel_rfl) hv h
  obtain ⟨a, e0, rfl, _⟩ := DataW.trod_string Try.underlying9 h0
  obtain ⟨b, e1, rfl, _⟩ := DataW.trod_string Try.underlying9 h1
  cases e0
  cases e1
  have hr : reachBytes = 140737488351232 := rfl
  have z0 := hz a.data.toList.length (by simp [DataW.weights, DataW.weightsEach, Try.underlying43])
  have z1 := hz b.data.toList.length (by simp [DataW.weights, DataW.weightsEach, Try.underlying43])
  rw [hr, Array.length_toList] at z0 z1
  exact ⟨(a, b), rfl, z0, z1⟩
end

set_option linter.unusedVariables false in
set_option maxRecDepth 100000 in
theorem digestSums_lifted (os : Os) (started : os.Started) (H : Type) (enc : TypeId × Value → H) :
    ReturnsInHanded {} Try.checked os 4 .any (Rows.digestSumsSpec.pre6 enc Try.prog Try.f4 Rows.digestSumsRow.domain false) (Rows.digestSumsSpec.post enc Try.prog Try.f4 false true false false) := by
  refine returnsInHanded_of_change_sized (C := Try.checked) (by kernel_rfl) started (by kernel_rfl) Try.func4
    (ChangeSpec.witness6 (enc := enc) (C := Try.checked) false ⟨#[], #[.agg #[.int .u64 0, .int .u64 0], .slice none 0 0, .agg #[.string ⟨#[]⟩, .string ⟨#[]⟩]], []⟩ 8 (by kernel_rfl) (by kernel_rfl) (by kernel_rfl) (by kernel_rfl)) ?_
  intro W base args ds gs before hval0 hW hcnd hsz0 _
  have hval : ∀ (j : Nat) t v, Try.f4.params[j]? = some t → args[j]? = some v → Value.okWide Try.prog W .any base t v := hval0
  have hW' := hW
  obtain ⟨p, q, hA0, hV, rfl, hfz, hnd⟩ := hW
  have hA : DataW.TrodAll enc Try.prog W 0 (fun _ => true) true Try.f4.params.toList args.toList ds p := hA0
  have hsz : (DataW.weightsEach Try.prog (Try.f4.params.toList ++ Rows.digestSumsSpec.plain.varTypes Try.prog) (ds ++ gs)).all (· ≤ reachBytes) = true := hsz0
  rw [Try.params4] at hA hval hsz
  obtain ⟨v0, vs0, d0, ds0, p0, q0, hargs, rfl, rfl, h0, r0⟩ := trodAll_cons hA
  obtain ⟨v1, vs1, d1, ds1, p1, q1, rfl, rfl, rfl, h1, r1⟩ := trodAll_cons r0
  obtain ⟨v2, vs2, d2, ds2, p2, q2, rfl, rfl, rfl, h2, r2⟩ := trodAll_cons r1
  obtain ⟨rfl, rfl, rfl⟩ := trodAll_nil r2
  obtain rfl : args = #[v0, v1, v2] := by cases args; simp_all
  obtain ⟨rfl, rfl⟩ := trodVars_none hV
  have k0 := h0
  have lt0 : ∀ x ∈ p0, x.block < W.heap.size := by obtain ⟨m, hm⟩ := k0; exact DataW.trod_lt m _ _ _ hm
  obtain ⟨ka0, kb0, rfl⟩ := seed_open (hval 0 24 v0 rfl rfl) h0
  have k1 := h1
  have lt1 : ∀ x ∈ p1, x.block < W.heap.size := by obtain ⟨m, hm⟩ := k1; exact DataW.trod_lt m _ _ _ hm
  obtain ⟨A1, n1, c1, bs1, rfl, ra1, ea1⟩ := bytes_open (hval 1 41 v1 rfl rfl) h1 (fun x hx => by simpa using List.all_eq_true.1 hsz x (DataW.weights_mem_each (j := 1) (t := 41) rfl rfl x hx))
  have k2 := h2
  have lt2 : ∀ x ∈ p2, x.block < W.heap.size := by obtain ⟨m, hm⟩ := k2; exact DataW.trod_lt m _ _ _ hm
  obtain ⟨pr2, rfl, pa2, pb2⟩ := pr_open (hval 2 43 v2 rfl rfl) h2 (fun x hx => by simpa using List.all_eq_true.1 hsz x (DataW.weights_mem_each (j := 2) (t := 43) rfl rfl x hx))
  clear hA0 hval0 hsz hsz0
  refine (sums_walk ka0 kb0 A1 n1 c1 bs1 pr2 W ra1 ea1 pa2 pb2).mono fun e W' ⟨he, bel⟩ => ?_
  subst he
  exact ⟨_, rfl, _, _, _, [], _, [], hW', trodAll_mk1 (shut_bool Try.underlying4 _), (trodAll_cons_mk (Below.trod (by kernel_rfl) (by kernel_rfl) (of_decide_eq_true (by kernel_rfl)) k0 bel lt0) (trodAll_cons_mk (Below.trod (by kernel_rfl) (by kernel_rfl) (of_decide_eq_true (by kernel_rfl)) k1 bel lt1) (trodAll_cons_mk (Below.trod (by kernel_rfl) (by kernel_rfl) (of_decide_eq_true (by kernel_rfl)) k2 bel lt2) trodAll_mk0))), rfl, bel.frame _, fun h => by cases h⟩

theorem DigestSums_holds : Rows.DigestSumsSaid :=
  OpenClaim.holds_of_wide 4 Try.f4 rfl rfl rfl rfl rfl rfl rfl ⟨rfl, rfl, rfl, rfl, rfl⟩ rfl rfl rfl rfl rfl (by kernel_rfl) Try.func4 (by kernel_rfl)
    (of_decide_eq_true (by kernel_rfl)) (by unfold Func.isWrapper; first | (rw [if_pos (by decide +kernel)]; kernel_rfl) | (rw [if_neg (by decide +kernel)]; exact ⟨rfl, rfl⟩))
    (fun os started H enc _ => digestSums_lifted os started H enc)
end Go.Proofs.Ytcmkjoepndbicaa
