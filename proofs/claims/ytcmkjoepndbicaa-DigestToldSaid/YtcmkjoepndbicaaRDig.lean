/-
  The reference's Digest.
-/
import Derived.Test.YtcmkjoepndbicaaRTr
namespace Go.Proofs.Ytcmkjoepndbicaa
open Go Go.RowKit

theorem wrap_i64_64 (y : Int) : IntKind.i64.wrap y = wrap64 y := by first | rfl | (rw [IntKind.wrap_i64]; rfl) | simp [wrap64, IntKind.wrap_i64]
/-- What the reference's Digest does, f digits below the whole. -/
def RDigOk (ka kb : BitVec 64) (S0 : Nat → Prop) (t : Nat) (l : List Pr) (f : Nat) : Prop := ∀ (A : Option Addr) (m c : Nat) (path : List Int) (w : World), RTr ka kb S0 l t w → Rd w A m path → (A = none → c = 0) → m = 4 - f →
    Calls Try.prog 28 #[.pointer (some ⟨t, 0, none⟩), .slice A m c] w fun e w' => e = .returned (.int .u64 ((digU ka kb f (inP ka kb path l)).toNat : Int)) ∧ Below w.heap.size w w'
set_option linter.unusedSimpArgs false in
set_option linter.unusedVariables false in
set_option maxRecDepth 100000 in
set_option maxHeartbeats 8000000 in
theorem rdig_zero (ka kb : BitVec 64) (S0 : Nat → Prop) (t : Nat) (l : List Pr) (hl : l.length ≤ 1000) (hs : ∀ p ∈ l, p.1.size + p.2.size ≤ 140737488351232) : RDigOk ka kb S0 t l 0 := by
  intro A m c path w T P hnil hm
  obtain rfl : m = 4 := hm
  have HT := Kp.mk T
  have HP := Kp.mk P
  have HS := Kp.mk hs
  have HIN := Kp.mk (in_any ka kb S0 t l A 4 c path w T P (Nat.le_refl _) hl (fun p hp => by have := hs p hp; omega))
  have HIL : Kp ((inP ka kb path l).length ≤ 1000) := ⟨Nat.le_trans (inP_le _ _ _ _) hl⟩
  have HMEM : Kp (∀ p ∈ inP ka kb path l, p ∈ l) := ⟨fun p hp => (List.mem_filter.1 hp).1⟩
  clear T P hs hl hnil
  obtain ⟨L, hL⟩ : ∃ L, L = inP ka kb path l := ⟨_, rfl⟩
  rw [← hL] at HIN HIL HMEM ⊢
  clear hL
  go_enter Try.func28, Try.ntmps28
  go_wp2_with fail
  go_at_call 59
  refine HIN.it.mono ?_
  rintro e w1 ⟨v1, rfl, ho1, hb1⟩
  obtain ⟨n, hn⟩ : ∃ n, n = L.length := ⟨_, rfl⟩
  have hn1 : n ≤ 1000 := by rw [hn]; exact HIL.it
  obtain ⟨A1, c1, rfl, _, hc1, hr1⟩ := ho1.form (by omega)
  rw [← hn] at hc1 hr1 ⊢
  have HLN := Kp.mk hn
  have R1 := Kp.mk hr1
  have B1 := Kp.mk hb1
  have HT1 := Kp.mk (HT.it.below hb1)
  clear ho1 hr1 hb1 hn HIN
  rcases Nat.eq_zero_or_pos n with h0 | h0
  · subst h0
    have hq : (((0 : Nat) : Int) == 0) = true := by decide
    have HE : Kp (L = []) := ⟨List.eq_nil_of_length_eq_zero HLN.it.symm⟩
    go_wp2
    go_ret
    exact ⟨by rw [HE.it, digU_nil]; rfl, B1.it⟩
  · have hq : ((n : Int) == 0) = false := by rw [beq_eq_false_iff_ne]; omega
    go_wp2_with fail
    go_at_call 60
    refine (rnumber_any none 0 0 [] n w1 ⟨rfl, by decide, fun h => absurd h (by decide)⟩ (fun _ => rfl) (by omega) (by omega)).mono ?_
    rintro e w3 ⟨v3, rfl, ho3, hb3⟩
    rw [List.nil_append] at ho3
    have HNB : Kp ((numB n).length ≤ 9) := ⟨numB_len n (by omega)⟩
    obtain ⟨A3, c3, rfl, hn3, hc3, hr3⟩ := ho3.form (by have := HNB.it; omega)
    have B3 := Kp.mk (B1.it.trans (hb3.mono B1.it.size))
    have HW13 := Kp.mk hb3
    have R3 := Kp.mk hr3
    have N3 := Kp.mk hn3
    obtain ⟨m3, hm3⟩ : ∃ m, m = (numB n).length := ⟨_, rfl⟩
    rw [← hm3] at R3 hc3 ⊢
    have M3 : m3 ≤ 9 := by rw [hm3]; exact HNB.it
    clear ho3 hb3 hr3 hn3 hm3
    go_wp2
    go_loopw [6, 24] (fun b i wr => ∃ (k m : Nat) (A4 : Option Addr) (c4 : Nat), k ≤ n ∧ i = .int .i64 k ∧ b = .slice A4 m c4 ∧ m ≤ 9 + 8 * k ∧ m ≤ c4 ∧ Kp (A4 = none → c4 = 0) ∧ Kp (Rb wr A4 m (numB n ++ (L.take k).flatMap fun p => sgB (pairU ka kb p).toNat)) ∧ Kp (Below w1.heap.size w1 wr)) (fun _ i _ => n - (intOf i).toNat)
    case atStart => exact ⟨0, m3, A3, c3, by omega, rfl, rfl, by omega, hc3, N3, ⟨by simpa using R3.it⟩, HW13⟩
    case round =>
      clear B3 R3 N3 hc3 HW13
      obtain ⟨k, m, A4, c4, hk, rfl, rfl, hm, hmc, HNL, HR, HB⟩ := hrel
      by_cases hkn : k < n
      · have hd : decide ((k : Int) < (n : Int)) = true := by simp; omega
        obtain ⟨x, hx⟩ : ∃ x, L[k]? = some x := ⟨_, List.getElem?_eq_getElem (by rw [← HLN.it]; exact hkn)⟩
        obtain ⟨b1, o1, hA, hb1, hl1, f0, f1⟩ := (R1.it.below HB.it).get hx
        cases hA
        have HXX : Kp (L.take (k + 1) = L.take k ++ [x]) := ⟨by rw [List.take_add_one, hx]; rfl⟩
        have HSX := Kp.mk (HS.it x (HMEM.it x (List.mem_of_getElem? hx)))
        clear hx
        go_upto_region 10 with fail
        refine wp_on (fun wz => wz.heap[wr.heap.size]? = some (.cells #[.string x.1, .string x.2] 43 (0, 0)) ∧ Below wr.heap.size wr wz) (pr_new wr x) (fun w4 h4 => ?_)
        obtain ⟨h4, hb4⟩ := h4
        have g0 : w4.cell? ⟨wr.heap.size, 0, none⟩ = some (.string x.1) := blk_cell h4 rfl
        have g1 : w4.cell? ⟨wr.heap.size, 1, none⟩ = some (.string x.2) := blk_cell h4 rfl
        have hlt4 := (Array.getElem?_eq_some_iff.1 h4).1
        have HB4r := Kp.mk hb4
        have HB4 := Kp.mk (HB.it.trans (hb4.mono HB.it.size))
        obtain ⟨z0, z1, ht4⟩ := (HT1.it.below HB4.it).opens
        clear h4 hb4 f0 f1
        obtain ⟨U, hU⟩ : ∃ U, U = pairU ka kb x := ⟨_, rfl⟩
        have HU := Kp.mk hU
        have HUU := Kp.mk (wrap_back U)
        clear hU
        obtain ⟨BS, hBS⟩ : ∃ BS, BS = numB n ++ (L.take k).flatMap fun p => sgB (pairU ka kb p).toNat := ⟨_, rfl⟩
        have HBS := Kp.mk hBS
        rw [← hBS] at HR
        clear hBS
        have HRL : Kp ((BS ++ sgB U.toNat).length ≤ 140737488355328) := ⟨by rw [List.length_append, HR.it.len, sgB_len]; omega⟩
        have HM9 : Kp (m ≤ 140737488355319) := ⟨by omega⟩
        refine wp_region_sp [SpK.ex (.slice A4 m c4), SpK.ex (.pointer (some ⟨t, 0, none⟩)), SpK.ex (.pointer (some ⟨t, 0, none⟩)), SpK.ex (.pointer (some ⟨t, 0, none⟩)), SpK.ex (.agg #[.int .u64 (ka.toNat : Int), .int .u64 (kb.toNat : Int)]), SpK.ex (.agg #[.string x.1, .string x.2]), SpK.ex (.int .u64 (U.toNat : Int)), SpK.ex (.int .i64 (wrap64 (U.toNat : Int))), SpK.rb (BS ++ sgB U.toNat), SpK.rb (BS ++ sgB U.toNat)] (by kernel_rfl) (by kernel_rfl) ?_ ?_
        · intro i o ho a W hbW hG
          match i with
          | 0 =>
            have ho1 := ho
            cases ho
            have t6 : a.tmps.getD 6 undef = .slice A4 m c4 := hG.old 6 (by decide)
            exact op_value_g (w1 := W) ho1 (wanted_none rfl) (.slice A4 m c4) (by simp [go_sem, Act.eval, -Array.getD_eq_getD_getElem?, t6]) (Gr.refl _) rfl
          | 1 =>
            have ho1 := ho
            cases ho
            have t0 : a.tmps.getD 0 undef = .pointer (some ⟨t, 0, none⟩) := hG.old 0 (by decide)
            exact op_value_g (w1 := W) ho1 (wanted_none rfl) (.pointer (some ⟨t, 0, none⟩)) (by simp [go_sem, Act.eval, -Array.getD_eq_getD_getElem?, t0]) (Gr.refl _) rfl
          | 2 =>
            have ho1 := ho
            cases ho
            have t29 : a.tmps.getD 29 undef = .pointer (some ⟨t, 0, none⟩) := hG.dep 1 (by decide) 29 rfl
            exact op_value_g (w1 := W) ho1 (wanted_none rfl) (.pointer (some ⟨t, 0, none⟩)) (by simp [go_sem, Act.eval, -Array.getD_eq_getD_getElem?, t29]) (Gr.refl _) rfl
          | 3 =>
            have ho1 := ho
            cases ho
            have t30 : a.tmps.getD 30 undef = .pointer (some ⟨t, 0, none⟩) := hG.dep 2 (by decide) 30 rfl
            exact op_value_g (w1 := W) ho1 (wanted_none rfl) (.pointer (some ⟨t, 0, none⟩)) (by simp [go_sem, Act.eval, -Array.getD_eq_getD_getElem?, t30]) (Gr.refl _) rfl
          | 4 =>
            have ho1 := ho
            cases ho
            have t31 : a.tmps.getD 31 undef = .pointer (some ⟨t, 0, none⟩) := hG.dep 3 (by decide) 31 rfl
            have q0 := (hbW.cell (p := ⟨t, 0, none⟩) ht4).trans z0
            have q1 := (hbW.cell (p := ⟨t, 1, none⟩) ht4).trans z1
            have q2 := (hbW.cell (p := ⟨wr.heap.size, 0, none⟩) hlt4).trans g0
            have q3 := (hbW.cell (p := ⟨wr.heap.size, 1, none⟩) hlt4).trans g1
            exact op_value_g (w1 := W) ho1 (wanted_none rfl) (.agg #[.int .u64 (ka.toNat : Int), .int .u64 (kb.toNat : Int)]) (by simp [go_sem, Act.eval, -Array.getD_eq_getD_getElem?, t31, q0, q1, q2, q3]) (Gr.refl _) rfl
          | 5 =>
            have ho1 := ho
            cases ho
            have t8 : a.tmps.getD 8 undef = .pointer (some ⟨wr.heap.size, 0, none⟩) := hG.old 8 (by decide)
            have q0 := (hbW.cell (p := ⟨t, 0, none⟩) ht4).trans z0
            have q1 := (hbW.cell (p := ⟨t, 1, none⟩) ht4).trans z1
            have q2 := (hbW.cell (p := ⟨wr.heap.size, 0, none⟩) hlt4).trans g0
            have q3 := (hbW.cell (p := ⟨wr.heap.size, 1, none⟩) hlt4).trans g1
            exact op_value_g (w1 := W) ho1 (wanted_none rfl) (.agg #[.string x.1, .string x.2]) (by simp [go_sem, Act.eval, -Array.getD_eq_getD_getElem?, t8, q0, q1, q2, q3]) (Gr.refl _) rfl
          | 6 =>
            have ho1 := ho
            cases ho
            have t32 : a.tmps.getD 32 undef = .agg #[.int .u64 (ka.toNat : Int), .int .u64 (kb.toNat : Int)] := hG.dep 4 (by decide) 32 rfl
            have t33 : a.tmps.getD 33 undef = .agg #[.string x.1, .string x.2] := hG.dep 5 (by decide) 33 rfl
            refine op_call_g ho1 (wanted_none rfl) 24 #[.agg #[.int .u64 (ka.toNat : Int), .int .u64 (kb.toNat : Int)], .agg #[.string x.1, .string x.2]] (by simp [go_sem, Act.eval, -Array.getD_eq_getD_getElem?, t32, t33]) ?_
            refine (rpair_any ka kb x W HSX.it).mono ?_
            rintro e W' ⟨rfl, hb'⟩
            exact ⟨_, rfl, hb', by rw [HU.it]; rfl⟩
          | 7 =>
            have ho1 := ho
            cases ho
            have t34 : a.tmps.getD 34 undef = .int .u64 (U.toNat : Int) := hG.dep 6 (by decide) 34 rfl
            exact op_value_g (w1 := W) ho1 (wanted_none rfl) (.int .i64 (wrap64 (U.toNat : Int))) (by simp [go_sem, Act.eval, -Array.getD_eq_getD_getElem?, t34]; exact wrap_i64_64 _) (Gr.refl _) rfl
          | 8 =>
            have ho1 := ho
            cases ho
            have t28 : a.tmps.getD 28 undef = .slice A4 m c4 := hG.dep 0 (by decide) 28 rfl
            have t35 : a.tmps.getD 35 undef = .int .i64 (wrap64 (U.toNat : Int)) := hG.dep 7 (by decide) 35 rfl
            refine op_call_g ho1 (wanted_none rfl) 61 #[.slice A4 m c4, .int .i64 (wrap64 (U.toNat : Int))] (by simp [go_sem, Act.eval, -Array.getD_eq_getD_getElem?, t28, t35]) ?_
            refine (rsigned_any A4 m c4 BS (wrap64 (U.toNat : Int)) U.toNat W (HR.it.below (HB4r.it.trans (hbW.mono HB4r.it.size))) HNL.it HUU.it HM9.it).mono ?_
            rintro e W' ⟨v, rfl, ho', hb'⟩
            exact ⟨_, rfl, hb', rb_of ho' HRL.it⟩
          | 9 =>
            have ho1 := ho
            cases ho
            obtain ⟨A36, n36, c36, t36, e36, m36, r36⟩ : (SpK.rb (BS ++ sgB U.toNat)).p (a.tmps.getD 36 undef) W := hG.dep 8 (by decide) 36 rfl
            exact op_value_g (w1 := W) ho1 (wanted_none rfl) (.slice A36 n36 c36) (by simp [go_sem, Act.eval, -Array.getD_eq_getD_getElem?, t36]) (Gr.refl _) ⟨A36, n36, c36, rfl, e36, m36, r36⟩
          | q + 10 => cases ho
        · intro a W hbW hD
          have hfr := hD.frame [28, 29, 30, 31, 32, 33, 34, 35, 36, 6] (by kernel_rfl)
          have t28 : a.tmps.getD 28 undef = .slice A4 m c4 := hD.sp 0 (by decide) 28 rfl
          have t29 : a.tmps.getD 29 undef = .pointer (some ⟨t, 0, none⟩) := hD.sp 1 (by decide) 29 rfl
          have t30 : a.tmps.getD 30 undef = .pointer (some ⟨t, 0, none⟩) := hD.sp 2 (by decide) 30 rfl
          have t31 : a.tmps.getD 31 undef = .pointer (some ⟨t, 0, none⟩) := hD.sp 3 (by decide) 31 rfl
          have t32 : a.tmps.getD 32 undef = .agg #[.int .u64 (ka.toNat : Int), .int .u64 (kb.toNat : Int)] := hD.sp 4 (by decide) 32 rfl
          have t33 : a.tmps.getD 33 undef = .agg #[.string x.1, .string x.2] := hD.sp 5 (by decide) 33 rfl
          have t34 : a.tmps.getD 34 undef = .int .u64 (U.toNat : Int) := hD.sp 6 (by decide) 34 rfl
          have t35 : a.tmps.getD 35 undef = .int .i64 (wrap64 (U.toNat : Int)) := hD.sp 7 (by decide) 35 rfl
          obtain ⟨A6, n6, c6, t6, e6, m6, r6⟩ : (SpK.rb (BS ++ sgB U.toNat)).p (a.tmps.getD 6 undef) W := hD.sp 9 (by decide) 6 rfl
          simp only [List.foldl_cons, List.foldl_nil] at hfr
          rw [t28, t29, t30, t31, t32, t33, t34, t35, t6] at hfr
          generalize a.tmps.getD 36 undef = u36 at hfr
          rw [hfr]
          clear hfr hD t28 t29 t30 t31 t32 t33 t34 t35 t6
          have HBW := Kp.mk hbW
          clear hbW
          simp only [Act.put, List.setIfInBounds_toArray, List.set_cons_succ, List.set_cons_zero]
          have HBE : Kp (BS ++ sgB U.toNat = numB n ++ (L.take (k + 1)).flatMap fun p => sgB (pairU ka kb p).toNat) := ⟨by
            rw [HXX.it, List.flatMap_append, ← List.append_assoc, ← HBS.it]
            simp [HU.it]⟩
          have hn6 : n6 = m + 8 := by have := r6.len; rw [List.length_append, HR.it.len, sgB_len] at this; omega
          subst hn6
          have R6 := Kp.mk r6
          have N6 := Kp.mk e6
          have B6 := Kp.mk (HB4.it.trans (HBW.it.mono HB4.it.size))
          clear r6 e6 g0 g1 hlt4 z0 z1 ht4
          go_wp2
          go_roundw
          case rel => exact ⟨k + 1, m + 8, A6, c6, by omega, by go_num, rfl, by omega, m6, N6, ⟨by rw [← HBE.it]; exact R6.it⟩, B6⟩
          case measure => simp [intOf]; omega
      · obtain rfl : k = n := by omega
        have hd : decide ((k : Int) < (k : Int)) = false := by simp
        have HB9 : Kp (Below w.heap.size w wr) := ⟨B1.it.trans (HB.it.mono B1.it.size)⟩
        obtain ⟨z0, z1, ht4⟩ := (HT.it.below HB9.it).opens
        have HDG : Kp (digU ka kb 0 L = sumU ka kb (numB k ++ (L.take k).flatMap fun p => sgB (pairU ka kb p).toNat)) := ⟨by
          rw [List.take_of_length_le (by rw [HLN.it]; omega)]
          unfold digU
          rw [if_neg (by intro h; have := HLN.it; rw [h] at this; simp at this; omega), HLN.it]⟩
        go_wp2_with fail
        go_at_call 20
        refine (rsum_any A4 m c4 _ ka kb wr HR.it).mono ?_
        rintro e w6 ⟨rfl, hb6⟩
        have HB6 := Kp.mk (HB9.it.trans (hb6.mono HB9.it.size))
        clear hb6
        go_wp2
        go_ret
        exact ⟨by rw [HDG.it]; rfl, HB6.it⟩
set_option maxRecDepth 100000 in
set_option maxHeartbeats 8000000 in
theorem rdig_succ (ka kb : BitVec 64) (S0 : Nat → Prop) (t : Nat) (l : List Pr) (hl : l.length ≤ 1000) (hs : ∀ p ∈ l, p.1.size + p.2.size ≤ 140737488351232) (f : Nat) (hf : f ≤ 3) (ih : RDigOk ka kb S0 t l f) : RDigOk ka kb S0 t l (f + 1) := by
  intro A m c path w T P hnil hm
  have IH := Kp.mk ih
  have HM : Kp (m = 3 - f) := ⟨by omega⟩
  have HMF : Kp (m + 1 = 4 - f) := ⟨by omega⟩
  have hm3 : m ≤ 3 := by omega
  have HT := Kp.mk T
  have HP := Kp.mk P
  have HPN := Kp.mk hnil
  have HIN := Kp.mk (in_any ka kb S0 t l A m c path w T P (by omega) hl (fun p hp => by have := hs p hp; omega))
  have HIL : Kp ((inP ka kb path l).length ≤ 1000) := ⟨Nat.le_trans (inP_le _ _ _ _) hl⟩
  have HKD : Kp (∀ i : Nat, inP ka kb (path ++ [(i : Int)]) l = kid ka kb (3 - f) i (inP ka kb path l)) := ⟨fun i => by rw [inP_snoc, P.len, HM.it]⟩
  have HPL : Kp (path.length = m) := ⟨P.len⟩
  have hq4 : ((m : Int) == 4) = false := by rw [beq_eq_false_iff_ne]; omega
  clear T P hs hl hnil ih hm
  obtain ⟨L, hL⟩ : ∃ L, L = inP ka kb path l := ⟨_, rfl⟩
  rw [← hL] at HIN HIL HKD ⊢
  clear hL
  go_enter Try.func28, Try.ntmps28
  go_wp2_with fail
  go_at_call 59
  refine HIN.it.mono ?_
  rintro e w1 ⟨v1, rfl, ho1, hb1⟩
  obtain ⟨n, hn⟩ : ∃ n, n = L.length := ⟨_, rfl⟩
  have hn1 : n ≤ 1000 := by rw [hn]; exact HIL.it
  obtain ⟨A1, c1, rfl, _, hc1, hr1⟩ := ho1.form (by omega)
  rw [← hn] at hc1 hr1 ⊢
  have HLN := Kp.mk hn
  have B1 := Kp.mk hb1
  clear ho1 hr1 hb1 hn HIN hc1
  rcases Nat.eq_zero_or_pos n with h0 | h0
  · subst h0
    have hq : (((0 : Nat) : Int) == 0) = true := by decide
    have HE : Kp (L = []) := ⟨List.eq_nil_of_length_eq_zero HLN.it.symm⟩
    go_wp2
    go_ret
    exact ⟨by rw [HE.it, digU_nil]; rfl, B1.it⟩
  · have hq : ((n : Int) == 0) = false := by rw [beq_eq_false_iff_ne]; omega
    go_wp2
    go_loopw [6, 38] (fun b i wr => ∃ (d q : Nat) (A4 : Option Addr) (c4 : Nat), d ≤ 16 ∧ i = .int .i64 d ∧ b = .slice A4 q c4 ∧ q = 8 * d ∧ q ≤ c4 ∧ Kp (A4 = none → c4 = 0) ∧ Kp (Rb wr A4 q ((List.range d).flatMap fun i => sgB (digU ka kb f (kid ka kb (3 - f) i L)).toNat)) ∧ Kp (Below w.heap.size w wr)) (fun _ i _ => 16 - (intOf i).toNat)
    case atStart => exact ⟨0, 0, none, 0, by omega, rfl, rfl, rfl, by omega, ⟨fun _ => rfl⟩, ⟨⟨rfl, by decide, fun h => absurd h (by decide)⟩⟩, B1⟩
    case round =>
      clear B1
      obtain ⟨d, q, A4, c4, hd16, rfl, rfl, hq8, hqc, HNL, HR, HB⟩ := hrel
      have HQ8 := Kp.mk hq8
      have hq128 : q ≤ 128 := by omega
      clear hq8
      by_cases hdn : d < 16
      · have hd : decide ((d : Int) < 16) = true := by simp; omega
        have HO0 := Kp.mk (own_empty wr)
        have HB0 : Kp (Below wr.heap.size wr (wr.alloc (.cells #[] 3))) := ⟨(Below.refl _ _).alloc (Nat.le_refl _) _⟩
        have HR0 : Kp (Rd (wr.alloc (.cells #[] 3)) A m path) := ⟨HP.it.below (HB.it.alloc HB.it.size _)⟩
        have HZ0 : Kp (wr.heap.size ≤ (wr.alloc (.cells #[] 3)).heap.size) := ⟨HB0.it.size⟩
        have HN0 : Kp (([] : List Int).length + path.length ≤ 17592186044416) := ⟨by rw [HPL.it]; simp; omega⟩
        have HN1 : Kp (([] ++ path).length + 1 ≤ 17592186044416) := ⟨by rw [List.nil_append, HPL.it]; omega⟩
        have HLL : Kp (([] ++ path ++ [(d : Int)]).length = m + 1) := ⟨by rw [List.length_append, List.nil_append, HPL.it]; rfl⟩
        go_wp2_with (first
          | (refine app_rd rfl (.tmp 43) (.tmp 44) rfl wr.heap.size _ [] A m c path rfl rfl HO0.it HR0.it HPN.it HZ0.it HN0.it ?_; intro v1 w2 ho1 hg1 _; have O1 := Kp.mk ho1; have B1 := Kp.mk (below_own HB0.it HZ0.it HO0.it (Nat.le_refl _) hg1); have Z1 := Kp.mk B1.it.size; clear ho1 hg1)
          | (refine app_own rfl (.tmp 45) (.tmp 47) rfl wr.heap.size v1 _ (d : Int) rfl rfl O1.it Z1.it HN1.it ?_; intro v2 w3 ho2 hg2 _; obtain ⟨A9, c9, hv9, hn9, _, _, hr9⟩ := ho2.form3 (by rw [HLL.it]; omega); rw [HLL.it] at hv9 hr9; subst hv9; have R9 := Kp.mk hr9; have N9 := Kp.mk hn9; have B9 := Kp.mk (below_own B1.it Z1.it O1.it (Nat.le_refl _) hg2); clear ho2 hg2 hr9 hn9)
          | fail)
        have HBW3 : Kp (Below w.heap.size w w3) := ⟨HB.it.trans (B9.it.mono HB.it.size)⟩
        go_at_call 28
        refine (IH.it A9 (m + 1) c9 _ w3 (HT.it.below HBW3.it) R9.it N9.it HMF.it).mono ?_
        rintro e w5 ⟨rfl, hb5⟩
        rw [List.nil_append, HKD.it d]
        have HB5 : Kp (Below wr.heap.size wr w5) := ⟨B9.it.trans (hb5.mono B9.it.size)⟩
        have HBW5 : Kp (Below w.heap.size w w5) := ⟨HB.it.trans (HB5.it.mono HB.it.size)⟩
        clear hb5 O1 B1 Z1 R9 N9 B9 HBW3
        obtain ⟨U, hU⟩ : ∃ U, U = digU ka kb f (kid ka kb (3 - f) d L) := ⟨_, rfl⟩
        rw [← hU]
        have HU := Kp.mk hU
        have hu := wrap_back U
        clear hU
        go_wp2_with fail
        obtain ⟨SS, hSS⟩ : ∃ S, S = wrap64 (U.toNat : Int) := ⟨_, rfl⟩
        rw [← hSS] at hu ⊢
        have HUU := Kp.mk hu
        clear hSS hu
        go_at_call 61
        refine (rsigned_any A4 q c4 _ SS U.toNat w5 (HR.it.below HB5.it) HNL.it HUU.it (by omega)).mono ?_
        rintro e w6 ⟨v6, rfl, ho6, hb6⟩
        have HXX : Kp (((List.range (d + 1)).flatMap fun i => sgB (digU ka kb f (kid ka kb (3 - f) i L)).toNat) = ((List.range d).flatMap fun i => sgB (digU ka kb f (kid ka kb (3 - f) i L)).toNat) ++ sgB U.toNat) := ⟨by rw [List.range_succ, List.flatMap_append, HU.it]; simp⟩
        rw [← HXX.it] at ho6
        have HLE : Kp (((List.range (d + 1)).flatMap fun i => sgB (digU ka kb f (kid ka kb (3 - f) i L)).toNat).length = q + 8) := ⟨by rw [HXX.it, List.length_append, HR.it.len, sgB_len]⟩
        obtain ⟨A6, c6, rfl, hn6, hc6, hr6⟩ := ho6.form (by rw [HLE.it]; omega)
        rw [HLE.it] at hc6 hr6 ⊢
        have R6 := Kp.mk hr6
        have N6 := Kp.mk hn6
        have B6 := Kp.mk (HBW5.it.trans (hb6.mono HBW5.it.size))
        clear ho6 hb6 hn6 hr6
        go_wp2
        go_roundw
        case rel => exact ⟨d + 1, q + 8, A6, c6, by omega, by go_num, rfl, by have := HQ8.it; omega, hc6, N6, R6, B6⟩
        case measure => simp [intOf]; omega
      · obtain rfl : d = 16 := by omega
        have hd : decide (((16 : Nat) : Int) < 16) = false := by decide
        obtain ⟨z0, z1, ht4⟩ := (HT.it.below HB.it).opens
        have HDG : Kp (digU ka kb (f + 1) L = sumU ka kb ((List.range 16).flatMap fun i => sgB (digU ka kb f (kid ka kb (3 - f) i L)).toNat)) := ⟨by
          rw [digU, if_neg (by intro h; have := HLN.it; rw [h] at this; simp at this; omega)]⟩
        obtain ⟨BS, hBS⟩ : ∃ BS, BS = (List.range 16).flatMap fun i => sgB (digU ka kb f (kid ka kb (3 - f) i L)).toNat := ⟨_, rfl⟩
        rw [← hBS] at HR HDG
        clear hBS
        go_wp2_with fail
        go_at_call 20
        refine (rsum_any A4 q c4 _ ka kb wr HR.it).mono ?_
        rintro e w6 ⟨rfl, hb6⟩
        have HB6 := Kp.mk (HB.it.trans (hb6.mono HB.it.size))
        clear hb6
        go_wp2
        go_ret
        exact ⟨by rw [HDG.it]; rfl, HB6.it⟩
theorem rdig_any (ka kb : BitVec 64) (S0 : Nat → Prop) (t : Nat) (l : List Pr) (hl : l.length ≤ 1000) (hs : ∀ p ∈ l, p.1.size + p.2.size ≤ 140737488351232) : ∀ f, f ≤ 4 → RDigOk ka kb S0 t l f
  | 0, _ => rdig_zero ka kb S0 t l hl hs
  | f + 1, hf => rdig_succ ka kb S0 t l hl hs f (by omega) (rdig_any ka kb S0 t l hl hs f (by omega))
end Go.Proofs.Ytcmkjoepndbicaa
