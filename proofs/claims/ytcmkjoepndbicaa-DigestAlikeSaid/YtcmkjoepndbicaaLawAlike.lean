/-
  DigestAlike: trees of one map are alike, in whichever order it was given, and whatever came ahead for a key.
-/
import Derived.Test.YtcmkjoepndbicaaSho
namespace Go.Proofs.Ytcmkjoepndbicaa
open Go.ChangeShapes Go.WideShapes Go.ChangeAt Go.RowKit

theorem OwnP.ownOf {w : World} {base : Nat} {v : Value} {l : List Pr} (h : OwnP w base v l) : ownOf v = v.ownBlock := by
  unfold OwnP at h
  rcases h.2 with ⟨rfl, _⟩ | ⟨g, cap, cur, rfl, _⟩ <;> rfl
theorem op_val_any {P : Program} {ops : Array Oper} {Q : Exit → Act → World → Prop} {K : Act → World → Prop} {i : Nat} {o : Oper} {a : Act} {w w1 : World} (ho : ops[i]? = some o) (hg : o.guard = none) {v : Value}
    (hrun : (execOp a.eval o).run P w = .ok (.value v) w1) (hk : K (a.put o.dst v) w1) : wpOp P ops Q i K a w := by
  unfold wpOp
  rw [ho]
  simp only [Region.wanted, hg, if_true]
  left
  unfold Oper.wp
  rw [hrun]
  exact hk
theorem RP.drop {w : World} {S : Nat → Prop} {A : Option Addr} {n c q : Nat} {ks : List Pr} (h : RP w S A n ks) (hq : q ≤ n) (hc : n ≤ c) : RP w S (if c = q then A else Option.map (fun x => x.add (q * 2)) A) (n - q) (ks.drop q) :=
  ⟨by rw [List.length_drop, h.len], by have := h.bd; omega, fun hn => by
    obtain ⟨b, o, e, hb, hl, hcl⟩ := h.row (by omega)
    refine ⟨b, o + q * 2, by rw [if_neg (by omega), e]; simp [Addr.add], hb, hl, fun i k hk => ?_⟩
    rw [List.getElem?_drop] at hk
    have := hcl (q + i) k hk
    rw [show o + (q + i) * 2 = o + q * 2 + i * 2 by omega] at this
    exact this⟩
theorem RP.take {w : World} {S : Nat → Prop} {A : Option Addr} {n q : Nat} {ks : List Pr} (h : RP w S A n ks) (hq : q ≤ n) : RP w S A q (ks.take q) :=
  ⟨by rw [List.length_take, h.len]; omega, by have := h.bd; omega, fun hn => by
    obtain ⟨b, o, e, hb, hl, hcl⟩ := h.row (by omega)
    refine ⟨b, o, e, hb, hl, fun i k hk => ?_⟩
    rw [List.getElem?_take] at hk
    split at hk
    · exact hcl i k hk
    · cases hk⟩
set_option linter.unusedSimpArgs false in
set_option linter.unusedVariables false in
set_option maxRecDepth 100000 in
set_option maxHeartbeats 8000000 in
theorem alike_walk (ka kb : BitVec 64) (A : Option Addr) (n c : Nat) (l : List Pr) (turn : Int) (w : World) (h : RP w (fun _ => True) A n l) (hz : ∀ k ∈ l, k.1.size ≤ 140737488351232 ∧ k.2.size ≤ 140737488351232) :
    Calls Try.prog 6 #[.agg #[.int .u64 (ka.toNat : Int), .int .u64 (kb.toNat : Int)], .slice A n c, .int .i64 turn] w fun e w' => e = .returned (.bool true) ∧ Below w.heap.size w w' := by
  have hbd := h.bd
  have HL := Kp.mk h.len
  have H := Kp.mk h
  have HZ := Kp.mk hz
  clear h hz
  go_enter Try.func6, Try.ntmps6
  go_upto_region 1 with fail
  refine wp_on (fun wx => Sd ka kb w.heap.size wx ∧ Below w.heap.size w wx) ⟨blk_new _ _, (Below.refl _ _).alloc (Nat.le_refl _) _⟩ (fun w1 hx => ?_)
  obtain ⟨e1, hb1⟩ := hx
  obtain ⟨X, hX⟩ : ∃ X, X = w.heap.size := ⟨_, rfl⟩
  rw [← hX] at e1
  have HX := Kp.mk hX
  rw [← hX]
  clear hX
  have E1 := Kp.mk e1
  have B1 := Kp.mk hb1
  clear e1 hb1
  go_wp2_with fail
  have hnew := blk_new w1 (.cells #[.slice A n c, .slice A n c] 88)
  have hbn : Below w1.heap.size w1 (w1.alloc (.cells #[.slice A n c, .slice A n c] 25)) := (Below.refl _ _).alloc (Nat.le_refl _) _
  refine (short_any w1.heap.size 2 (fun _ => A) (fun _ => n) (fun _ => c) (fun _ => l) _ (fun _ => True) (by omega) (fun _ _ => (H.it.below B1.it).below hbn) (fun k hk => ?_) (by simp)).mono ?_
  · match k, hk with
    | 0, _ => exact blk_cell (blk_new _ _) rfl
    | 1, _ => exact blk_cell (blk_new _ _) rfl
    | k + 2, h => omega
  rintro e w2 ⟨r, rfl, hr, hb2⟩
  have hb : Below w1.heap.size w1 w2 := hbn.trans (hb2.mono (by simp))
  have B2 := Kp.mk hb
  clear hb hb2 hnew hbn
  cases r with
  | false =>
    clear hr
    go_wp2_with (go_at_call 12; refine (awake_any _).mono ?_; rintro e w' ⟨rfl, hb'⟩)
    go_ret
    exact ⟨rfl, (B1.it.trans (B2.it.mono B1.it.size)).trans (hb'.mono (Nat.le_trans B1.it.size B2.it.size))⟩
  | true =>
    have HOK : Kp (okL l) := ⟨hr rfl 0 (by omega)⟩
    have hn1 : n ≤ 1000 := by rw [← HL.it]; have := HOK.it.1; omega
    have HSZ : Kp (∀ p ∈ l, p.1.size + p.2.size ≤ 140737488351232) := ⟨fun p hp => HOK.it.sum hp (HZ.it p hp).1 (HZ.it p hp).2⟩
    clear hr
    have HI2 := Kp.mk ((H.it.below B1.it).below B2.it)
    have BW2 : Kp (Below w.heap.size w w2) := ⟨B1.it.trans (B2.it.mono B1.it.size)⟩
    go_wp2_with fail
    go_at_call 30
    refine (rlist_any A n c l w2 _ HI2.it hn1).mono ?_
    rintro e w3 ⟨v, rfl, hv, hb3⟩
    have HLO : Kp ((ofP l).length ≤ n) := ⟨by have := ofP_len l; rw [HL.it] at this; exact this⟩
    obtain ⟨A7, c7, rfl, hA7, hc7, hR7⟩ := hv.form (by have := HLO.it; omega)
    obtain ⟨n7, hn7⟩ : ∃ m, m = (ofP l).length := ⟨_, rfl⟩
    rw [← hn7] at hc7 hR7 ⊢
    have hn71 : n7 ≤ 1000 := by rw [hn7]; have := HLO.it; omega
    have HN7 := Kp.mk hA7
    have HR7 := Kp.mk hR7
    have HE7 := Kp.mk hn7
    have HI := Kp.mk (HI2.it.below hb3)
    have BW3 : Kp (Below w.heap.size w w3) := ⟨BW2.it.trans (hb3.mono BW2.it.size)⟩
    have B13 : Kp (Below w1.heap.size w1 w3) := ⟨B2.it.trans (hb3.mono B2.it.size)⟩
    clear hv hb3 hA7 hR7 hn7
    obtain ⟨T, hT⟩ : ∃ T : Nat, (T : Int) = IntKind.u64.wrap turn := ⟨(IntKind.u64.wrap turn).toNat, by rw [IntKind.wrap_u64]; omega⟩
    have hTz : IntKind.u64.wrap turn = (T : Int) := hT.symm
    obtain ⟨tq, htq⟩ : ∃ q : Nat, q = T % (n7 + 1) := ⟨_, rfl⟩
    have htq7 : tq ≤ n7 := by rw [htq]; have := Nat.mod_lt T (show 0 < n7 + 1 by omega); omega
    have htqz : (T : Int) % ((n7 : Int) + 1) = (tq : Int) := by rw [htq]; push_cast; rfl
    clear hT htq
    have htqc : tq ≤ c7 := by omega
    have HND : Kp ((if c7 = tq then A7 else Option.map (fun x => x.add (tq * 2)) A7) = none → c7 - tq = 0) := ⟨fun e => by
      have : A7 = none := by
        split at e
        · exact e
        · simpa using e
      rw [HN7.it this]; omega⟩
    obtain ⟨ld, hld⟩ : ∃ ld, ld = (ofP l).drop tq := ⟨_, rfl⟩
    obtain ⟨lt, hlt⟩ : ∃ lt, lt = (ofP l).take tq := ⟨_, rfl⟩
    have HRD0 := HR7.it.drop htq7 hc7
    have HRT0 := HR7.it.take htq7
    rw [← hld] at HRD0
    rw [← hlt] at HRT0
    have HPE : (ld ++ lt).Perm (ofP l) := by
      have h1 : (lt ++ ld) = ofP l := by rw [hlt, hld, List.take_append_drop]
      rw [← h1]
      exact List.perm_append_comm
    have HAG := Kp.mk (ofP_again HPE)
    have HLL : Kp ((ld ++ lt).length ≤ 1000) := ⟨by rw [HPE.length_eq, ← HE7.it]; exact hn71⟩
    have HSD : Kp (∀ p ∈ ld ++ lt, p.1.size + p.2.size ≤ 140737488351232) := ⟨fun p hp => HSZ.it p (ofP_mem l p (HPE.subset hp))⟩
    obtain ⟨AD, hAD⟩ : ∃ AD, AD = (if c7 = tq then A7 else Option.map (fun x => x.add (tq * 2)) A7) := ⟨_, rfl⟩
    rw [← hAD] at HND HRD0
    have HAD := Kp.mk hAD
    have HRD := Kp.mk HRD0
    have HRT := Kp.mk HRT0
    obtain ⟨Y, hY⟩ : ∃ Y, Y = w3.heap.size := ⟨_, rfl⟩
    have HY := Kp.mk hY.symm
    obtain ⟨z0, z1, hx3⟩ := (E1.it.below B13.it).opens
    clear HRD0 HRT0 HPE hld hlt hAD hY
    go_upto_region 5 with fail
    refine wp_region_spo [SpO.ex (.agg #[.int .u64 (ka.toNat : Int), .int .u64 (kb.toNat : Int)]), SpO.ex (.slice A n c), SpO.tr ka kb (ofP l), SpO.ex (.agg #[.int .u64 (ka.toNat : Int), .int .u64 (kb.toNat : Int)]), SpO.ex (.slice A7 n7 c7), SpO.ex (.int .i64 (tq : Int)), SpO.ex (.slice AD (n7 - tq) (c7 - tq)), SpO.any, SpO.ex (.slice A7 n7 c7), SpO.ex (.int .i64 (tq : Int)), SpO.ex (.slice A7 tq c7), SpO.any, SpO.tr ka kb (ofP l), SpO.tr ka kb (ofP l), SpO.tr ka kb (ofP l)] 7 11 36 (fun v w => OwnP w Y v ld) (fun _ v w => ∃ A1 n1 c1, v = .slice A1 n1 c1 ∧ n1 = (ld ++ lt).length ∧ OwnP w Y (.slice A1 n1 c1) (ld ++ lt)) (fun _ _ _ h hs => hs.below h) (fun _ _ _ _ h ⟨A1, n1, c1, e, m, o⟩ => ⟨A1, n1, c1, e, m, o.below h⟩) (by kernel_rfl) (by kernel_rfl) (by kernel_rfl) (by kernel_rfl) (by decide) (by kernel_rfl) (by rfl) ?_ ?_ ?_ ?_
    · intro i o ho hiM hiV a W hbW hG
      match i with
      | 0 =>
        have ho1 := ho
        cases ho
        have t3 : a.tmps.getD 3 undef = .pointer (some ⟨X, 0, none⟩) := hG.old 3 (by decide)
        have q0 := (hbW.cell (p := ⟨X, 0, none⟩) hx3).trans z0
        have q1 := (hbW.cell (p := ⟨X, 1, none⟩) hx3).trans z1
        exact op_value_g (w1 := W) ho1 (wanted_none rfl) (.agg #[.int .u64 (ka.toNat : Int), .int .u64 (kb.toNat : Int)]) (by simp [go_sem, Act.eval, -Array.getD_eq_getD_getElem?, t3, q0, q1]) (Gr.refl _) rfl
      | 1 =>
        have ho1 := ho
        cases ho
        have t1 : a.tmps.getD 1 undef = .slice A n c := hG.old 1 (by decide)
        exact op_value_g (w1 := W) ho1 (wanted_none rfl) (.slice A n c) (by simp [go_sem, Act.eval, -Array.getD_eq_getD_getElem?, t1]) (Gr.refl _) rfl
      | 2 =>
        have ho1 := ho
        cases ho
        have t29 : a.tmps.getD 29 undef = .agg #[.int .u64 (ka.toNat : Int), .int .u64 (kb.toNat : Int)] := hG.dep 0 (by decide) (fun e => by cases e) 29 rfl
        have t30 : a.tmps.getD 30 undef = .slice A n c := hG.dep 1 (by decide) (fun e => by cases e) 30 rfl
        refine op_call_g ho1 (wanted_none rfl) 14 #[.agg #[.int .u64 (ka.toNat : Int), .int .u64 (kb.toNat : Int)], .slice A n c] (by simp [go_sem, Act.eval, -Array.getD_eq_getD_getElem?, t29, t30]) ?_
        refine (of_s ka kb A n c l W _ (HI.it.below hbW) hn1 HSZ.it).mono ?_
        rintro e W' ⟨t, rfl, ht, _, hb'⟩
        exact ⟨_, rfl, hb', t, rfl, ht.relax (fun b (hb : W.heap.size ≤ b) _ hu => by have := hG.ub b hu; omega)⟩
      | 3 =>
        have ho1 := ho
        cases ho
        have t3 : a.tmps.getD 3 undef = .pointer (some ⟨X, 0, none⟩) := hG.old 3 (by decide)
        have q0 := (hbW.cell (p := ⟨X, 0, none⟩) hx3).trans z0
        have q1 := (hbW.cell (p := ⟨X, 1, none⟩) hx3).trans z1
        exact op_value_g (w1 := W) ho1 (wanted_none rfl) (.agg #[.int .u64 (ka.toNat : Int), .int .u64 (kb.toNat : Int)]) (by simp [go_sem, Act.eval, -Array.getD_eq_getD_getElem?, t3, q0, q1]) (Gr.refl _) rfl
      | 4 =>
        have ho1 := ho
        cases ho
        have t7 : a.tmps.getD 7 undef = .slice A7 n7 c7 := hG.old 7 (by decide)
        exact op_value_g (w1 := W) ho1 (wanted_none rfl) (.slice A7 n7 c7) (by simp [go_sem, Act.eval, -Array.getD_eq_getD_getElem?, t7]) (Gr.refl _) rfl
      | 5 =>
        have ho1 := ho
        cases ho
        have t2 : a.tmps.getD 2 undef = .int .i64 (tq : Int) := hG.old 2 (by decide)
        exact op_value_g (w1 := W) ho1 (wanted_none rfl) (.int .i64 (tq : Int)) (by simp [go_sem, Act.eval, -Array.getD_eq_getD_getElem?, t2]) (Gr.refl _) rfl
      | 6 =>
        have ho1 := ho
        cases ho
        have t33 : a.tmps.getD 33 undef = .slice A7 n7 c7 := hG.dep 4 (by decide) (fun e => by cases e) 33 rfl
        have t34 : a.tmps.getD 34 undef = .int .i64 (tq : Int) := hG.dep 5 (by decide) (fun e => by cases e) 34 rfl
        exact op_value_g (w1 := W) ho1 (wanted_none rfl) (.slice AD (n7 - tq) (c7 - tq)) (by simp [go_sem, Act.eval, -Array.getD_eq_getD_getElem?, t33, t34]; rw [if_pos htq7, ← HAD.it]) (Gr.refl _) rfl
      | 7 => exact absurd rfl hiM
      | 8 =>
        have ho1 := ho
        cases ho
        have t7 : a.tmps.getD 7 undef = .slice A7 n7 c7 := hG.old 7 (by decide)
        exact op_value_g (w1 := W) ho1 (wanted_none rfl) (.slice A7 n7 c7) (by simp [go_sem, Act.eval, -Array.getD_eq_getD_getElem?, t7]) (Gr.refl _) rfl
      | 9 =>
        have ho1 := ho
        cases ho
        have t2 : a.tmps.getD 2 undef = .int .i64 (tq : Int) := hG.old 2 (by decide)
        exact op_value_g (w1 := W) ho1 (wanted_none rfl) (.int .i64 (tq : Int)) (by simp [go_sem, Act.eval, -Array.getD_eq_getD_getElem?, t2]) (Gr.refl _) rfl
      | 10 =>
        have ho1 := ho
        cases ho
        have t37 : a.tmps.getD 37 undef = .slice A7 n7 c7 := hG.dep 8 (by decide) (fun e => by cases e) 37 rfl
        have t38 : a.tmps.getD 38 undef = .int .i64 (tq : Int) := hG.dep 9 (by decide) (fun e => by cases e) 38 rfl
        exact op_value_g (w1 := W) ho1 (wanted_none rfl) (.slice A7 tq c7) (by simp [go_sem, Act.eval, -Array.getD_eq_getD_getElem?, t37, t38]; intro h; exact absurd htqc (by omega)) (Gr.refl _) rfl
      | 11 => exact absurd rfl hiV
      | 12 =>
        have ho1 := ho
        cases ho
        have t32 : a.tmps.getD 32 undef = .agg #[.int .u64 (ka.toNat : Int), .int .u64 (kb.toNat : Int)] := hG.dep 3 (by decide) (fun e => by cases e) 32 rfl
        obtain ⟨A40, n40, c40, t40, m40, o40⟩ : ∃ A1 n1 c1, a.tmps.getD 40 undef = .slice A1 n1 c1 ∧ n1 = (ld ++ lt).length ∧ OwnP W Y (.slice A1 n1 c1) (ld ++ lt) := hG.dep 11 (by decide) (fun e => by cases e) 40 rfl
        refine op_call_g ho1 (wanted_none rfl) 14 #[.agg #[.int .u64 (ka.toNat : Int), .int .u64 (kb.toNat : Int)], .slice A40 n40 c40] (by simp [go_sem, Act.eval, -Array.getD_eq_getD_getElem?, t32, t40]) ?_
        have hn40 : n40 ≤ 1000 := by rw [m40]; exact HLL.it
        obtain ⟨A', c', hv, _, _, hr'⟩ := o40.form (by have := HLL.it; omega)
        injection hv with hA hn hc
        subst hA
        subst hc
        rw [← hn] at hr'
        refine (of_s ka kb A40 n40 c40 (ld ++ lt) W _ hr' hn40 HSD.it).mono ?_
        rintro e W' ⟨t, rfl, ht, _, hb'⟩
        rw [HAG.it] at ht
        exact ⟨_, rfl, hb', t, rfl, ht.relax (fun b (hb : W.heap.size ≤ b) _ hu => by have := hG.ub b hu; omega)⟩
      | 13 =>
        have ho1 := ho
        cases ho
        obtain ⟨b31, t31, r31⟩ : (SpO.tr ka kb (ofP l)).p (a.tmps.getD 36 undef) (a.tmps.getD 31 undef) W := hG.dep 2 (by decide) (fun e => by cases e) 31 rfl
        exact op_value_g (w1 := W) ho1 (wanted_none rfl) (.pointer (some ⟨b31, 0, none⟩)) (by simp [go_sem, Act.eval, -Array.getD_eq_getD_getElem?, t31]) (Gr.refl _) ⟨b31, rfl, r31⟩
      | 14 =>
        have ho1 := ho
        cases ho
        obtain ⟨b41, t41, r41⟩ : (SpO.tr ka kb (ofP l)).p (a.tmps.getD 36 undef) (a.tmps.getD 41 undef) W := hG.dep 12 (by decide) (fun e => by cases e) 41 rfl
        exact op_value_g (w1 := W) ho1 (wanted_none rfl) (.pointer (some ⟨b41, 0, none⟩)) (by simp [go_sem, Act.eval, -Array.getD_eq_getD_getElem?, t41]) (Gr.refl _) ⟨b41, rfl, r41⟩
      | q + 15 => cases ho
    · intro o ho a W hbW hG
      have ho1 := ho
      cases ho
      have t35 : a.tmps.getD 35 undef = .slice AD (n7 - tq) (c7 - tq) := hG.dep 6 (by decide) (fun e => by cases e) 35 rfl
      have t35' := t35
      refine op_call_g ho1 (wanted_none rfl) 31 #[.slice AD (n7 - tq) (c7 - tq)] (by simp [go_sem, Act.eval, -Array.getD_eq_getD_getElem?, t35]) ?_
      refine (clonel_any AD (n7 - tq) (c7 - tq) ld W _ (HRD.it.below hbW) HND.it (by omega)).mono ?_
      rintro e W' ⟨v, rfl, hv, hb'⟩
      exact ⟨v, rfl, hb', fun b hb => by rw [hv.ownOf] at hb; exact hv.lt b hb, hv.relax (HY.it ▸ hbW.size)⟩
    · intro o ho a W hbW hG
      have ho1 := ho
      cases ho
      have hPM : OwnP W Y (a.tmps.getD 36 undef) ld := hG.dep 7 (by decide) (fun _ => rfl) 36 rfl
      have t39 : a.tmps.getD 39 undef = .slice A7 tq c7 := hG.dep 10 (by decide) (fun e => by cases e) 39 rfl
      obtain ⟨u, hu⟩ : ∃ u, u = a.tmps.getD 36 undef := ⟨_, rfl⟩
      rw [← hu] at hPM ⊢
      obtain ⟨v1, w1, hr, h1, h2⟩ := run_ls Y u ld _ A7 tq c7 lt 54 hPM (HRT.it.below hbW) HN7.it (HY.it ▸ hbW.size) (by have := HLL.it; rw [List.length_append] at this; omega)
      obtain ⟨A', c', hv, _, _, _⟩ := h1.form (by have := HLL.it; omega)
      subst hv
      refine op_val_any ho1 rfl (v := .slice A' (ld ++ lt).length c') (w1 := w1) (by simp [execOp, resolve, invoke, builtin, Act.eval, -Array.getD_eq_getD_getElem?, ← hu, t39, hr, Result.andThen]) ?_
      exact ⟨_, rfl, below_ownP (B := w3.heap.size) hbW hbW.size hPM (Nat.le_of_eq HY.it) h2, by rw [hPM.ownOf]; exact h2, _, _, _, rfl, rfl, h1⟩
    · intro a W hbW hD
      have hfr := hD.done.frame [29, 30, 31, 32, 33, 34, 35, 36, 37, 38, 39, 40, 41, 8, 9] (by kernel_rfl)
      obtain ⟨b8, t8, r8⟩ : (SpO.tr ka kb (ofP l)).p (a.tmps.getD 36 undef) (a.tmps.getD 8 undef) W := hD.sp 13 (by decide) (by decide) 8 rfl
      obtain ⟨b9, t9, r9⟩ : (SpO.tr ka kb (ofP l)).p (a.tmps.getD 36 undef) (a.tmps.getD 9 undef) W := hD.sp 14 (by decide) (by decide) 9 rfl
      simp only [List.foldl_cons, List.foldl_nil] at hfr
      rw [t8, t9] at hfr
      have r8' := r8.any
      have r9' := r9.any
      clear r8 r9
      generalize a.tmps.getD 29 undef = u29 at hfr
      generalize a.tmps.getD 30 undef = u30 at hfr
      generalize a.tmps.getD 31 undef = u31 at hfr
      generalize a.tmps.getD 32 undef = u32 at hfr
      generalize a.tmps.getD 33 undef = u33 at hfr
      generalize a.tmps.getD 34 undef = u34 at hfr
      generalize a.tmps.getD 35 undef = u35 at hfr
      generalize a.tmps.getD 36 undef = u36 at hfr
      generalize a.tmps.getD 37 undef = u37 at hfr
      generalize a.tmps.getD 38 undef = u38 at hfr
      generalize a.tmps.getD 39 undef = u39 at hfr
      generalize a.tmps.getD 40 undef = u40 at hfr
      generalize a.tmps.getD 41 undef = u41 at hfr
      rw [hfr]
      clear hfr hD t8 t9
      have HBW := Kp.mk hbW
      clear hbW
      simp only [Act.put, List.setIfInBounds_toArray, List.set_cons_succ, List.set_cons_zero]
      have BW5 : Kp (Below w.heap.size w W) := ⟨BW3.it.trans (HBW.it.mono BW3.it.size)⟩
      have T8 := Kp.mk r8'
      have T9 := Kp.mk r9'
      clear r8' r9' z0 z1 hx3 HBW
      obtain ⟨l', hl'⟩ : ∃ l', l' = ofP l := ⟨_, rfl⟩
      rw [← hl'] at T8 T9 HE7
      have HL' : Kp (l'.length ≤ 1000) := ⟨by rw [← HE7.it]; exact hn71⟩
      clear hl'
      go_wp2_with fail
      go_at_call 13
      refine (unlike2_any ka kb l' l' b8 b9 W T8.it T9.it HL'.it HL'.it).mono ?_
      rintro e w6 ⟨v, rfl, hv, hb6⟩
      rw [difK_same, sortS_nil] at hv
      obtain ⟨A10, c10, rfl, _, _, _⟩ := hv.form (by simp)
      have hD1 : ((1 + difD ka kb 4 l' l' : Nat) : Int) = 1 := by rw [difD_same]; rfl
      have hP1 : ((difP ka kb 4 l' l' : Nat) : Int) = 0 := by rw [difP_same]; rfl
      rw [hD1, hP1]
      have hl0 : ([] : List ByteArray).length = 0 := rfl
      rw [hl0]
      have B6 := Kp.mk hb6
      clear hv hb6 hD1 hP1 hl0
      go_upto_region 7 with fail
      refine wp_on (fun wx => wx.heap[w6.heap.size]? = some (.cells #[.int .i64 1, .int .i64 0] 30 (0, 0)) ∧ Below w6.heap.size w6 wx) ⟨by first | exact blk_new _ _ | (rw [blk_set _ (blk_new _ _)]; rfl) | (rw [blk_set _ (blk_set _ (blk_new _ _))]; rfl), by first | exact (Below.refl _ _).alloc (Nat.le_refl _) _ | exact ((Below.refl _ _).alloc (Nat.le_refl _) _).setCell (Nat.le_refl _) _ | exact (((Below.refl _ _).alloc (Nat.le_refl _) _).setCell (Nat.le_refl _) _).setCell (Nat.le_refl _) _⟩ (fun w7 hx => ?_)
      obtain ⟨h7, hb7⟩ := hx
      have E7 := Kp.mk h7
      have B7 := Kp.mk (B6.it.trans (hb7.mono B6.it.size))
      obtain ⟨Z, hZ⟩ : ∃ Z, Z = w6.heap.size := ⟨_, rfl⟩
      rw [← hZ] at E7 ⊢
      clear h7 hb7 hZ
      obtain ⟨U, hU⟩ : ∃ U : Int, U = ((digU ka kb 4 l').toNat : Int) := ⟨_, rfl⟩
      have HU := Kp.mk hU
      clear hU
      go_wp2_with fail
      go_at_call 27
      refine (root_any (T8.it.below B7.it)).mono ?_
      rintro e w8 ⟨rfl, hb8⟩
      rw [← HU.it]
      have C8 := Kp.mk hb8
      clear hb8
      go_wp2_with fail
      go_at_call 27
      refine (root_any ((T9.it.below B7.it).below C8.it)).mono ?_
      rintro e w9 ⟨rfl, hb9⟩
      rw [← HU.it]
      have huu : (U == U) = true := by simp
      have C9 := Kp.mk (C8.it.trans (hb9.mono C8.it.size))
      clear hb9
      go_wp2_with fail
      go_at_call 29
      refine (len_any ((T8.it.below B7.it).below C9.it)).mono ?_
      rintro e wa ⟨rfl, hba⟩
      rw [← HE7.it]
      have Ca := Kp.mk (C9.it.trans (hba.mono C9.it.size))
      clear hba
      go_wp2_with fail
      go_at_call 29
      refine (len_any ((T9.it.below B7.it).below Ca.it)).mono ?_
      rintro e wb ⟨rfl, hbb⟩
      rw [← HE7.it]
      have hnn : ((n7 : Int) == (n7 : Int)) = true := by simp
      have Cb := Kp.mk (Ca.it.trans (hbb.mono Ca.it.size))
      have Eb : Kp (wb.heap[Z]? = some (.cells #[.int .i64 1, .int .i64 0] 30 (0, 0))) := ⟨(Cb.it.block _ (Array.getElem?_eq_some_iff.1 E7.it).1).trans E7.it⟩
      have y0 : wb.cell? ⟨Z, 0, none⟩ = some (.int .i64 1) := blk_cell Eb.it rfl
      have y1 : wb.cell? ⟨Z, 1, none⟩ = some (.int .i64 0) := blk_cell Eb.it rfl
      have hyl := (Array.getElem?_eq_some_iff.1 Eb.it).1
      have BWb : Kp (Below w.heap.size w wb) := ⟨BW5.it.trans ((B7.it.trans (Cb.it.mono B7.it.size)).mono BW5.it.size)⟩
      clear hbb
      go_wp2_with (go_at_call 12; refine (awake_any _).mono ?_; rintro e w' ⟨rfl, hb'⟩)
      go_ret
      exact ⟨rfl, BWb.it.trans (hb'.mono BWb.it.size)⟩

set_option linter.unusedVariables false in
set_option maxRecDepth 100000 in
theorem digestAlike_lifted (os : Os) (started : os.Started) (H : Type) (enc : TypeId × Value → H) :
    ReturnsInHanded {} Try.checked os 6 .any (Rows.digestAlikeSpec.pre6 enc Try.prog Try.f6 Rows.digestAlikeRow.domain false) (Rows.digestAlikeSpec.post enc Try.prog Try.f6 false true false false) := by
  refine returnsInHanded_of_change_sized (C := Try.checked) (by kernel_rfl) started (by kernel_rfl) Try.func6
    (ChangeSpec.witness6 (enc := enc) (C := Try.checked) false ⟨#[], #[.agg #[.int .u64 0, .int .u64 0], .slice none 0 0, .int .i64 0], []⟩ 8 (by kernel_rfl) (by kernel_rfl) (by kernel_rfl) (by kernel_rfl)) ?_
  intro W base args ds gs before hval0 hW hcnd hsz0 _
  have hval : ∀ (j : Nat) t v, Try.f6.params[j]? = some t → args[j]? = some v → Value.okWide Try.prog W .any base t v := hval0
  have hW' := hW
  obtain ⟨p, q, hA0, hV, rfl, hfz, hnd⟩ := hW
  have hA : DataW.TrodAll enc Try.prog W 0 (fun _ => true) true Try.f6.params.toList args.toList ds p := hA0
  have hsz : (DataW.weightsEach Try.prog (Try.f6.params.toList ++ Rows.digestAlikeSpec.plain.varTypes Try.prog) (ds ++ gs)).all (· ≤ reachBytes) = true := hsz0
  rw [Try.params6] at hA hval hsz
  obtain ⟨v0, vs0, d0, ds0, p0, q0, hargs, rfl, rfl, h0, r0⟩ := trodAll_cons hA
  obtain ⟨v1, vs1, d1, ds1, p1, q1, rfl, rfl, rfl, h1, r1⟩ := trodAll_cons r0
  obtain ⟨v2, vs2, d2, ds2, p2, q2, rfl, rfl, rfl, h2, r2⟩ := trodAll_cons r1
  obtain ⟨rfl, rfl, rfl⟩ := trodAll_nil r2
  obtain rfl : args = #[v0, v1, v2] := by cases args; simp_all
  obtain ⟨rfl, rfl⟩ := trodVars_none hV
  have k0 := h0
  have lt0 : ∀ x ∈ p0, x.block < W.heap.size := by obtain ⟨m, hm⟩ := k0; exact DataW.trod_lt m _ _ _ hm
  obtain ⟨ka0, kb0, rfl⟩ := seed_open (hval 0 24 v0 rfl rfl) h0
  have k1 := h1
  have lt1 : ∀ x ∈ p1, x.block < W.heap.size := by obtain ⟨m, hm⟩ := k1; exact DataW.trod_lt m _ _ _ hm
  obtain ⟨A1, n1, c1, ks1, rfl, ra1, ea1, bd1, nc1, bs1⟩ := prs_open (hval 1 25 v1 rfl rfl) h1 (fun x hx => by simpa using List.all_eq_true.1 hsz x (DataW.weights_mem_each (j := 1) (t := 25) rfl rfl x hx))
  have k2 := h2
  have lt2 : ∀ x ∈ p2, x.block < W.heap.size := by obtain ⟨m, hm⟩ := k2; exact DataW.trod_lt m _ _ _ hm
  obtain ⟨a2, rfl, rfl, rfl, w2⟩ := open_int Try.underlying3 (hval 2 3 v2 rfl rfl) h2
  clear hA0 hval0 hsz hsz0
  refine (alike_walk ka0 kb0 A1 n1 c1 ks1 a2 W ra1 bs1).mono fun e W' ⟨he, bel⟩ => ?_
  subst he
  exact ⟨_, rfl, _, _, _, [], _, [], hW', trodAll_mk1 (shut_bool Try.underlying4 _), (trodAll_cons_mk (Below.trod (by kernel_rfl) (by kernel_rfl) (of_decide_eq_true (by kernel_rfl)) k0 bel lt0) (trodAll_cons_mk (Below.trod (by kernel_rfl) (by kernel_rfl) (of_decide_eq_true (by kernel_rfl)) k1 bel lt1) (trodAll_cons_mk (shut_int Try.underlying3 w2) trodAll_mk0))), rfl, bel.frame _, fun h => by cases h⟩

theorem DigestAlike_holds : Rows.DigestAlikeSaid :=
  OpenClaim.holds_of_wide 6 Try.f6 rfl rfl rfl rfl rfl rfl rfl ⟨rfl, rfl, rfl, rfl, rfl⟩ rfl rfl rfl rfl rfl (by kernel_rfl) Try.func6 (by kernel_rfl)
    (of_decide_eq_true (by kernel_rfl)) (by unfold Func.isWrapper; first | (rw [if_pos (by decide +kernel)]; kernel_rfl) | (rw [if_neg (by decide +kernel)]; exact ⟨rfl, rfl⟩))
    (fun os started H enc _ => digestAlike_lifted os started H enc)
end Go.Proofs.Ytcmkjoepndbicaa
