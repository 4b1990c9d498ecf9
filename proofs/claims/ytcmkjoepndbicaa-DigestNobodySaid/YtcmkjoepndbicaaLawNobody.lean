/-
  DigestNobody: a tree that no call made, and seeds that are unlike.
-/
import Derived.Test.YtcmkjoepndbicaaNob
namespace Go.Proofs.Ytcmkjoepndbicaa
open Go.ChangeShapes Go.WideShapes Go.ChangeAt Go.RowKit

set_option linter.unusedSimpArgs false in
set_option linter.unusedVariables false in
set_option maxRecDepth 100000 in
set_option maxHeartbeats 8000000 in
theorem nobody_walk (ka kb kc kd : BitVec 64) (Ap : Option Addr) (m cp : Nat) (path : List Int) (w : World) (P : Rd w Ap m path) :
    Calls Try.prog 8 #[.agg #[.int .u64 (ka.toNat : Int), .int .u64 (kb.toNat : Int)], .agg #[.int .u64 (kc.toNat : Int), .int .u64 (kd.toNat : Int)], .slice Ap m cp] w fun e w' => e = .returned (.bool true) ∧ Below w.heap.size w w' := by
  have hpd := P.bd
  clear P
  go_enter Try.func8, Try.ntmps8
  go_upto_region 1 with fail
  refine wp_on (fun wx => Sd ka kb w.heap.size wx ∧ Sd kc kd (w.heap.size + 1) wx ∧ Below w.heap.size w wx ∧ wx.heap.size = w.heap.size + 2) ⟨blk_old _ (blk_new _ _), blk_new1 _ _ _, ((Below.refl _ _).alloc (Nat.le_refl _) _).alloc (by simp) _, by simp⟩ (fun w1 hx => ?_)
  obtain ⟨e1, e2, hb1, hsz⟩ := hx
  obtain ⟨X, hX⟩ : ∃ X, X = w.heap.size := ⟨_, rfl⟩
  rw [← hX] at e1 e2 hsz
  have HX := Kp.mk hX
  rw [← hX]
  clear hX
  have E1 := Kp.mk e1
  have E2 := Kp.mk e2
  have B1 := Kp.mk hb1
  have Z1 := Kp.mk hsz
  clear e1 e2 hb1 hsz
  by_cases hm10 : 10 < m
  · have hd10 : decide ((10 : Int) < (m : Int)) = true := by simp; omega
    go_wp2_with (go_at_call 12; refine (awake_any _).mono ?_; rintro e w' ⟨rfl, hb'⟩)
    go_ret
    exact ⟨rfl, B1.it.trans (hb'.mono B1.it.size)⟩
  · have hd10 : decide ((10 : Int) < (m : Int)) = false := by rw [decide_eq_false_iff_not]; omega
    obtain ⟨z0, z1, hx1⟩ := E1.it.opens
    go_wp2_with fail
    go_at_call 14
    refine (of_any ka kb none 0 0 [] w1 (fun _ => True) (RP.nil _ _ _) (by omega) (fun p hp => by cases hp)).mono ?_
    rintro e w2 ⟨t, rfl, ht, _, hb2⟩
    rw [ofP0] at ht
    have TM := Kp.mk ht
    have B2 : Kp (Below w.heap.size w w2) := ⟨B1.it.trans (hb2.mono B1.it.size)⟩
    have E1' := Kp.mk (E1.it.below hb2)
    have E2' := Kp.mk (E2.it.below hb2)
    clear ht hb2 z0 z1 hx1
    go_upto_region 5 with fail
    refine wp_on (fun wx => DeadV (.pointer (some ⟨w2.heap.size, 0, none⟩)) wx ∧ wx.heap[w2.heap.size + 1]? = some (.cells #[.pointer none, .pointer (some ⟨w2.heap.size, 0, none⟩)] 34 (0, 0)) ∧ Below w2.heap.size w2 wx) ⟨.inr ⟨_, rfl, blk_old _ (blk_new _ _)⟩, blk_new1 _ _ _, ((Below.refl _ _).alloc (Nat.le_refl _) _).alloc (by simp) _⟩ (fun w3 hx => ?_)
    obtain ⟨hd3, hs3, hb3⟩ := hx
    have D3 := Kp.mk hd3
    have S3 := Kp.mk hs3
    have B3 : Kp (Below w.heap.size w w3) := ⟨B2.it.trans (hb3.mono B2.it.size)⟩
    have TM1 := Kp.mk (TM.it.below hb3)
    have E1'' := Kp.mk (E1'.it.below hb3)
    have E2'' := Kp.mk (E2'.it.below hb3)
    obtain ⟨Z, hZ⟩ : ∃ Z, Z = w2.heap.size := ⟨_, rfl⟩
    rw [← hZ] at D3 S3 ⊢
    clear hd3 hs3 hb3 hZ
    go_wp2
    go_loopw [30] (fun i wr => ∃ k : Nat, k ≤ 2 ∧ i = .int .i64 k ∧ Kp (Below w3.heap.size w3 wr)) (fun i _ => 2 - (intOf i).toNat)
    case atStart => exact ⟨0, by omega, rfl, ⟨Below.refl _ _⟩⟩
    case round =>
      obtain ⟨k, hk, rfl, HB⟩ := hrel
      have BW : Kp (Below w.heap.size w wr) := ⟨B3.it.trans (HB.it.mono B3.it.size)⟩
      by_cases hk2 : k < 2
      · have hd : decide ((k : Int) < 2) = true := by simp; omega
        have hkz : (k : Int) < 2 := by omega
        have S4 : Kp (wr.heap[Z + 1]? = some (.cells #[.pointer none, .pointer (some ⟨Z, 0, none⟩)] 34 (0, 0))) := ⟨(HB.it.block _ (Array.getElem?_eq_some_iff.1 S3.it).1).trans S3.it⟩
        obtain ⟨v, hv, hdv⟩ : ∃ v, wr.cell? ⟨Z + 1, k, none⟩ = some v ∧ DeadV v wr := by
          match k, hk2 with
          | 0, _ => exact ⟨_, blk_cell S4.it rfl, .inl rfl⟩
          | 1, _ => exact ⟨_, blk_cell S4.it rfl, D3.it.below HB.it⟩
          | k + 2, h => omega
        have hl4 := (Array.getElem?_eq_some_iff.1 S4.it).1
        have DV := Kp.mk hdv
        clear hdv
        obtain ⟨wo, rfl⟩ : ∃ wo : World, wo = wr := ⟨_, rfl⟩
        go_wp2_with fail
        go_at_call 32
        refine (parts_dead v Ap m cp wo DV.it).mono ?_
        rintro e w4 ⟨rfl, hb4⟩
        have B4 := Kp.mk hb4
        clear hb4 hv hl4
        go_wp2_with fail
        go_at_call 34
        refine (pairs_dead v Ap m cp w4 (DV.it.below B4.it)).mono ?_
        rintro e w5 ⟨rfl, hb5⟩
        have B5 := Kp.mk (B4.it.trans (hb5.mono B4.it.size))
        clear hb5
        go_wp2_with fail
        go_at_call 13
        refine (unlike_dead v t w5 (DV.it.below B5.it)).mono ?_
        rintro e w6 ⟨rfl, hb6⟩
        have B6 := Kp.mk (B5.it.trans (hb6.mono B5.it.size))
        clear hb6
        go_upto_region 10 with fail
        refine wp_on (fun wx => wx.heap[w6.heap.size]? = some (.cells #[.int .i64 0, .int .i64 0] 30 (0, 0)) ∧ Below w6.heap.size w6 wx) ⟨by first | exact blk_new _ _ | (rw [blk_set _ (blk_set _ (blk_new _ _))]; rfl), by first | exact (Below.refl _ _).alloc (Nat.le_refl _) _ | exact (((Below.refl _ _).alloc (Nat.le_refl _) _).setCell (Nat.le_refl _) _).setCell (Nat.le_refl _) _⟩ (fun w7 hx => ?_)
        obtain ⟨h7, hb7⟩ := hx
        have E7 := Kp.mk h7
        have B7 := Kp.mk (B6.it.trans (hb7.mono B6.it.size))
        obtain ⟨Y, hY⟩ : ∃ Y, Y = w6.heap.size := ⟨_, rfl⟩
        rw [← hY] at E7 ⊢
        clear h7 hb7 hY
        go_wp2_with fail
        go_at_call 27
        refine (root_dead v w7 (DV.it.below B7.it)).mono ?_
        rintro e w8 ⟨rfl, hb8⟩
        have B8 := Kp.mk hb8
        have hq0 : ((0 : Int) != 0) = false := by decide
        clear hb8
        go_wp2_with fail
        go_at_call 29
        refine (len_dead v w8 (DV.it.below (B7.it.trans (B8.it.mono B7.it.size)))).mono ?_
        rintro e w9 ⟨rfl, hb9⟩
        have B9 : Kp (Below w7.heap.size w7 w9) := ⟨B8.it.trans (hb9.mono B8.it.size)⟩
        have E9 : Kp (w9.heap[Y]? = some (.cells #[.int .i64 0, .int .i64 0] 30 (0, 0))) := ⟨(B9.it.block _ (Array.getElem?_eq_some_iff.1 E7.it).1).trans E7.it⟩
        have HB9 : Kp (Below w3.heap.size w3 w9) := ⟨HB.it.trans ((B7.it.trans (B9.it.mono B7.it.size)).mono HB.it.size)⟩
        have y0 : w9.cell? ⟨Y, 0, none⟩ = some (.int .i64 0) := blk_cell E9.it rfl
        have y1 : w9.cell? ⟨Y, 1, none⟩ = some (.int .i64 0) := blk_cell E9.it rfl
        have hyl := (Array.getElem?_eq_some_iff.1 E9.it).1
        have h66 : ((6 : Int) != 6) = false := by decide
        clear hb9
        go_wp2
        go_roundw
        case rel => exact ⟨k + 1, by omega, by go_num, HB9⟩
        case measure => simp [intOf]; omega
      · obtain rfl : k = 2 := by omega
        have hd : decide (((2 : Nat) : Int) < 2) = false := by decide
        obtain ⟨y0, y1, hyl⟩ := (E2''.it.below HB.it).opens
        have TMr := Kp.mk (TM1.it.below HB.it)
        go_wp2_with fail
        go_at_call 14
        refine (of_any kc kd none 0 0 [] wr (fun _ => True) (RP.nil _ _ _) (by omega) (fun p hp => by cases hp)).mono ?_
        rintro e wa ⟨t2, rfl, ht2, _, hba⟩
        rw [ofP0] at ht2
        have TM2 := Kp.mk (TMr.it.below hba)
        have T2 := Kp.mk ht2
        have Ba : Kp (Below w.heap.size w wa) := ⟨BW.it.trans (hba.mono BW.it.size)⟩
        have E1a := Kp.mk ((E1''.it.below HB.it).below hba)
        have E2a := Kp.mk ((E2''.it.below HB.it).below hba)
        clear ht2 hba y0 y1 hyl
        go_wp2_with fail
        go_at_call 13
        by_cases hs : ka = kc ∧ kb = kd
        · obtain ⟨rfl, rfl⟩ := hs
          refine (unlike2_any ka kb [] [] t t2 wa TM2.it T2.it (by simp) (by simp)).mono ?_
          rintro e wb ⟨v, rfl, _, hbb⟩
          have Bb : Kp (Below wa.heap.size wa wb) := ⟨hbb⟩
          obtain ⟨D0, hD0⟩ : ∃ d : Int, d = ((1 + difD ka kb 4 [] [] : Nat) : Int) := ⟨_, rfl⟩
          obtain ⟨P0, hP0⟩ : ∃ d : Int, d = ((difP ka kb 4 [] [] : Nat) : Int) := ⟨_, rfl⟩
          rw [← hD0, ← hP0]
          clear hbb hD0 hP0
          go_upto_region 14 with fail
          refine wp_on (fun wx => Below wb.heap.size wb wx) (by first | exact (Below.refl _ _).alloc (Nat.le_refl _) _ | exact (((Below.refl _ _).alloc (Nat.le_refl _) _).setCell (Nat.le_refl _) _).setCell (Nat.le_refl _) _) (fun wc hbc => ?_)
          have Bc : Kp (Below wa.heap.size wa wc) := ⟨Bb.it.trans (hbc.mono Bb.it.size)⟩
          obtain ⟨z0, z1, hzl⟩ := (E1a.it.below Bc.it).opens
          obtain ⟨y0, y1, hyl⟩ := (E2a.it.below Bc.it).opens
          have hk1 : ((ka.toNat : Int) == (ka.toNat : Int)) = true := by simp
          have hk2 : ((kb.toNat : Int) == (kb.toNat : Int)) = true := by simp
          have hBW : Kp (Below w.heap.size w wc) := ⟨Ba.it.trans (Bc.it.mono Ba.it.size)⟩
          clear hbc
          go_wp2_with (go_at_call 12; refine (awake_any _).mono ?_; rintro e w' ⟨rfl, hb'⟩)
          go_ret
          exact ⟨rfl, hBW.it.trans (hb'.mono hBW.it.size)⟩
        · refine (unlike_other ka kb kc kd [] [] t t2 wa TM2.it T2.it hs).mono ?_
          rintro e wb ⟨rfl, hbb⟩
          have Bb : Kp (Below wa.heap.size wa wb) := ⟨hbb⟩
          clear hbb
          go_upto_region 14 with fail
          refine wp_on (fun wx => Below wb.heap.size wb wx) (by first | exact (Below.refl _ _).alloc (Nat.le_refl _) _ | exact (((Below.refl _ _).alloc (Nat.le_refl _) _).setCell (Nat.le_refl _) _).setCell (Nat.le_refl _) _) (fun wc hbc => ?_)
          have Bc : Kp (Below wa.heap.size wa wc) := ⟨Bb.it.trans (hbc.mono Bb.it.size)⟩
          obtain ⟨z0, z1, hzl⟩ := (E1a.it.below Bc.it).opens
          obtain ⟨y0, y1, hyl⟩ := (E2a.it.below Bc.it).opens
          have hBW : Kp (Below w.heap.size w wc) := ⟨Ba.it.trans (Bc.it.mono Ba.it.size)⟩
          obtain ⟨xa, hxa⟩ : ∃ x : Int, x = (ka.toNat : Int) := ⟨_, rfl⟩
          obtain ⟨xb, hxb⟩ : ∃ x : Int, x = (kb.toNat : Int) := ⟨_, rfl⟩
          obtain ⟨xc, hxc⟩ : ∃ x : Int, x = (kc.toNat : Int) := ⟨_, rfl⟩
          obtain ⟨xd, hxd⟩ : ∃ x : Int, x = (kd.toNat : Int) := ⟨_, rfl⟩
          have hor : (xa == xc) = false ∨ ((xa == xc) = true ∧ (xb == xd) = false) := by
            by_cases h1 : ka = kc
            · right
              have h2 : ¬ kb = kd := fun h => hs ⟨h1, h⟩
              refine ⟨by rw [hxa, hxc, h1]; simp, ?_⟩
              rw [beq_eq_false_iff_ne, hxb, hxd]
              intro h
              exact h2 (BitVec.eq_of_toNat_eq (by omega))
            · left
              rw [beq_eq_false_iff_ne, hxa, hxc]
              intro h
              exact h1 (BitVec.eq_of_toNat_eq (by omega))
          rw [← hxa] at z0
          rw [← hxb] at z1
          rw [← hxc] at y0
          rw [← hxd] at y1
          have h10 : ((1 : Int) == 0) = false := by decide
          clear hbc hs hxa hxb hxc hxd
          rcases hor with hq | ⟨hq, hq2⟩
          · go_wp2_with (go_at_call 12; refine (awake_any _).mono ?_; rintro e w' ⟨rfl, hb'⟩)
            go_ret
            exact ⟨rfl, hBW.it.trans (hb'.mono hBW.it.size)⟩
          · go_wp2_with (go_at_call 12; refine (awake_any _).mono ?_; rintro e w' ⟨rfl, hb'⟩)
            go_ret
            exact ⟨rfl, hBW.it.trans (hb'.mono hBW.it.size)⟩

set_option linter.unusedVariables false in
set_option maxRecDepth 100000 in
theorem digestNobody_lifted (os : Os) (started : os.Started) (H : Type) (enc : TypeId × Value → H) :
    ReturnsInHanded {} Try.checked os 8 .any (Rows.digestNobodySpec.pre6 enc Try.prog Try.f8 Rows.digestNobodyRow.domain false) (Rows.digestNobodySpec.post enc Try.prog Try.f8 false true false false) := by
  refine returnsInHanded_of_change_sized (C := Try.checked) (by kernel_rfl) started (by kernel_rfl) Try.func8
    (ChangeSpec.witness6 (enc := enc) (C := Try.checked) false ⟨#[], #[.agg #[.int .u64 0, .int .u64 0], .agg #[.int .u64 0, .int .u64 0], .slice none 0 0], []⟩ 8 (by kernel_rfl) (by kernel_rfl) (by kernel_rfl) (by kernel_rfl)) ?_
  intro W base args ds gs before hval0 hW hcnd hsz0 _
  have hval : ∀ (j : Nat) t v, Try.f8.params[j]? = some t → args[j]? = some v → Value.okWide Try.prog W .any base t v := hval0
  have hW' := hW
  obtain ⟨p, q, hA0, hV, rfl, hfz, hnd⟩ := hW
  have hA : DataW.TrodAll enc Try.prog W 0 (fun _ => true) true Try.f8.params.toList args.toList ds p := hA0
  have hsz : (DataW.weightsEach Try.prog (Try.f8.params.toList ++ Rows.digestNobodySpec.plain.varTypes Try.prog) (ds ++ gs)).all (· ≤ reachBytes) = true := hsz0
  rw [Try.params8] at hA hval hsz
  obtain ⟨v0, vs0, d0, ds0, p0, q0, hargs, rfl, rfl, h0, r0⟩ := trodAll_cons hA
  obtain ⟨v1, vs1, d1, ds1, p1, q1, rfl, rfl, rfl, h1, r1⟩ := trodAll_cons r0
  obtain ⟨v2, vs2, d2, ds2, p2, q2, rfl, rfl, rfl, h2, r2⟩ := trodAll_cons r1
  obtain ⟨rfl, rfl, rfl⟩ := trodAll_nil r2
  obtain rfl : args = #[v0, v1, v2] := by cases args; simp_all
  obtain ⟨rfl, rfl⟩ := trodVars_none hV
  have k0 := h0
  have lt0 : ∀ x ∈ p0, x.block < W.heap.size := by obtain ⟨m, hm⟩ := k0; exact DataW.trod_lt m _ _ _ hm
  obtain ⟨ka0, kb0, rfl⟩ := seed_open (hval 0 24 v0 rfl rfl) h0
  have k1 := h1
  have lt1 : ∀ x ∈ p1, x.block < W.heap.size := by obtain ⟨m, hm⟩ := k1; exact DataW.trod_lt m _ _ _ hm
  obtain ⟨ka1, kb1, rfl⟩ := seed_open (hval 1 24 v1 rfl rfl) h1
  have k2 := h2
  have lt2 : ∀ x ∈ p2, x.block < W.heap.size := by obtain ⟨m, hm⟩ := k2; exact DataW.trod_lt m _ _ _ hm
  obtain ⟨A2, n2, c2, xs2, rfl, ra2, ea2, nc2⟩ := ints_open (hval 2 62 v2 rfl rfl) h2 (fun x hx => by simpa using List.all_eq_true.1 hsz x (DataW.weights_mem_each (j := 2) (t := 62) rfl rfl x hx))
  clear hA0 hval0 hsz hsz0
  refine (nobody_walk ka0 kb0 ka1 kb1 A2 n2 c2 xs2 W ra2).mono fun e W' ⟨he, bel⟩ => ?_
  subst he
  exact ⟨_, rfl, _, _, _, [], _, [], hW', trodAll_mk1 (shut_bool Try.underlying4 _), (trodAll_cons_mk (Below.trod (by kernel_rfl) (by kernel_rfl) (of_decide_eq_true (by kernel_rfl)) k0 bel lt0) (trodAll_cons_mk (Below.trod (by kernel_rfl) (by kernel_rfl) (of_decide_eq_true (by kernel_rfl)) k1 bel lt1) (trodAll_cons_mk (Below.trod (by kernel_rfl) (by kernel_rfl) (of_decide_eq_true (by kernel_rfl)) k2 bel lt2) trodAll_mk0))), rfl, bel.frame _, fun h => by cases h⟩

theorem DigestNobody_holds : Rows.DigestNobodySaid :=
  OpenClaim.holds_of_wide 8 Try.f8 rfl rfl rfl rfl rfl rfl rfl ⟨rfl, rfl, rfl, rfl, rfl⟩ rfl rfl rfl rfl rfl (by kernel_rfl) Try.func8 (by kernel_rfl)
    (of_decide_eq_true (by kernel_rfl)) (by unfold Func.isWrapper; first | (rw [if_pos (by decide +kernel)]; kernel_rfl) | (rw [if_neg (by decide +kernel)]; exact ⟨rfl, rfl⟩))
    (fun os started H enc _ => digestNobody_lifted os started H enc)
end Go.Proofs.Ytcmkjoepndbicaa
