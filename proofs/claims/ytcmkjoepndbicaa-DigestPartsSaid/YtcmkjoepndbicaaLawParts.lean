/-
  DigestParts: the digests, and the pairs, of any part.
-/
import Derived.Test.YtcmkjoepndbicaaPrt
import Derived.Test.YtcmkjoepndbicaaSpk
namespace Go.Proofs.Ytcmkjoepndbicaa
open Go.ChangeShapes Go.WideShapes Go.ChangeAt Go.RowKit

set_option linter.unusedSimpArgs false in
set_option linter.unusedVariables false in
set_option maxRecDepth 100000 in
set_option maxHeartbeats 8000000 in
theorem parts_walk (ka kb : BitVec 64) (A : Option Addr) (n c : Nat) (l : List Pr) (Ap : Option Addr) (m cp : Nat) (path : List Int) (w : World) (h : RP w (fun _ => True) A n l) (hz : ∀ k ∈ l, k.1.size ≤ 140737488351232 ∧ k.2.size ≤ 140737488351232) (P : Rd w Ap m path) (hnil : Ap = none → cp = 0) :
    Calls Try.prog 7 #[.agg #[.int .u64 (ka.toNat : Int), .int .u64 (kb.toNat : Int)], .slice A n c, .slice Ap m cp] w fun e w' => e = .returned (.bool true) ∧ Below w.heap.size w w' := by
  have hbd := h.bd
  have hpd := P.bd
  have HL := Kp.mk h.len
  have H := Kp.mk h
  have HP := Kp.mk P
  have HNL := Kp.mk hnil
  have HZ := Kp.mk hz
  clear h hnil hz P
  go_enter Try.func7, Try.ntmps7
  go_upto_region 1 with fail
  refine wp_on (fun wx => Sd ka kb w.heap.size wx ∧ Below w.heap.size w wx) ⟨blk_new _ _, (Below.refl _ _).alloc (Nat.le_refl _) _⟩ (fun w1 hx => ?_)
  obtain ⟨e1, hb1⟩ := hx
  obtain ⟨X, hX⟩ : ∃ X, X = w.heap.size := ⟨_, rfl⟩
  rw [← hX] at e1
  have HX := Kp.mk hX
  rw [← hX]
  clear hX
  have E1 := Kp.mk e1
  have B1 := Kp.mk hb1
  clear e1 hb1
  go_wp2_with fail
  refine (short_one w1.heap.size A n c l _ (fun _ => True) ((H.it.below B1.it).below ((Below.refl _ _).alloc (Nat.le_refl _) _)) (blk_new _ _)).mono ?_
  rintro e w2 ⟨r, rfl, hr, hb2⟩
  have hb : Below w1.heap.size w1 w2 := ((Below.refl w1.heap.size w1).alloc (Nat.le_refl _) _).trans (hb2.mono (by simp))
  have B2 := Kp.mk hb
  clear hb hb2
  cases r with
  | false =>
    clear hr
    go_wp2_with (go_at_call 12; refine (awake_any _).mono ?_; rintro e w' ⟨rfl, hb'⟩)
    go_ret
    exact ⟨rfl, (B1.it.trans (B2.it.mono B1.it.size)).trans (hb'.mono (Nat.le_trans B1.it.size B2.it.size))⟩
  | true =>
    have HOK := Kp.mk (hr rfl)
    have hn1 : n ≤ 1000 := by rw [← HL.it]; have := HOK.it.1; omega
    have HSZ : Kp (∀ p ∈ l, p.1.size + p.2.size ≤ 140737488351232) := ⟨fun p hp => HOK.it.sum hp (HZ.it p hp).1 (HZ.it p hp).2⟩
    clear hr
    by_cases hm10 : 10 < m
    · have hd10 : decide ((10 : Int) < (m : Int)) = true := by simp; omega
      go_wp2_with (go_at_call 12; refine (awake_any _).mono ?_; rintro e w' ⟨rfl, hb'⟩)
      go_ret
      exact ⟨rfl, (B1.it.trans (B2.it.mono B1.it.size)).trans (hb'.mono (Nat.le_trans B1.it.size B2.it.size))⟩
    · have hd10 : decide ((10 : Int) < (m : Int)) = false := by rw [decide_eq_false_iff_not]; omega
      have HI := Kp.mk ((H.it.below B1.it).below B2.it)
      have BW2 : Kp (Below w.heap.size w w2) := ⟨B1.it.trans (B2.it.mono B1.it.size)⟩
      have HPI := Kp.mk (HP.it.below BW2.it)
      obtain ⟨z0, z1, hx3⟩ := (E1.it.below B2.it).opens
      go_wp2_with fail
      refine wp_region_sp [SpK.ex (.agg #[.int .u64 (ka.toNat : Int), .int .u64 (kb.toNat : Int)]), SpK.ex (.slice A n c), SpK.tr ka kb (fun _ => True) (ofP l), SpK.ex (.agg #[.int .u64 (ka.toNat : Int), .int .u64 (kb.toNat : Int)]), SpK.ex (.slice A n c), SpK.rt ka kb (fun _ => True) (ofP l), SpK.tr ka kb (fun _ => True) (ofP l), SpK.rt ka kb (fun _ => True) (ofP l)] (by kernel_rfl) (by kernel_rfl) ?_ ?_
      · intro i o ho a W hbW hG
        match i with
        | 0 =>
          have ho1 := ho
          cases ho
          have t3 : a.tmps.getD 3 undef = .pointer (some ⟨X, 0, none⟩) := hG.old 3 (by decide)
          have q0 := (hbW.cell (p := ⟨X, 0, none⟩) hx3).trans z0
          have q1 := (hbW.cell (p := ⟨X, 1, none⟩) hx3).trans z1
          exact op_value_g (w1 := W) ho1 (wanted_none rfl) (.agg #[.int .u64 (ka.toNat : Int), .int .u64 (kb.toNat : Int)]) (by simp [go_sem, Act.eval, -Array.getD_eq_getD_getElem?, t3, q0, q1]) (Gr.refl _) rfl
        | 1 =>
          have ho1 := ho
          cases ho
          have t1 : a.tmps.getD 1 undef = .slice A n c := hG.old 1 (by decide)
          exact op_value_g (w1 := W) ho1 (wanted_none rfl) (.slice A n c) (by simp [go_sem, Act.eval, -Array.getD_eq_getD_getElem?, t1]) (Gr.refl _) rfl
        | 2 =>
          have ho1 := ho
          cases ho
          have t29 : a.tmps.getD 29 undef = .agg #[.int .u64 (ka.toNat : Int), .int .u64 (kb.toNat : Int)] := hG.dep 0 (by decide) 29 rfl
          have t30 : a.tmps.getD 30 undef = .slice A n c := hG.dep 1 (by decide) 30 rfl
          refine op_call_g ho1 (wanted_none rfl) 14 #[.agg #[.int .u64 (ka.toNat : Int), .int .u64 (kb.toNat : Int)], .slice A n c] (by simp [go_sem, Act.eval, -Array.getD_eq_getD_getElem?, t29, t30]) ?_
          refine (of_s ka kb A n c l W _ (HI.it.below hbW) hn1 HSZ.it).mono ?_
          rintro e W' ⟨t, rfl, ht, _, hb'⟩
          exact ⟨_, rfl, hb', t, rfl, ht.relax (fun _ _ _ => trivial)⟩
        | 3 =>
          have ho1 := ho
          cases ho
          have t3 : a.tmps.getD 3 undef = .pointer (some ⟨X, 0, none⟩) := hG.old 3 (by decide)
          have q0 := (hbW.cell (p := ⟨X, 0, none⟩) hx3).trans z0
          have q1 := (hbW.cell (p := ⟨X, 1, none⟩) hx3).trans z1
          exact op_value_g (w1 := W) ho1 (wanted_none rfl) (.agg #[.int .u64 (ka.toNat : Int), .int .u64 (kb.toNat : Int)]) (by simp [go_sem, Act.eval, -Array.getD_eq_getD_getElem?, t3, q0, q1]) (Gr.refl _) rfl
        | 4 =>
          have ho1 := ho
          cases ho
          have t1 : a.tmps.getD 1 undef = .slice A n c := hG.old 1 (by decide)
          exact op_value_g (w1 := W) ho1 (wanted_none rfl) (.slice A n c) (by simp [go_sem, Act.eval, -Array.getD_eq_getD_getElem?, t1]) (Gr.refl _) rfl
        | 5 =>
          have ho1 := ho
          cases ho
          have t32 : a.tmps.getD 32 undef = .agg #[.int .u64 (ka.toNat : Int), .int .u64 (kb.toNat : Int)] := hG.dep 3 (by decide) 32 rfl
          have t33 : a.tmps.getD 33 undef = .slice A n c := hG.dep 4 (by decide) 33 rfl
          refine op_call_g ho1 (wanted_none rfl) 16 #[.agg #[.int .u64 (ka.toNat : Int), .int .u64 (kb.toNat : Int)], .slice A n c] (by simp [go_sem, Act.eval, -Array.getD_eq_getD_getElem?, t32, t33]) ?_
          refine (rof_any ka kb A n c l W _ (HI.it.below hbW) hn1).mono ?_
          rintro e W' ⟨t, rfl, ht, _, hb'⟩
          exact ⟨_, rfl, hb', t, rfl, ht.relax (fun _ _ _ => trivial)⟩
        | 6 =>
          have ho1 := ho
          cases ho
          obtain ⟨b31, t31, r31⟩ : (SpK.tr ka kb (fun _ => True) (ofP l)).p (a.tmps.getD 31 undef) W := hG.dep 2 (by decide) 31 rfl
          exact op_value_g (w1 := W) ho1 (wanted_none rfl) (.pointer (some ⟨b31, 0, none⟩)) (by simp [go_sem, Act.eval, -Array.getD_eq_getD_getElem?, t31]) (Gr.refl _) ⟨b31, rfl, r31⟩
        | 7 =>
          have ho1 := ho
          cases ho
          obtain ⟨b34, t34, r34⟩ : (SpK.rt ka kb (fun _ => True) (ofP l)).p (a.tmps.getD 34 undef) W := hG.dep 5 (by decide) 34 rfl
          exact op_value_g (w1 := W) ho1 (wanted_none rfl) (.pointer (some ⟨b34, 0, none⟩)) (by simp [go_sem, Act.eval, -Array.getD_eq_getD_getElem?, t34]) (Gr.refl _) ⟨b34, rfl, r34⟩
        | q + 8 => cases ho
      · intro a W hbW hD
        have hfr := hD.frame [29, 30, 31, 32, 33, 34, 7, 8] (by kernel_rfl)
        have t29 : a.tmps.getD 29 undef = .agg #[.int .u64 (ka.toNat : Int), .int .u64 (kb.toNat : Int)] := hD.sp 0 (by decide) 29 rfl
        have t30 : a.tmps.getD 30 undef = .slice A n c := hD.sp 1 (by decide) 30 rfl
        have t32 : a.tmps.getD 32 undef = .agg #[.int .u64 (ka.toNat : Int), .int .u64 (kb.toNat : Int)] := hD.sp 3 (by decide) 32 rfl
        have t33 : a.tmps.getD 33 undef = .slice A n c := hD.sp 4 (by decide) 33 rfl
        obtain ⟨b7, t7, r7⟩ : (SpK.tr ka kb (fun _ => True) (ofP l)).p (a.tmps.getD 7 undef) W := hD.sp 6 (by decide) 7 rfl
        obtain ⟨b8, t8, r8⟩ : (SpK.rt ka kb (fun _ => True) (ofP l)).p (a.tmps.getD 8 undef) W := hD.sp 7 (by decide) 8 rfl
        simp only [List.foldl_cons, List.foldl_nil] at hfr
        rw [t29, t30, t32, t33, t7, t8] at hfr
        generalize a.tmps.getD 31 undef = u31 at hfr
        generalize a.tmps.getD 34 undef = u34 at hfr
        rw [hfr]
        clear hfr hD t29 t30 t32 t33 t7 t8
        have HBW := Kp.mk hbW
        clear hbW
        simp only [Act.put, List.setIfInBounds_toArray, List.set_cons_succ, List.set_cons_zero]
        have HR1 : Kp (Rise (ofP l)) := ⟨ofP_rise l⟩
        have HL1 : Kp ((ofP l).length ≤ 1000) := ⟨by have := ofP_len l; have := HL.it; omega⟩
        have HS1 : Kp (∀ p ∈ ofP l, p.1.size + p.2.size ≤ 140737488351232) := ⟨fun p hp => HSZ.it p (ofP_mem l p hp)⟩
        have TS3 := Kp.mk r7
        have TR3 := Kp.mk r8
        have BW3 : Kp (Below w.heap.size w W) := ⟨BW2.it.trans (HBW.it.mono BW2.it.size)⟩
        have HP3 := Kp.mk (HPI.it.below HBW.it)
        clear r7 r8 z0 z1 hx3 HBW HPI
        obtain ⟨l', hl'⟩ : ∃ l', l' = ofP l := ⟨_, rfl⟩
        rw [← hl'] at HR1 HL1 HS1 TS3 TR3
        clear hl'
        go_wp2_with fail
        go_at_call 32
        refine (parts_any ka kb (fun _ => True) l' b7 Ap m cp path W TS3.it HP3.it (fun _ _ => trivial)).mono ?_
        intro e w4 hq
        obtain ⟨A9, n9, c9, rfl, hr9, hb4⟩ := hq.get
        have R9 := Kp.mk hr9
        have BW4 : Kp (Below w.heap.size w w4) := ⟨BW3.it.trans (hb4.mono BW3.it.size)⟩
        have TS4 := Kp.mk (TS3.it.below hb4)
        have TR4 := Kp.mk (TR3.it.below hb4)
        have HP4 := Kp.mk (HP3.it.below hb4)
        obtain ⟨e3, he3⟩ : ∃ e3, e3 = errI (okP path 3) := ⟨_, rfl⟩
        obtain ⟨us, hus⟩ : ∃ us, us = if okP path 3 = true then partsU ka kb path l' else [] := ⟨_, rfl⟩
        rw [← he3]
        rw [← hus] at R9
        have HE3 := Kp.mk he3
        have HUS := Kp.mk hus
        clear hq hr9 hb4 he3 hus TS3 TR3 HP3
        go_wp2_with fail
        go_at_call 33
        refine (rparts_any ka kb (fun _ => True) b8 l' HL1.it HS1.it Ap m cp path w4 TR4.it HP4.it HNL.it).mono ?_
        intro e w5 hq
        obtain ⟨A11, n11, c11, rfl, hr11, hb5⟩ := hq.get
        rw [← HE3.it]
        rw [← HUS.it] at hr11
        obtain rfl : n11 = n9 := by rw [← hr11.len, R9.it.len]
        have R11 := Kp.mk hr11
        have R9' := Kp.mk (R9.it.below hb5)
        have BW5 : Kp (Below w.heap.size w w5) := ⟨BW4.it.trans (hb5.mono BW4.it.size)⟩
        have TS5 := Kp.mk (TS4.it.below hb5)
        have TR5 := Kp.mk (TR4.it.below hb5)
        have HP5 := Kp.mk (HP4.it.below hb5)
        clear hq hr11 hb5 TS4 TR4 HP4 R9
        obtain ⟨Z, hZ⟩ : ∃ Z, Z = w5.heap.size := ⟨_, rfl⟩
        have HZ5 := Kp.mk hZ
        clear hZ
        have TSZ : Kp (TreeS ka kb (fun b => b < Z) l' b7 w5) := ⟨TS5.it.relax (fun b _ hb => by rw [HZ5.it]; exact hb)⟩
        have TRZ : Kp (RTr ka kb (fun b => b < Z) l' b8 w5) := ⟨TR5.it.relax (fun b _ hb => by rw [HZ5.it]; exact hb)⟩
        go_wp2_with fail
        go_at_call 34
        refine (pairs_any ka kb (fun _ => True) l' b7 Ap m cp path w5 TS5.it HP5.it (fun _ _ => trivial) HR1.it HL1.it).mono ?_
        intro e w6 hq
        obtain ⟨A13, n13, c13, rfl, ho13, hb6⟩ := hq.get
        obtain ⟨e4, he4⟩ : ∃ e4, e4 = errI (okP path 4) := ⟨_, rfl⟩
        obtain ⟨L, hL⟩ : ∃ L, L = if okP path 4 = true then inP ka kb path l' else [] := ⟨_, rfl⟩
        rw [← he4]
        rw [← hL] at ho13
        have HE4 := Kp.mk he4
        have HLL := Kp.mk hL
        have HL9 : Kp (L.length ≤ 1000) := ⟨by rw [hL]; split; exact Nat.le_trans (inP_le ka kb path l') HL1.it; simp⟩
        obtain ⟨A', c', hv, _, _, hr13⟩ := ho13.form (by have := HL9.it; omega)
        injection hv with hA hn13 hc
        subst hA
        subst hc
        have O13 := Kp.mk ho13
        have BW6 : Kp (Below w.heap.size w w6) := ⟨BW5.it.trans (hb6.mono BW5.it.size)⟩
        have TSZ6 := Kp.mk (TSZ.it.below hb6)
        have TRZ6 := Kp.mk (TRZ.it.below hb6)
        have TR6 := Kp.mk (TR5.it.below hb6)
        have HP6 := Kp.mk (HP5.it.below hb6)
        have R9a := Kp.mk (R9'.it.below hb6)
        have R11a := Kp.mk (R11.it.below hb6)
        have HN13 : Kp (n13 = L.length) := ⟨hn13⟩
        have GV6 : Kp (Gv Z w6.heap.size A13 n13 w6) := ⟨fun h0 => by
          obtain ⟨g, cur, e, _, hg, hh, hs⟩ := ho13.some_ (by omega)
          exact ⟨g, cur, e, by rw [HZ5.it]; exact hg, (Array.getElem?_eq_some_iff.1 hh).1, hh, by rw [hn13]; exact hs⟩⟩
        obtain ⟨Y6, hY6⟩ : ∃ Y, Y = w6.heap.size := ⟨_, rfl⟩
        rw [← hY6] at GV6
        have hn131 : n13 ≤ 1000 := by rw [hn13]; exact HL9.it
        rw [← hn13] at hr13
        have R13 := Kp.mk hr13
        clear hq ho13 hr13 hb6 he4 hL hn13 hY6 TS5 TR5 HP5 R9' R11 TSZ TRZ O13
        go_wp2_with fail
        go_at_call 35
        refine (rpairs_any ka kb (fun _ => True) b8 l' HL1.it (fun p hp => by have := HS1.it p hp; omega) Ap m cp path w6 TR6.it HP6.it).mono ?_
        intro e w7 hq
        obtain ⟨A15, n15, c15, rfl, ho15, hb7⟩ := hq.get
        rw [← HE4.it]
        rw [← HLL.it] at ho15
        obtain ⟨A', c', hv, _, _, hr15⟩ := ho15.form (by have := HL9.it; omega)
        injection hv with hA hn15 hc
        subst hA
        subst hc
        rw [← HN13.it] at hn15 hr15
        subst hn15
        have R15 := Kp.mk hr15
        have BW7 : Kp (Below w.heap.size w w7) := ⟨BW6.it.trans (hb7.mono BW6.it.size)⟩
        have TSZ7 := Kp.mk (TSZ6.it.below hb7)
        have TRZ7 := Kp.mk (TRZ6.it.below hb7)
        have R9b := Kp.mk (R9a.it.below hb7)
        have R11b := Kp.mk (R11a.it.below hb7)
        have R13b := Kp.mk (R13.it.below hb7)
        have GV7 := Kp.mk (GV6.it.below hb7)
        clear hq ho15 hr15 hb7 TSZ6 TRZ6 TR6 HP6 R9a R11a R13 GV6
        have hee3 : (e3 == e3) = true := by simp
        have hee4 : (e4 == e4) = true := by simp
        go_wp2_with fail
        go_at_call 36
        refine (equalw_same A9 A11 n11 c9 c11 us w7 R9b.it R11b.it).mono ?_
        rintro e w8 ⟨rfl, hb8⟩
        have B8 := Kp.mk hb8
        clear hb8
        go_wp2_with fail
        go_at_call 37
        refine (same_same A13 A15 n15 c13 c15 L w8 _ _ (R13b.it.below B8.it) (R15.it.below B8.it)).mono ?_
        rintro e w9 ⟨rfl, hb9⟩
        have B9 : Kp (Below w7.heap.size w7 w9) := ⟨B8.it.trans (hb9.mono B8.it.size)⟩
        have BW9 : Kp (Below w.heap.size w w9) := ⟨BW7.it.trans (B9.it.mono BW7.it.size)⟩
        have TS0 := Kp.mk (TSZ7.it.below B9.it)
        have TR0 := Kp.mk (TRZ7.it.below B9.it)
        have GV0 := Kp.mk (GV7.it.below B9.it)
        clear hb9 B8 B9 TSZ7 TRZ7 GV7 R9b R11b R13b R15
        go_wp2
        go_loopw [79] (fun i wr => ∃ k : Nat, k ≤ n15 ∧ i = .int .i64 k ∧ Kp (TreeS ka kb (fun b => b < Z) l' b7 wr) ∧ Kp (RTr ka kb (fun b => b < Z) l' b8 wr) ∧ Kp (Gv Z Y6 A13 n15 wr) ∧ Kp (Below w.heap.size w wr)) (fun i _ => n15 - (intOf i).toNat)
        case atStart => exact ⟨0, by omega, rfl, TS0, TR0, GV0, BW9⟩
        case round =>
          clear TS0 TR0 GV0 BW9
          obtain ⟨k, hk, rfl, TS, TR, GV, BW⟩ := hrel
          by_cases hkn : k < n15
          · have hd : decide ((k : Int) < (n15 : Int)) = true := by simp; omega
            obtain ⟨g, cur, rfl, hg1, hg2, hgc, hgs⟩ := GV.it (by omega)
            obtain ⟨v0, hv0⟩ : ∃ v, cur[k * 2]? = some v := ⟨_, Array.getElem?_eq_getElem (by omega)⟩
            have y0 : wr.cell? ⟨g, k * 2, none⟩ = some v0 := blk_cell hgc hv0
            have u0 : wr.frozen? ⟨g, k * 2, none⟩ = false := blk_free hgc
            have hgl := (Array.getElem?_eq_some_iff.1 hgc).1
            have HG1 : Kp (w.heap.size ≤ g ∧ Z ≤ g) := ⟨by have h8 := BW5.it.size; have h9 := HZ5.it; omega, hg1⟩
            clear hgc hv0 hg1
            go_wp2
            go_roundw
            case rel => exact ⟨k + 1, by omega, by go_num, ⟨TS.it.same (Same.of_set _ _ (by have := HG1.it; omega))⟩, ⟨TR.it.same (Same.of_set _ _ (by have := HG1.it; omega))⟩, ⟨GV.it.set _⟩, ⟨BW.it.setCell HG1.it.1 _⟩⟩
            case measure => simp [intOf]; omega
          · obtain rfl : k = n15 := by omega
            have hd : decide ((k : Int) < (k : Int)) = false := by simp
            have HDG := Kp.mk (rdig_any ka kb (fun b => b < Z) b8 l' HL1.it HS1.it 4 (Nat.le_refl _))
            go_wp2_with fail
            go_at_call 27
            refine (root_any TS.it.any).mono ?_
            rintro e wa ⟨rfl, hba⟩
            have Ba := Kp.mk hba
            clear hba
            obtain ⟨U, hU⟩ : ∃ U : Int, U = ((digU ka kb 4 l').toNat : Int) := ⟨_, rfl⟩
            have HU := Kp.mk hU
            rw [← hU]
            clear hU
            go_wp2_with fail
            go_at_call 28
            refine (HDG.it none 0 0 [] wa (TR.it.below Ba.it) ⟨rfl, by decide, fun h => absurd h (by decide)⟩ (fun _ => rfl) rfl).mono ?_
            rintro e wb ⟨rfl, hbb⟩
            have Bb : Kp (Below wr.heap.size wr wb) := ⟨Ba.it.trans (hbb.mono Ba.it.size)⟩
            rw [inP_nil, ← HU.it]
            have huu : (U == U) = true := by simp
            clear hbb
            go_wp2_with fail
            go_at_call 12
            refine (awake_any _).mono ?_
            rintro e wc ⟨rfl, hbc⟩
            have Bc : Kp (Below w.heap.size w wc) := ⟨BW.it.trans ((Bb.it.trans (hbc.mono Bb.it.size)).mono BW.it.size)⟩
            clear hbc
            go_wp2
            go_ret
            exact ⟨rfl, Bc.it⟩

set_option linter.unusedVariables false in
set_option maxRecDepth 100000 in
theorem digestParts_lifted (os : Os) (started : os.Started) (H : Type) (enc : TypeId × Value → H) :
    ReturnsInHanded {} Try.checked os 7 .any (Rows.digestPartsSpec.pre6 enc Try.prog Try.f7 Rows.digestPartsRow.domain false) (Rows.digestPartsSpec.post enc Try.prog Try.f7 false true false false) := by
  refine returnsInHanded_of_change_sized (C := Try.checked) (by kernel_rfl) started (by kernel_rfl) Try.func7
    (ChangeSpec.witness6 (enc := enc) (C := Try.checked) false ⟨#[], #[.agg #[.int .u64 0, .int .u64 0], .slice none 0 0, .slice none 0 0], []⟩ 8 (by kernel_rfl) (by kernel_rfl) (by kernel_rfl) (by kernel_rfl)) ?_
  intro W base args ds gs before hval0 hW hcnd hsz0 _
  have hval : ∀ (j : Nat) t v, Try.f7.params[j]? = some t → args[j]? = some v → Value.okWide Try.prog W .any base t v := hval0
  have hW' := hW
  obtain ⟨p, q, hA0, hV, rfl, hfz, hnd⟩ := hW
  have hA : DataW.TrodAll enc Try.prog W 0 (fun _ => true) true Try.f7.params.toList args.toList ds p := hA0
  have hsz : (DataW.weightsEach Try.prog (Try.f7.params.toList ++ Rows.digestPartsSpec.plain.varTypes Try.prog) (ds ++ gs)).all (· ≤ reachBytes) = true := hsz0
  rw [Try.params7] at hA hval hsz
  obtain ⟨v0, vs0, d0, ds0, p0, q0, hargs, rfl, rfl, h0, r0⟩ := trodAll_cons hA
  obtain ⟨v1, vs1, d1, ds1, p1, q1, rfl, rfl, rfl, h1, r1⟩ := trodAll_cons r0
  obtain ⟨v2, vs2, d2, ds2, p2, q2, rfl, rfl, rfl, h2, r2⟩ := trodAll_cons r1
  obtain ⟨rfl, rfl, rfl⟩ := trodAll_nil r2
  obtain rfl : args = #[v0, v1, v2] := by cases args; simp_all
  obtain ⟨rfl, rfl⟩ := trodVars_none hV
  have k0 := h0
  have lt0 : ∀ x ∈ p0, x.block < W.heap.size := by obtain ⟨m, hm⟩ := k0; exact DataW.trod_lt m _ _ _ hm
  obtain ⟨ka0, kb0, rfl⟩ := seed_open (hval 0 24 v0 rfl rfl) h0
  have k1 := h1
  have lt1 : ∀ x ∈ p1, x.block < W.heap.size := by obtain ⟨m, hm⟩ := k1; exact DataW.trod_lt m _ _ _ hm
  obtain ⟨A1, n1, c1, ks1, rfl, ra1, ea1, bd1, nc1, bs1⟩ := prs_open (hval 1 25 v1 rfl rfl) h1 (fun x hx => by simpa using List.all_eq_true.1 hsz x (DataW.weights_mem_each (j := 1) (t := 25) rfl rfl x hx))
  have k2 := h2
  have lt2 : ∀ x ∈ p2, x.block < W.heap.size := by obtain ⟨m, hm⟩ := k2; exact DataW.trod_lt m _ _ _ hm
  obtain ⟨A2, n2, c2, xs2, rfl, ra2, ea2, nc2⟩ := ints_open (hval 2 62 v2 rfl rfl) h2 (fun x hx => by simpa using List.all_eq_true.1 hsz x (DataW.weights_mem_each (j := 2) (t := 62) rfl rfl x hx))
  clear hA0 hval0 hsz hsz0
  refine (parts_walk ka0 kb0 A1 n1 c1 ks1 A2 n2 c2 xs2 W ra1 bs1 ra2 ea2).mono fun e W' ⟨he, bel⟩ => ?_
  subst he
  exact ⟨_, rfl, _, _, _, [], _, [], hW', trodAll_mk1 (shut_bool Try.underlying4 _), (trodAll_cons_mk (Below.trod (by kernel_rfl) (by kernel_rfl) (of_decide_eq_true (by kernel_rfl)) k0 bel lt0) (trodAll_cons_mk (Below.trod (by kernel_rfl) (by kernel_rfl) (of_decide_eq_true (by kernel_rfl)) k1 bel lt1) (trodAll_cons_mk (Below.trod (by kernel_rfl) (by kernel_rfl) (of_decide_eq_true (by kernel_rfl)) k2 bel lt2) trodAll_mk0))), rfl, bel.frame _, fun h => by cases h⟩

theorem DigestParts_holds : Rows.DigestPartsSaid :=
  OpenClaim.holds_of_wide 7 Try.f7 rfl rfl rfl rfl rfl rfl rfl ⟨rfl, rfl, rfl, rfl, rfl⟩ rfl rfl rfl rfl rfl (by kernel_rfl) Try.func7 (by kernel_rfl)
    (of_decide_eq_true (by kernel_rfl)) (by unfold Func.isWrapper; first | (rw [if_pos (by decide +kernel)]; kernel_rfl) | (rw [if_neg (by decide +kernel)]; exact ⟨rfl, rfl⟩))
    (fun os started H enc _ => digestParts_lifted os started H enc)
end Go.Proofs.Ytcmkjoepndbicaa
