/-
  The reference's Unlike of two trees of one seed.
-/
import Derived.Test.YtcmkjoepndbicaaUnr
namespace Go.Proofs.Ytcmkjoepndbicaa
open Go Go.RowKit

set_option maxRecDepth 100000 in
set_option maxHeartbeats 8000000 in
theorem runlike_any (ka kb : BitVec 64) (S T : Nat → Prop) (s t : Nat) (la lb : List Pr) (w : World) (ta : RTr ka kb S la s w) (tb : RTr ka kb T lb t w) (hla : la.length ≤ 400) (hlb : lb.length ≤ 400) (hsa : ∀ p ∈ la, p.1.size + p.2.size ≤ 140737488351232) (hsb : ∀ p ∈ lb, p.1.size + p.2.size ≤ 140737488351232) (hra : Rise la) (hrb : Rise lb) :
    Calls Try.prog 15 #[.pointer (some ⟨s, 0, none⟩), .pointer (some ⟨t, 0, none⟩)] w fun e w' =>
      ∃ A n c, e = .returned (.tuple #[.slice A n c, .agg #[.int .i64 ((1 + difD ka kb 4 la lb : Nat) : Int), .int .i64 ((difP ka kb 4 la lb : Nat) : Int)], .int .i64 0]) ∧ OwnT w' w.heap.size (.slice A n c) (sortS (difK ka kb 4 la lb)) ∧ Below w.heap.size w w' := by
  have HU := Kp.mk (runl_any ka kb S T s t la lb hla hlb hsa hsb hra hrb 4 (by omega))
  have TA := Kp.mk ta
  have TB := Kp.mk tb
  have HKL : Kp ((difK ka kb 4 la lb).length ≤ 800) := ⟨by have := difK_le ka kb 4 la lb; omega⟩
  have HAG := Kp.mk (keys_again (difK_nodup ka kb 4 hra hrb))
  have hDb : difD ka kb 4 la lb ≤ 10000000 := by have := difD_le ka kb 4 la lb; omega
  obtain ⟨s0, s1, sl⟩ := ta.opens
  obtain ⟨t0, t1, tl⟩ := tb.opens
  have hk1 : ((ka.toNat : Int) == (ka.toNat : Int)) = true := by simp
  have hk2 : ((kb.toNat : Int) == (kb.toNat : Int)) = true := by simp
  clear ta tb hsa hsb hra hrb hla hlb
  obtain ⟨DN, hDN⟩ : ∃ d, d = difD ka kb 4 la lb := ⟨_, rfl⟩
  obtain ⟨PN, hPN⟩ : ∃ d, d = difP ka kb 4 la lb := ⟨_, rfl⟩
  obtain ⟨KS, hKS⟩ : ∃ d, d = difK ka kb 4 la lb := ⟨_, rfl⟩
  rw [← hDN] at hDb ⊢
  rw [← hPN]
  rw [← hKS] at HKL HAG ⊢
  have HDN := Kp.mk hDN
  have HPN := Kp.mk hPN
  have HKS := Kp.mk hKS
  clear hDN hPN hKS
  go_enter Try.func15, Try.ntmps15
  go_upto_region 1 with fail
  refine wp_on (fun wx => Tk 0 0 w.heap.size wx ∧ Below w.heap.size w wx) ⟨blk_new _ _, (Below.refl _ _).alloc (Nat.le_refl _) _⟩ (fun w1 hx => ?_)
  obtain ⟨hx, hb1⟩ := hx
  obtain ⟨X, hX⟩ : ∃ X, X = w.heap.size := ⟨_, rfl⟩
  rw [← hX] at hx ⊢
  have s0' := (hb1.cell (p := ⟨s, 0, none⟩) sl).trans s0
  have s1' := (hb1.cell (p := ⟨s, 1, none⟩) sl).trans s1
  have t0' := (hb1.cell (p := ⟨t, 0, none⟩) tl).trans t0
  have t1' := (hb1.cell (p := ⟨t, 1, none⟩) tl).trans t1
  have sl' : s < w1.heap.size := Nat.lt_of_lt_of_le sl hb1.size
  have tl' : t < w1.heap.size := Nat.lt_of_lt_of_le tl hb1.size
  have TX := Kp.mk hx
  have B1 := Kp.mk hb1
  have HX := Kp.mk hX
  clear hx hb1 hX s0 s1 t0 t1 sl tl
  go_wp2
  go_quiet (fail)
  go_wp2_with fail
  generalize hw2 : w1.drewN _ = w2
  have hx : Below w1.heap.size w1 w2 := by rw [← hw2]; exact below_drewN (Below.refl _ _) _
  clear hw2
  have C2 := Kp.mk hx
  have B2 : Kp (Below w.heap.size w w2) := ⟨B1.it.trans (hx.mono B1.it.size)⟩
  clear hx
  go_at_call 51
  refine (HU.it none 0 0 [] w2 (TA.it.below B2.it) (TB.it.below B2.it) ⟨rfl, by decide, fun h => absurd h (by decide)⟩ (fun _ => rfl) rfl).mono ?_
  rintro e w3 ⟨A3, n3, c3, rfl, ho3, hb3⟩
  rw [inP_nil, inP_nil, ← HDN.it, ← HPN.it]
  rw [inP_nil, inP_nil, ← HKS.it] at ho3
  obtain ⟨A', c', hv, _, _, hr3⟩ := ho3.form (by have := HKL.it; omega)
  injection hv with hA hn3 hc
  subst hA
  subst hc
  rw [← hn3] at hr3
  have hn31 : n3 ≤ 800 := by rw [hn3]; exact HKL.it
  have N3 := Kp.mk hn3
  have R3 := Kp.mk hr3
  have C3 := Kp.mk (C2.it.trans (hb3.mono C2.it.size))
  have B3 := Kp.mk (B2.it.trans (hb3.mono B2.it.size))
  clear ho3 hr3 hb3 hn3 s0' s1' t0' t1' sl' tl' C2
  go_upto_region 4 with fail
  refine wp_on (fun wx => Tk DN PN w3.heap.size wx ∧ Below w3.heap.size w3 wx) ⟨by first | exact blk_new _ _ | exact tk_put (D := 0) (P := 0) (blk_new _ _), by first | exact (Below.refl _ _).alloc (Nat.le_refl _) _ | exact (((Below.refl _ _).alloc (Nat.le_refl _) _).setCell (Nat.le_refl _) _).setCell (Nat.le_refl _) _⟩ (fun w4 hx => ?_)
  obtain ⟨hz4, hb4⟩ := hx
  obtain ⟨Z, hZ⟩ : ∃ Z, Z = w3.heap.size := ⟨_, rfl⟩
  rw [← hZ] at hz4 hb4 ⊢
  have TZ4 := Kp.mk hz4
  have HZ := Kp.mk hZ
  have B4 := Kp.mk hb4
  have HXZ : Kp (X < Z) := ⟨by have h1 := (Array.getElem?_eq_some_iff.1 TX.it).1; have h2 := C3.it.size; omega⟩
  obtain ⟨z0, z1, z2, z3, zl⟩ := TZ4.it.opens
  clear hz4 hb4 hZ
  go_upto_region 5 with fail
  refine wp_on (fun wx => Tk (1 + DN) PN Z wx ∧ Below Z w3 wx) ⟨by rw [Nat.add_comm]; have h9 := blk_set (o := 0) (Value.int IntKind.i64 ((DN : Int) + 1)) TZ4.it; exact h9, B4.it.setCell (Nat.le_refl _) _⟩ (fun w5 hx => ?_)
  obtain ⟨hz5, hb5⟩ := hx
  have TZ5 := Kp.mk hz5
  have B5 := Kp.mk hb5
  have B5' : Kp (Below w3.heap.size w3 w5) := ⟨HZ.it ▸ hb5⟩
  have R5 := Kp.mk (R3.it.below B5'.it)
  have TX5 : Kp (Tk 0 0 X w5) := ⟨(B5.it.block X HXZ.it).trans (TX.it.below C3.it)⟩
  have BW5 : Kp (Below w.heap.size w w5) := ⟨B3.it.trans (B5'.it.mono B3.it.size)⟩
  clear hz5 hb5 z0 z1 z2 z3 zl TZ4 B4
  go_wp2
  go_loopw [9, 37] (fun o i wr => ∃ (k : Nat) (A6 : Option Addr) (k6 c6 : Nat), k ≤ n3 ∧ i = .int .i64 k ∧ o = .slice A6 k6 c6 ∧ k6 ≤ k ∧ Kp (RP wr (fun _ => True) A6 k6 (ofR ((KS.map kp).take k))) ∧ Kp (Below w5.heap.size w5 wr)) (fun _ i _ => n3 - (intOf i).toNat)
  case atStart => exact ⟨0, none, 0, 0, by omega, rfl, rfl, by omega, ⟨by rw [List.take_zero]; exact RP.nil _ _ _⟩, ⟨Below.refl _ _⟩⟩
  case round =>
    obtain ⟨k, A6, k6, c6, hk, rfl, rfl, hk6, HR, HB⟩ := hrel
    by_cases hkn : k < n3
    · have hd : decide ((k : Int) < (n3 : Int)) = true := by simp; omega
      obtain ⟨x, hx⟩ : ∃ x, KS[k]? = some x := ⟨_, List.getElem?_eq_getElem (by rw [← N3.it]; exact hkn)⟩
      obtain ⟨b1, o1, hA1, hl1, f0⟩ := (R5.it.below HB.it).row (by omega)
      have f1 := f0 k x hx
      subst hA1
      have HU2 : Kp (ofR ((KS.map kp).take (k + 1)) = withP (ofR ((KS.map kp).take k)) (kp x)) := ⟨ofR_succ _ (by rw [List.getElem?_map, hx]; rfl)⟩
      have HLE : Kp ((ofR ((KS.map kp).take (k + 1))).length ≤ k + 1) := ⟨ofR_len _ _ (by rw [List.length_map, ← N3.it]; omega)⟩
      clear hx f0
      go_wp2_with fail
      go_at_call 52
      refine (with_any A6 k6 c6 _ (kp x) wr _ HR.it (by omega)).mono ?_
      rintro e w6 ⟨v6, rfl, ho6, hb6⟩
      rw [← HU2.it] at ho6
      obtain ⟨q, hq⟩ : ∃ q, q = (ofR ((KS.map kp).take (k + 1))).length := ⟨_, rfl⟩
      have hqk : q ≤ k + 1 := by rw [hq]; exact HLE.it
      obtain ⟨A7, c7, rfl, _, _, hr7⟩ := ho6.form (by omega)
      rw [← hq] at hr7 ⊢
      have R7 := Kp.mk (hr7.relax (S' := fun _ => True) (fun _ _ _ => trivial))
      have B7 := Kp.mk (HB.it.trans (hb6.mono HB.it.size))
      clear ho6 hb6 hr7 hq f1
      go_wp2
      go_roundw
      case rel => exact ⟨k + 1, A7, q, c7, by omega, by go_num, rfl, by omega, R7, B7⟩
      case measure => simp [intOf]; omega
    · obtain rfl : k = n3 := by omega
      have hd : decide ((k : Int) < (k : Int)) = false := by simp
      rw [List.take_of_length_le (by rw [List.length_map, N3.it]; exact Nat.le_refl _), ofR_eq] at HR
      obtain ⟨L, hL⟩ : ∃ L, L = ofP (KS.map kp) := ⟨_, rfl⟩
      rw [← hL] at HR HAG
      have HLL := Kp.mk HR.it.len
      have hk61 : k6 ≤ 800 := by omega
      clear hL
      obtain ⟨wo, rfl⟩ : ∃ wo : World, wo = wr := ⟨_, rfl⟩
      go_wp2
      go_loopw [12, 48] (fun o i wr => ∃ (j : Nat) (A8 : Option Addr) (c8 : Nat), j ≤ k6 ∧ i = .int .i64 j ∧ o = .slice A8 j c8 ∧ Kp (OwnT wr wo.heap.size (.slice A8 j c8) ((L.map (·.1)).take j)) ∧ Kp (Below wo.heap.size wo wr)) (fun _ i _ => k6 - (intOf i).toNat)
      case atStart => exact ⟨0, none, 0, by omega, rfl, rfl, ⟨OwnT.nil _ _⟩, ⟨Below.refl _ _⟩⟩
      case round =>
        obtain ⟨j, A8, c8, hj, rfl, rfl, HO, HB2⟩ := hrel
        by_cases hjn : j < k6
        · have hd2 : decide ((j : Int) < (k6 : Int)) = true := by simp; omega
          obtain ⟨x, hx⟩ : ∃ x, L[j]? = some x := ⟨_, List.getElem?_eq_getElem (by rw [HLL.it]; exact hjn)⟩
          obtain ⟨b1, o1, hA1, _, hl1, f0, f1⟩ := (HR.it.below HB2.it).get hx
          cases hA1
          have HTK : Kp ((L.map (·.1)).take (j + 1) = (L.map (·.1)).take j ++ [x.1]) := ⟨by rw [List.take_add_one, List.getElem?_map, hx]; rfl⟩
          have HTL : Kp (((L.map (·.1)).take j).length = j) := ⟨by rw [List.length_take, List.length_map, HLL.it]; omega⟩
          clear hx
          go_upto_region 15 with fail
          refine wp_on (fun wz => wz.heap[wr.heap.size]? = some (.cells #[.string x.1, .string x.2] 43 (0, 0)) ∧ Below wr.heap.size wr wz) (pr_new wr x) (fun w8 h8 => ?_)
          obtain ⟨h8, hb8⟩ := h8
          have g0 : w8.cell? ⟨wr.heap.size, 0, none⟩ = some (.string x.1) := blk_cell h8 rfl
          have hl8 := (Array.getElem?_eq_some_iff.1 h8).1
          have B8 := Kp.mk (HB2.it.trans (hb8.mono HB2.it.size))
          have O8 := Kp.mk (HO.it.below hb8)
          have Z8 := Kp.mk B8.it.size
          have HN8 : Kp (((L.map (·.1)).take j).length + 1 ≤ 100000000) := ⟨by rw [HTL.it]; omega⟩
          have HLN : Kp (((L.map (·.1)).take j ++ [x.1]).length = j + 1) := ⟨by rw [List.length_append, HTL.it]; rfl⟩
          clear h8 hb8 f0 f1
          go_wp2_with (refine app_t1 rfl (.tmp 52) (.tmp 55) rfl wo.heap.size (.slice A8 j c8) _ x.1 rfl rfl O8.it Z8.it HN8.it ?_; intro v6 w9 ho9 hg9; obtain ⟨A9, c9, hv9, _, _, _⟩ := ho9.form (by rw [HLN.it]; omega); rw [HLN.it] at hv9; subst hv9; have O9 := Kp.mk ho9; have B9 := Kp.mk (below_ownT B8.it Z8.it O8.it (Nat.le_refl _) hg9); clear ho9 hg9)
          go_roundw
          case rel => exact ⟨j + 1, A9, c9, by omega, by go_num, rfl, ⟨by rw [HTK.it]; exact O9.it⟩, B9⟩
          case measure => simp [intOf]; omega
        · obtain rfl : j = k6 := by omega
          have hd2 : decide ((j : Int) < (j : Int)) = false := by simp
          rw [List.take_of_length_le (by rw [List.length_map, HLL.it]; exact Nat.le_refl _), HAG.it] at HO
          have Cr : Kp (Below w5.heap.size w5 wr) := ⟨HB.it.trans (HB2.it.mono HB.it.size)⟩
          have TXr := Kp.mk (TX5.it.below Cr.it)
          have TZr := Kp.mk (TZ5.it.below Cr.it)
          have BWr : Kp (Below w.heap.size w wr) := ⟨BW5.it.trans (Cr.it.mono BW5.it.size)⟩
          have HXO : Kp (X < wo.heap.size) := ⟨Nat.lt_of_lt_of_le (Array.getElem?_eq_some_iff.1 TX5.it).1 HB.it.size⟩
          have HWO : Kp (w.heap.size ≤ wo.heap.size) := ⟨Nat.le_trans BW5.it.size HB.it.size⟩
          obtain ⟨x0, x1, x2, x3, xl⟩ := TXr.it.opens
          obtain ⟨EN, hEN⟩ : ∃ q : Nat, q = 1 + DN := ⟨_, rfl⟩
          rw [← hEN] at TZr
          have HEN := Kp.mk hEN
          clear hEN
          obtain ⟨y0, y1, y2, y3, yl⟩ := TZr.it.opens
          have hzx : ¬ X = Z := by have := HXZ.it; omega
          go_wp2
          go_region
          all_goals
            obtain ⟨w9, hw9⟩ : ∃ x : World, x = ((wr.setCell ⟨X, 0, none⟩ (Value.int IntKind.i64 (EN : Int))).setCell ⟨X, 1, none⟩ (Value.int IntKind.i64 (PN : Int))).drew := ⟨_, rfl⟩
            rw [← hw9]
            have h9 : Tk EN PN X w9 := by rw [hw9]; exact tk_put TXr.it
            obtain ⟨q0, q1⟩ := rend h9
            have B9 : Kp (Below w.heap.size w w9) := ⟨by rw [hw9]; exact below_drewN ((BWr.it.setCell (by show w.heap.size ≤ X; have := HX.it; omega) _).setCell (by show w.heap.size ≤ X; have := HX.it; omega) _) 1⟩
            have HW9 := Kp.mk hw9
            clear hw9 h9
            go_wp2
            try simp only [Exit.inBlock, Exit.then]
            refine bodyPost_ret (v := .tuple #[.slice A8 j c8, .agg #[.int .i64 ((EN : Nat) : Int), .int .i64 ((PN : Nat) : Int)], .int .i64 0]) ?_ rfl ?_
            · simp [results, go_sem, q0, q1]
            · refine ⟨A8, j, c8, by rw [HEN.it], ?_, B9.it⟩
              rw [HW9.it]
              have h1 := ((HO.it.far (o := 0) (u := .int .i64 (EN : Int)) HXO.it).far (o := 1) (u := .int .i64 (PN : Int)) HXO.it).relax (base' := w.heap.size) HWO.it
              exact h1.below (below_drewN (Below.refl _ _) 1)
end Go.Proofs.Ytcmkjoepndbicaa
