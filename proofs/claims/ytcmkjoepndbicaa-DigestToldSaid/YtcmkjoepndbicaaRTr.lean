/-
  The reference's tree: Of, In, Digest.
-/
import Derived.Test.YtcmkjoepndbicaaLst
namespace Go.Proofs.Ytcmkjoepndbicaa
open Go Go.RowKit

/-- The reference's tree of the pairs l; all its blocks are of S. -/
def RTr (ka kb : BitVec 64) (S : Nat → Prop) (l : List Pr) (t : Nat) (w : World) : Prop :=
  S t ∧ ∃ A n c, w.heap[t]? = some (.cells #[.int .u64 (ka.toNat : Int), .int .u64 (kb.toNat : Int), .slice A n c] 56 (0, 0)) ∧ RP w S A n l
theorem RTr.same {ka kb : BitVec 64} {S : Nat → Prop} {l : List Pr} {t : Nat} {w w' : World} (h : RTr ka kb S l t w) (hs : Same S w w') : RTr ka kb S l t w' := by
  obtain ⟨h0, A, n, c, h1, h2⟩ := h
  exact ⟨h0, A, n, c, (hs.2 t h0 (Array.getElem?_eq_some_iff.1 h1).1).trans h1, h2.same hs⟩
theorem RTr.below {ka kb : BitVec 64} {S : Nat → Prop} {l : List Pr} {t : Nat} {w w' : World} (h : RTr ka kb S l t w) (hb : Below w.heap.size w w') : RTr ka kb S l t w' := h.same (Same.of_below hb S)
theorem RTr.relax {ka kb : BitVec 64} {S S' : Nat → Prop} {l : List Pr} {t : Nat} {w : World} (h : RTr ka kb S l t w) (hS : ∀ b, S b → b < w.heap.size → S' b) : RTr ka kb S' l t w := by
  obtain ⟨h0, A, n, c, h1, h2⟩ := h
  exact ⟨hS t h0 (Array.getElem?_eq_some_iff.1 h1).1, A, n, c, h1, h2.relax hS⟩
theorem RTr.opens {ka kb : BitVec 64} {S : Nat → Prop} {l : List Pr} {t : Nat} {w : World} (h : RTr ka kb S l t w) : w.cell? ⟨t, 0, none⟩ = some (.int .u64 (ka.toNat : Int)) ∧ w.cell? ⟨t, 1, none⟩ = some (.int .u64 (kb.toNat : Int)) ∧ t < w.heap.size := by
  obtain ⟨_, A, n, c, h1, h2⟩ := h
  exact ⟨blk_cell h1 rfl, blk_cell h1 rfl, (Array.getElem?_eq_some_iff.1 h1).1⟩
theorem rb_of {W : World} {base : Nat} {v : Value} {bs : List UInt8} (h : OwnB W base v bs) (hl : bs.length ≤ 140737488355328) : (SpK.rb bs).p v W := by
  obtain ⟨A, c, rfl, h1, h2, h3⟩ := h.form hl
  exact ⟨A, _, c, rfl, h1, h2, h3⟩
set_option maxRecDepth 100000 in
set_option maxHeartbeats 4000000 in
theorem rof_any (ka kb : BitVec 64) (A : Option Addr) (n c : Nat) (l : List Pr) (w : World) (S : Nat → Prop) (h : RP w S A n l) (hn : n ≤ 1000) :
    Calls Try.prog 16 #[.agg #[.int .u64 (ka.toNat : Int), .int .u64 (kb.toNat : Int)], .slice A n c] w fun e w' => ∃ t, e = .returned (.pointer (some ⟨t, 0, none⟩)) ∧ RTr ka kb (fun b => w.heap.size ≤ b) (ofP l) t w' ∧ w.heap.size ≤ t ∧ Below w.heap.size w w' := by
  have H := Kp.mk h
  have HL : Kp ((ofP l).length ≤ 100000) := ⟨by have h1 := ofP_len l; rw [h.len] at h1; omega⟩
  clear h
  go_enter Try.func16, Try.ntmps16
  go_upto_region 1 with fail
  refine wp_on (fun wx => Sd ka kb w.heap.size wx ∧ Below w.heap.size w wx) ⟨blk_new _ _, (Below.refl _ _).alloc (Nat.le_refl _) _⟩ (fun w1 hx => ?_)
  obtain ⟨hsd, hb1⟩ := hx
  have SD1 := Kp.mk hsd
  have B1 := Kp.mk hb1
  clear hsd hb1
  obtain ⟨X, hX⟩ : ∃ X, X = w.heap.size := ⟨_, rfl⟩
  rw [← hX] at SD1 B1 ⊢
  have HX := Kp.mk hX
  clear hX
  have HCK : Kp (∀ w2, w2.heap = w1.heap → w2.os = w1.os → w2.tape = w1.tape → w2.output = w1.output → Calls Try.prog 30 #[.slice A n c] w2 fun e w' => ∃ A3 n3 c3, e = .returned (.slice A3 n3 c3) ∧ RP w' (fun b => X ≤ b) A3 n3 (ofP l) ∧ Sd ka kb X w' ∧ Below w1.heap.size w1 w') := ⟨fun w2 hh ho ht hp => by
    have hbl : Below w1.heap.size w1 w2 := ⟨ho, ht, hp, by rw [hh]; exact Nat.le_refl _, fun k _ => by rw [hh]⟩
    have hb0 : Below w.heap.size w w2 := (HX.it ▸ B1.it).trans (hbl.mono (by have h7 := B1.it.size; have h8 := HX.it; omega))
    refine (rlist_any A n c l w2 S (H.it.below hb0) hn).mono ?_
    rintro e w' ⟨v, rfl, hv, hb⟩
    obtain ⟨A3, c3, rfl, _, _, hr⟩ := hv.form HL.it
    have h4 : Below w1.heap.size w1 w' := hbl.trans (hb.mono hbl.size)
    exact ⟨A3, _, c3, rfl, hr.relax (fun q (hq : w2.heap.size ≤ q) _ => by have h8 := hbl.size; have h9 := B1.it.size; have h7 := HX.it; omega), SD1.it.below h4, h4⟩⟩
  obtain ⟨s0, s1, slt⟩ := SD1.it.opens
  have HW1 : Kp (w.heap.size ≤ w1.heap.size) := ⟨by have h7 := B1.it.size; have h8 := HX.it; omega⟩
  go_region_with (go_at_call 30; refine (HCK.it w1.drew rfl rfl rfl rfl).mono ?_; rintro e w3 ⟨A3, n3, c3, rfl, hr3, hs3, hb3⟩; have R3 := Kp.mk hr3; have B3 := Kp.mk hb3; obtain ⟨q0, q1, qlt⟩ := hs3.opens; clear hr3 hs3 hb3)
  all_goals
    have TT : Kp (RTr ka kb (fun b => X ≤ b) (ofP l) w3.heap.size (w3.alloc (.cells #[.int .u64 (ka.toNat : Int), .int .u64 (kb.toNat : Int), .slice A3 n3 c3] 56))) := ⟨⟨by have := B3.it.size; have := HW1.it; have := HX.it; omega, A3, n3, c3, blk_new _ _, R3.it.below ((Below.refl _ _).alloc (Nat.le_refl _) _)⟩⟩
    have TB : Kp (Below X w (w3.alloc (.cells #[.int .u64 (ka.toNat : Int), .int .u64 (kb.toNat : Int), .slice A3 n3 c3] 56))) := ⟨(B1.it.trans (B3.it.mono (by have := HW1.it; have := HX.it; omega))).alloc (by have := B3.it.size; have := HW1.it; have := HX.it; omega) _⟩
    have TS : Kp (X ≤ w3.heap.size) := ⟨by have := B3.it.size; have := HW1.it; have := HX.it; omega⟩
    clear q0 q1 qlt s0 s1 slt
    go_wp2
    go_ret
    first
      | exact ⟨_, rfl, HX.it ▸ TT.it, HX.it ▸ TS.it, HX.it ▸ TB.it⟩
      | exact ⟨_, rfl, HX.it ▸ TT.it.below (below_drewN (Below.refl _ _) 1), HX.it ▸ TS.it, HX.it ▸ below_drewN TB.it 1⟩
set_option maxHeartbeats 4000000 in
theorem digit_any (x i r : Nat) (w : World) (hx : x < 18446744073709551616) (hi : i ≤ 15) (hr : x / 2 ^ (60 - 4 * i) % 16 = r) :
    Calls Try.prog 81 #[.int .u64 (x : Int), .int .i64 (i : Int)] w fun e w' => e = .returned (.int .i64 (r : Int)) ∧ Below w.heap.size w w' := by
  have HR := Kp.mk hr
  clear hr
  obtain ⟨m, hm⟩ : ∃ m : Nat, m = 15 - i := ⟨_, rfl⟩
  have hz : (15 : Int) - (i : Int) = (m : Int) := by omega
  have HE : Kp (2 ^ (60 - 4 * i) = 16 ^ m) := ⟨by rw [hm, show 60 - 4 * i = 4 * (15 - i) by omega, Nat.pow_mul]⟩
  have hm15 : m ≤ 15 := by omega
  clear hm
  go_enter Try.func81, Try.ntmps81
  go_wp2
  go_loop [0, 7] (fun a j => ∃ (k y : Nat), k ≤ m ∧ j = .int .i64 k ∧ a = .int .u64 (y : Int) ∧ y < 18446744073709551616 ∧ Kp (y = x / 16 ^ k)) (fun _ j => m - (intOf j).toNat)
  case atStart => exact ⟨0, x, by omega, rfl, rfl, hx, ⟨by simp⟩⟩
  case round =>
    obtain ⟨k, y, hk, rfl, rfl, hy, HY⟩ := hrel
    by_cases hkm : k < m
    · have hd : decide ((k : Int) < (m : Int)) = true := by simp; omega
      obtain ⟨q, hq⟩ : ∃ q : Nat, q = y / 16 := ⟨_, rfl⟩
      have hq1 : (y : Int) / 16 = (q : Int) := by rw [hq]; exact (Int.natCast_ediv y 16).symm
      have HQ : Kp (q = x / 16 ^ (k + 1)) := ⟨by rw [hq, HY.it, Nat.div_div_eq_div_mul, Nat.pow_succ]⟩
      have hq0 : q < 18446744073709551616 := by omega
      clear hq
      go_wp2
      go_round
      case rel => exact ⟨k + 1, q, by omega, by go_num, rfl, hq0, HQ⟩
      case measure => simp [intOf]; omega
    · obtain rfl : k = m := by omega
      have hd : decide ((k : Int) < (k : Int)) = false := by simp
      obtain ⟨q, hq⟩ : ∃ q : Nat, q = y % 16 := ⟨_, rfl⟩
      have hq1 : (y : Int) % 16 = (q : Int) := by rw [hq]; exact (Int.natCast_emod y 16).symm
      have hq0 : q < 16 := by omega
      have HQ : Kp (q = r) := ⟨by rw [hq, HY.it, ← HE.it, HR.it]⟩
      clear hq
      go_wp2
      go_ret
      exact ⟨by show Ending.returned (Value.int .i64 (q : Int)) = _; rw [HQ.it], Below.refl _ _⟩
theorem inP_succ (ka kb : BitVec 64) (path : List Int) (l : List Pr) {k : Nat} {x : Pr} (hx : l[k]? = some x) : inP ka kb path (l.take (k + 1)) = if onP ka kb path x = true then inP ka kb path (l.take k) ++ [x] else inP ka kb path (l.take k) := by
  obtain ⟨hk, rfl⟩ := List.getElem?_eq_some_iff.1 hx
  unfold inP
  rw [List.take_succ_eq_append_getElem hk, List.filter_append]
  by_cases h : onP ka kb path l[k] = true
  · rw [if_pos h]; simp [h]
  · rw [if_neg h]; simp [h]
theorem onP_take (ka kb : BitVec 64) (path : List Int) (x : Pr) {j : Nat} (hj : j < path.length) : onP ka kb (path.take (j + 1)) x = (onP ka kb (path.take j) x && ((dg ka kb j x : Int) == rd path j)) := by
  rw [List.take_succ_eq_append_getElem hj, onP_snoc, ← rd_lt hj, List.length_take, Nat.min_eq_left (by omega)]
  congr 1
set_option linter.unusedSimpArgs false in
set_option linter.unusedVariables false in
set_option maxRecDepth 100000 in
set_option maxHeartbeats 8000000 in
theorem in_any (ka kb : BitVec 64) (S0 : Nat → Prop) (t : Nat) (l : List Pr) (A : Option Addr) (m c : Nat) (path : List Int) (w : World) (T : RTr ka kb S0 l t w) (P : Rd w A m path) (hm : m ≤ 4) (hl : l.length ≤ 1000) (hs : ∀ p ∈ l, p.1.size ≤ 140737488351232) :
    Calls Try.prog 59 #[.pointer (some ⟨t, 0, none⟩), .slice A m c] w fun e w' => ∃ v, e = .returned v ∧ OwnP w' w.heap.size v (inP ka kb path l) ∧ Below w.heap.size w w' := by
  have HT := Kp.mk T
  obtain ⟨_, AL, nL, cL, hT, hR⟩ := T
  have HR := Kp.mk hR
  have HL := Kp.mk hR.len
  have hnL : nL ≤ 1000 := by rw [← hR.len]; exact hl
  have HP := Kp.mk P
  have HS := Kp.mk hs
  have z2 : w.cell? ⟨t, 2, none⟩ = some (.slice AL nL cL) := blk_cell hT rfl
  have hlt := (Array.getElem?_eq_some_iff.1 hT).1
  clear hT hR P hs hl
  go_enter Try.func59, Try.ntmps59
  go_wp2
  clear z2 hlt
  go_loopw [5, 17] (fun o i wr => ∃ (k : Nat) (A3 : Option Addr) (k3 c3 : Nat), k ≤ nL ∧ i = .int .i64 k ∧ o = .slice A3 k3 c3 ∧ k3 ≤ k ∧ Kp ((inP ka kb path (l.take k)).length = k3) ∧ Kp (OwnP wr w.heap.size (.slice A3 k3 c3) (inP ka kb path (l.take k))) ∧ Kp (Below w.heap.size w wr)) (fun _ i _ => nL - (intOf i).toNat)
  case atStart => exact ⟨0, none, 0, 0, by omega, rfl, rfl, by omega, ⟨rfl⟩, ⟨OwnP.nil _ _⟩, ⟨Below.refl _ _⟩⟩
  case round =>
    obtain ⟨k, A3, k3, c3, hk, rfl, rfl, hk3, HPL, HO, HB⟩ := hrel
    by_cases hkn : k < nL
    · have hd : decide ((k : Int) < (nL : Int)) = true := by simp; omega
      obtain ⟨x, hx⟩ : ∃ x, l[k]? = some x := ⟨_, List.getElem?_eq_getElem (by rw [HL.it]; exact hkn)⟩
      obtain ⟨b1, o1, hA, hS1, hl1, f0, f1⟩ := (HR.it.below HB.it).get hx
      cases hA
      have HU := Kp.mk (inP_succ ka kb path l hx)
      have HSX := Kp.mk (HS.it x (List.mem_of_getElem? hx))
      clear hx
      obtain ⟨wo, rfl⟩ : ∃ wo : World, wo = wr := ⟨_, rfl⟩
      go_upto_region 5 with fail
      refine wp_on (fun wz => wz.heap[wo.heap.size]? = some (.cells #[.string x.1, .string x.2] 43 (0, 0)) ∧ Below wo.heap.size wo wz) (pr_new wo x) (fun w4 h4 => ?_)
      obtain ⟨h4, hb4⟩ := h4
      have E4 := Kp.mk h4
      have O4 := Kp.mk (HO.it.below hb4)
      have HB4 := Kp.mk (HB.it.trans (hb4.mono HB.it.size))
      have Z4 := Kp.mk HB4.it.size
      have g0 : w4.cell? ⟨wo.heap.size, 0, none⟩ = some (.string x.1) := blk_cell E4.it rfl
      have hlt4 := (Array.getElem?_eq_some_iff.1 E4.it).1
      obtain ⟨z0, z1, ht4⟩ := (HT.it.below HB4.it).opens
      clear h4 hb4 f0 f1 HO HB
      refine wp_region_sp [SpK.ex (.pointer (some ⟨t, 0, none⟩)), SpK.ex (.pointer (some ⟨t, 0, none⟩)), SpK.ex (.pointer (some ⟨t, 0, none⟩)), SpK.ex (.agg #[.int .u64 (ka.toNat : Int), .int .u64 (kb.toNat : Int)]), SpK.ex (.pointer (some ⟨wo.heap.size, 0, none⟩)), SpK.ex (.string x.1), SpK.ex (.int .u64 ((sumU ka kb x.1.data.toList).toNat : Int)), SpK.ex (.int .u64 ((sumU ka kb x.1.data.toList).toNat : Int))] (by kernel_rfl) (by kernel_rfl) ?_ ?_
      · intro i o ho a W hbW hG
        match i with
        | 0 =>
          have ho1 := ho
          cases ho
          have t0 : a.tmps.getD 0 undef = .pointer (some ⟨t, 0, none⟩) := hG.old 0 (by decide)
          exact op_value_g (w1 := W) ho1 (wanted_none rfl) (.pointer (some ⟨t, 0, none⟩)) (by simp [go_sem, Act.eval, -Array.getD_eq_getD_getElem?, t0]) (Gr.refl _) rfl
        | 1 =>
          have ho1 := ho
          cases ho
          have t21 : a.tmps.getD 21 undef = .pointer (some ⟨t, 0, none⟩) := hG.dep 0 (by decide) 21 rfl
          exact op_value_g (w1 := W) ho1 (wanted_none rfl) (.pointer (some ⟨t, 0, none⟩)) (by simp [go_sem, Act.eval, -Array.getD_eq_getD_getElem?, t21]) (Gr.refl _) rfl
        | 2 =>
          have ho1 := ho
          cases ho
          have t22 : a.tmps.getD 22 undef = .pointer (some ⟨t, 0, none⟩) := hG.dep 1 (by decide) 22 rfl
          exact op_value_g (w1 := W) ho1 (wanted_none rfl) (.pointer (some ⟨t, 0, none⟩)) (by simp [go_sem, Act.eval, -Array.getD_eq_getD_getElem?, t22]) (Gr.refl _) rfl
        | 3 =>
          have ho1 := ho
          cases ho
          have t23 : a.tmps.getD 23 undef = .pointer (some ⟨t, 0, none⟩) := hG.dep 2 (by decide) 23 rfl
          have q0 := (hbW.cell (p := ⟨t, 0, none⟩) ht4).trans z0
          have q1 := (hbW.cell (p := ⟨t, 1, none⟩) ht4).trans z1
          have q2 := (hbW.cell (p := ⟨wo.heap.size, 0, none⟩) hlt4).trans g0
          exact op_value_g (w1 := W) ho1 (wanted_none rfl) (.agg #[.int .u64 (ka.toNat : Int), .int .u64 (kb.toNat : Int)]) (by simp [go_sem, Act.eval, -Array.getD_eq_getD_getElem?, t23, q0, q1, q2]) (Gr.refl _) rfl
        | 4 =>
          have ho1 := ho
          cases ho
          have t7 : a.tmps.getD 7 undef = .pointer (some ⟨wo.heap.size, 0, none⟩) := hG.old 7 (by decide)
          exact op_value_g (w1 := W) ho1 (wanted_none rfl) (.pointer (some ⟨wo.heap.size, 0, none⟩)) (by simp [go_sem, Act.eval, -Array.getD_eq_getD_getElem?, t7]) (Gr.refl _) rfl
        | 5 =>
          have ho1 := ho
          cases ho
          have t25 : a.tmps.getD 25 undef = .pointer (some ⟨wo.heap.size, 0, none⟩) := hG.dep 4 (by decide) 25 rfl
          have q0 := (hbW.cell (p := ⟨t, 0, none⟩) ht4).trans z0
          have q1 := (hbW.cell (p := ⟨t, 1, none⟩) ht4).trans z1
          have q2 := (hbW.cell (p := ⟨wo.heap.size, 0, none⟩) hlt4).trans g0
          exact op_value_g (w1 := W) ho1 (wanted_none rfl) (.string x.1) (by simp [go_sem, Act.eval, -Array.getD_eq_getD_getElem?, t25, q0, q1, q2]) (Gr.refl _) rfl
        | 6 =>
          have ho1 := ho
          cases ho
          have t24 : a.tmps.getD 24 undef = .agg #[.int .u64 (ka.toNat : Int), .int .u64 (kb.toNat : Int)] := hG.dep 3 (by decide) 24 rfl
          have t26 : a.tmps.getD 26 undef = .string x.1 := hG.dep 5 (by decide) 26 rfl
          refine op_call_g ho1 (wanted_none rfl) 22 #[.agg #[.int .u64 (ka.toNat : Int), .int .u64 (kb.toNat : Int)], .string x.1] (by simp [go_sem, Act.eval, -Array.getD_eq_getD_getElem?, t24, t26]) ?_
          refine (place_r ka kb x.1 W HSX.it).mono ?_
          rintro e W' ⟨rfl, hb'⟩
          exact ⟨_, rfl, hb', rfl⟩
        | 7 =>
          have ho1 := ho
          cases ho
          have t27 : a.tmps.getD 27 undef = .int .u64 ((sumU ka kb x.1.data.toList).toNat : Int) := hG.dep 6 (by decide) 27 rfl
          exact op_value_g (w1 := W) ho1 (wanted_none rfl) (.int .u64 ((sumU ka kb x.1.data.toList).toNat : Int)) (by simp [go_sem, Act.eval, -Array.getD_eq_getD_getElem?, t27]) (Gr.refl _) rfl
        | q + 8 => cases ho
      · intro a W hbW hD
        have hfr := hD.frame [21, 22, 23, 24, 25, 26, 27, 8] (by kernel_rfl)
        have t21 : a.tmps.getD 21 undef = .pointer (some ⟨t, 0, none⟩) := hD.sp 0 (by decide) 21 rfl
        have t22 : a.tmps.getD 22 undef = .pointer (some ⟨t, 0, none⟩) := hD.sp 1 (by decide) 22 rfl
        have t23 : a.tmps.getD 23 undef = .pointer (some ⟨t, 0, none⟩) := hD.sp 2 (by decide) 23 rfl
        have t24 : a.tmps.getD 24 undef = .agg #[.int .u64 (ka.toNat : Int), .int .u64 (kb.toNat : Int)] := hD.sp 3 (by decide) 24 rfl
        have t25 : a.tmps.getD 25 undef = .pointer (some ⟨wo.heap.size, 0, none⟩) := hD.sp 4 (by decide) 25 rfl
        have t26 : a.tmps.getD 26 undef = .string x.1 := hD.sp 5 (by decide) 26 rfl
        have t27 : a.tmps.getD 27 undef = .int .u64 ((sumU ka kb x.1.data.toList).toNat : Int) := hD.sp 6 (by decide) 27 rfl
        have t8 : a.tmps.getD 8 undef = .int .u64 ((sumU ka kb x.1.data.toList).toNat : Int) := hD.sp 7 (by decide) 8 rfl
        simp only [List.foldl_cons, List.foldl_nil] at hfr
        rw [t21, t22, t23, t24, t25, t26, t27, t8] at hfr
        rw [hfr]
        clear hfr hD t21 t22 t23 t24 t25 t26 t27 t8
        have HBW := Kp.mk hbW
        clear hbW
        simp only [Act.put, List.setIfInBounds_toArray, List.set_cons_succ, List.set_cons_zero]
        clear g0 hlt4 z0 z1 ht4
        obtain ⟨PLN, hPLN⟩ : ∃ q, q = (sumU ka kb x.1.data.toList).toNat := ⟨_, rfl⟩
        have hP64 : PLN < 18446744073709551616 := by rw [hPLN]; exact (sumU ka kb x.1.data.toList).isLt
        have HPL2 : Kp (∀ j, PLN / 2 ^ (60 - 4 * j) % 16 = dg ka kb j x) := ⟨fun j => by rw [hPLN]; rfl⟩
        rw [← hPLN]
        clear hPLN
        have HBW4 := HBW
        obtain ⟨w5, hw5⟩ : ∃ w5, w5 = W := ⟨_, rfl⟩
        rw [← hw5] at HBW4 ⊢
        clear hw5
        go_wp2
        go_loopw [9, 30] (fun o i wx => ∃ (j : Nat) (b : Bool), j ≤ m ∧ i = .int .i64 j ∧ o = .bool b ∧ Kp (b = onP ka kb (path.take j) x) ∧ Kp (Below w5.heap.size w5 wx)) (fun _ i _ => m - (intOf i).toNat)
        case atStart => exact ⟨0, true, by omega, rfl, rfl, ⟨by simp [onP]⟩, ⟨Below.refl _ _⟩⟩
        case round =>
          obtain ⟨j, b, hj, rfl, rfl, HBo, HBx⟩ := hrel
          by_cases hjm : j < m
          · have hd2 : decide ((j : Int) < (m : Int)) = true := by simp; omega
            have HP5 := HP.it.below ((HB4.it.trans (HBW4.it.mono HB4.it.size)).trans (HBx.it.mono (Nat.le_trans HB4.it.size HBW4.it.size)))
            obtain ⟨bp, op, hAp, hlp, hcp⟩ := HP5.get hjm
            subst hAp
            have HON := Kp.mk (onP_take ka kb path x (j := j) (by rw [HP.it.len]; exact hjm))
            obtain ⟨y, hy⟩ : ∃ y, y = rd path j := ⟨_, rfl⟩
            rw [← hy] at hcp HON
            clear hy HP5
            cases b with
            | false =>
              have HE : Kp (false = onP ka kb (path.take (j + 1)) x) := ⟨by rw [HON.it, ← HBo.it]; rfl⟩
              go_wp2
              go_roundw
              case rel => exact ⟨j + 1, false, by omega, by go_num, rfl, HE, HBx⟩
              case measure => simp [intOf]; omega
            | true =>
              have HE : Kp (((dg ka kb j x : Int) == y) = onP ka kb (path.take (j + 1)) x) := ⟨by rw [HON.it, ← HBo.it]; simp⟩
              go_wp2_with fail
              go_at_call 81
              refine (digit_any PLN j (dg ka kb j x) wr hP64 (by omega) (HPL2.it j)).mono ?_
              rintro e w6 ⟨rfl, hb6⟩
              have HB6 := Kp.mk (HBx.it.trans (hb6.mono HBx.it.size))
              clear hb6
              obtain ⟨bb, hbb⟩ : ∃ bb : Bool, bb = ((dg ka kb j x : Int) == y) := ⟨_, rfl⟩
              have hbb' := hbb.symm
              rw [← hbb] at HE
              clear hbb
              go_wp2
              go_roundw
              case rel => exact ⟨j + 1, bb, by omega, by go_num, by first | rfl | (cases bb <;> rfl), HE, HB6⟩
              case measure => simp [intOf]; omega
          · obtain rfl : j = m := by omega
            have hd2 : decide ((j : Int) < (j : Int)) = false := by simp
            rw [List.take_of_length_le (by rw [HP.it.len]; omega)] at HBo
            have HBB : Kp (Below w4.heap.size w4 wr) := ⟨HBW4.it.trans HBx.it⟩
            have HB7 : Kp (Below w.heap.size w wr) := ⟨HB4.it.trans (HBB.it.mono HB4.it.size)⟩
            have O7 := Kp.mk (O4.it.below HBB.it)
            have Z7 := Kp.mk HB7.it.size
            have E7 : Kp (wr.heap[wo.heap.size]? = some (.cells #[.string x.1, .string x.2] 43 (0, 0))) := ⟨(HBB.it.block _ (Array.getElem?_eq_some_iff.1 E4.it).1).trans E4.it⟩
            have y0 : wr.cell? ⟨wo.heap.size, 0, none⟩ = some (.string x.1) := blk_cell E7.it rfl
            have y1 : wr.cell? ⟨wo.heap.size, 1, none⟩ = some (.string x.2) := blk_cell E7.it rfl
            have hl7 := (Array.getElem?_eq_some_iff.1 E7.it).1
            cases b with
            | false =>
              have HE : Kp (inP ka kb path (l.take (k + 1)) = inP ka kb path (l.take k)) := ⟨by rw [HU.it, ← HBo.it]; rfl⟩
              go_wp2
              go_roundw
              case rel => exact ⟨k + 1, A3, k3, c3, by omega, by go_num, rfl, by omega, ⟨by rw [HE.it, HPL.it]⟩, ⟨by rw [HE.it]; exact O7.it⟩, HB7⟩
              case measure => simp [intOf]; omega
            | true =>
              have HE : Kp (inP ka kb path (l.take (k + 1)) = inP ka kb path (l.take k) ++ [x]) := ⟨by rw [HU.it, ← HBo.it]; rfl⟩
              have HN : Kp ((inP ka kb path (l.take k)).length + 1 ≤ 100000) := ⟨by rw [HPL.it]; omega⟩
              have HLN : Kp ((inP ka kb path (l.take k) ++ [x]).length = k3 + 1) := ⟨by rw [List.length_append, HPL.it]; rfl⟩
              go_wp2_with (refine app_p1 rfl (.tmp 45) (.tmp 47) rfl w.heap.size (.slice A3 k3 c3) _ x rfl rfl O7.it Z7.it HN.it ?_; intro v6 w6 ho6 hg6 _; obtain ⟨A6, c6, hv6, _, _, _⟩ := ho6.form (by rw [HLN.it]; omega); rw [HLN.it] at hv6; subst hv6; have O6 := Kp.mk ho6; have B6 := Kp.mk (below_ownP HB7.it Z7.it O7.it (Nat.le_refl _) hg6); clear ho6 hg6)
              go_roundw
              case rel => exact ⟨k + 1, A6, k3 + 1, c6, by omega, by go_num, rfl, by omega, ⟨by rw [HE.it, HLN.it]⟩, ⟨by rw [HE.it]; exact O6.it⟩, B6⟩
              case measure => simp [intOf]; omega
    · obtain rfl : k = nL := by omega
      have hd : decide ((k : Int) < (k : Int)) = false := by simp
      rw [List.take_of_length_le (by rw [HL.it]; omega)] at HO
      go_wp2
      go_ret
      exact ⟨_, rfl, HO.it, HB.it⟩
end Go.Proofs.Ytcmkjoepndbicaa
