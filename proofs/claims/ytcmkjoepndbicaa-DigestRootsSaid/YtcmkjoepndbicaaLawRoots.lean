/-
  DigestRoots: the digest of a whole map, and how many pairs it has.
-/
import Derived.Test.YtcmkjoepndbicaaPrq
namespace Go.Proofs.Ytcmkjoepndbicaa
open Go.ChangeShapes Go.WideShapes Go.ChangeAt Go.RowKit

def SpK.tr (ka kb : BitVec 64) (S : Nat → Prop) (l : List Pr) : SpK := ⟨fun v W => ∃ t, v = .pointer (some ⟨t, 0, none⟩) ∧ TreeS ka kb S l t W, fun _ _ _ h ⟨t, e, ht⟩ => ⟨t, e, ht.below h⟩⟩
def SpK.rt (ka kb : BitVec 64) (S : Nat → Prop) (l : List Pr) : SpK := ⟨fun v W => ∃ t, v = .pointer (some ⟨t, 0, none⟩) ∧ RTr ka kb S l t W, fun _ _ _ h ⟨t, e, ht⟩ => ⟨t, e, ht.below h⟩⟩
/-- A row that may be written over: its block lies between X and Y. -/
def Gv (X Y : Nat) (A : Option Addr) (n : Nat) (w : World) : Prop := 0 < n → ∃ g cur, A = some ⟨g, 0, none⟩ ∧ X ≤ g ∧ g < Y ∧ w.heap[g]? = some (.cells cur 43 (0, 0)) ∧ n * 2 ≤ cur.size
theorem Gv.below {X Y : Nat} {A : Option Addr} {n : Nat} {w w' : World} (h : Gv X Y A n w) (hb : Below w.heap.size w w') : Gv X Y A n w' := fun h0 => by
  obtain ⟨g, cur, e, h1, h2, h3, h4⟩ := h h0
  exact ⟨g, cur, e, h1, h2, (hb.block _ (Array.getElem?_eq_some_iff.1 h3).1).trans h3, h4⟩
theorem Gv.set {X Y : Nat} {g : Nat} {n k : Nat} {w : World} (h : Gv X Y (some ⟨g, 0, none⟩) n w) (v : Value) : Gv X Y (some ⟨g, 0, none⟩) n (w.setCell ⟨g, k, none⟩ v) := fun h0 => by
  obtain ⟨g', cur, e, h1, h2, h3, h4⟩ := h h0
  cases e
  exact ⟨g, _, rfl, h1, h2, blk_set v h3, by simpa using h4⟩
set_option linter.unusedSimpArgs false in
set_option linter.unusedVariables false in
set_option maxRecDepth 100000 in
set_option maxHeartbeats 8000000 in
theorem roots_walk (ka kb : BitVec 64) (A : Option Addr) (n c : Nat) (l : List Pr) (w : World) (h : RP w (fun _ => True) A n l) (hnil : A = none → c = 0) (hz : ∀ k ∈ l, k.1.size ≤ 140737488351232 ∧ k.2.size ≤ 140737488351232) :
    Calls Try.prog 5 #[.agg #[.int .u64 (ka.toNat : Int), .int .u64 (kb.toNat : Int)], .slice A n c] w fun e w' => e = .returned (.bool true) ∧ Below w.heap.size w w' := by
  have hbd := h.bd
  have HL := Kp.mk h.len
  have H := Kp.mk h
  have HNL := Kp.mk hnil
  have HZ := Kp.mk hz
  clear h hnil hz
  go_enter Try.func5, Try.ntmps5
  go_upto_region 1 with fail
  refine wp_on (fun wx => Sd ka kb w.heap.size wx ∧ Below w.heap.size w wx) ⟨blk_new _ _, (Below.refl _ _).alloc (Nat.le_refl _) _⟩ (fun w1 hx => ?_)
  obtain ⟨e1, hb1⟩ := hx
  obtain ⟨X, hX⟩ : ∃ X, X = w.heap.size := ⟨_, rfl⟩
  rw [← hX] at e1
  have HX := Kp.mk hX
  rw [← hX]
  clear hX
  have E1 := Kp.mk e1
  have B1 := Kp.mk hb1
  clear e1 hb1
  go_wp2_with fail
  refine (short_one w1.heap.size A n c l _ (fun _ => True) ((H.it.below B1.it).below ((Below.refl _ _).alloc (Nat.le_refl _) _)) (blk_new _ _)).mono ?_
  rintro e w2 ⟨r, rfl, hr, hb2⟩
  have hb : Below w1.heap.size w1 w2 := ((Below.refl w1.heap.size w1).alloc (Nat.le_refl _) _).trans (hb2.mono (by simp))
  have B2 := Kp.mk hb
  clear hb hb2
  cases r with
  | false =>
    clear hr
    go_wp2_with (go_at_call 12; refine (awake_any _).mono ?_; rintro e w' ⟨rfl, hb'⟩)
    go_ret
    exact ⟨rfl, (B1.it.trans (B2.it.mono B1.it.size)).trans (hb'.mono (Nat.le_trans B1.it.size B2.it.size))⟩
  | true =>
    have HOK := Kp.mk (hr rfl)
    have hn1 : n ≤ 1000 := by rw [← HL.it]; have := HOK.it.1; omega
    have HSZ : Kp (∀ p ∈ l, p.1.size + p.2.size ≤ 140737488351232) := ⟨fun p hp => HOK.it.sum hp (HZ.it p hp).1 (HZ.it p hp).2⟩
    clear hr
    go_wp2_with fail
    refine (clonep_any A n c l w2 _ ((H.it.below B1.it).below B2.it) HNL.it hn1).mono ?_
    rintro e w3 ⟨v, rfl, hv, hb3⟩
    obtain ⟨A7, c7, rfl, hA7, hc7, hR7⟩ := hv.form (by rw [HL.it]; omega)
    rw [HL.it] at hc7 hR7
    rw [HL.it] at hv
    simp only [HL.it]
    have HG := Kp.mk hR7
    have HGC := Kp.mk hc7
    have hb13 : Below w1.heap.size w1 w3 := B2.it.trans (hb3.mono B2.it.size)
    have B3 := Kp.mk hb13
    have HI := Kp.mk ((H.it.below B1.it).below hb13)
    obtain ⟨Y, hY⟩ : ∃ Y, Y = w3.heap.size := ⟨_, rfl⟩
    have HY := Kp.mk hY.symm
    have HXY : Kp (X < Y) := ⟨by have h1 := (Array.getElem?_eq_some_iff.1 E1.it).1; have h2 := hb13.size; omega⟩
    have HGV : Kp (Gv X Y A7 n w3) := ⟨fun h0 => by
      obtain ⟨g, cur, e, _, hg, hh, hs⟩ := hv.some_ (by rw [HL.it]; exact h0)
      have h1 := (Array.getElem?_eq_some_iff.1 hh).1
      have h2 := B1.it.size
      have h3 := B2.it.size
      have h4 := HX.it
      exact ⟨g, cur, e, by omega, by omega, hh, by rw [← HL.it]; exact hs⟩⟩
    obtain ⟨z0, z1, hx3⟩ := (E1.it.below hb13).opens
    clear hv hR7 hc7 hb3 hb13 hA7 hY
    go_wp2_with fail
    refine wp_region_sp [SpK.ex (.agg #[.int .u64 (ka.toNat : Int), .int .u64 (kb.toNat : Int)]), SpK.ex (.slice A7 n c7), SpK.tr ka kb (fun b => Y ≤ b) (ofP l), SpK.ex (.agg #[.int .u64 (ka.toNat : Int), .int .u64 (kb.toNat : Int)]), SpK.ex (.slice A n c), SpK.rt ka kb (fun b => Y ≤ b) (ofP l), SpK.tr ka kb (fun b => Y ≤ b) (ofP l), SpK.rt ka kb (fun b => Y ≤ b) (ofP l)] (by kernel_rfl) (by kernel_rfl) ?_ ?_
    · intro i o ho a W hbW hG
      match i with
      | 0 =>
        have ho1 := ho
        cases ho
        have t2 : a.tmps.getD 2 undef = .pointer (some ⟨X, 0, none⟩) := hG.old 2 (by decide)
        have q0 := (hbW.cell (p := ⟨X, 0, none⟩) hx3).trans z0
        have q1 := (hbW.cell (p := ⟨X, 1, none⟩) hx3).trans z1
        exact op_value_g (w1 := W) ho1 (wanted_none rfl) (.agg #[.int .u64 (ka.toNat : Int), .int .u64 (kb.toNat : Int)]) (by simp [go_sem, Act.eval, -Array.getD_eq_getD_getElem?, t2, q0, q1]) (Gr.refl _) rfl
      | 1 =>
        have ho1 := ho
        cases ho
        have t5 : a.tmps.getD 5 undef = .slice A7 n c7 := hG.old 5 (by decide)
        exact op_value_g (w1 := W) ho1 (wanted_none rfl) (.slice A7 n c7) (by simp [go_sem, Act.eval, -Array.getD_eq_getD_getElem?, t5]) (Gr.refl _) rfl
      | 2 =>
        have ho1 := ho
        cases ho
        have t16 : a.tmps.getD 16 undef = .agg #[.int .u64 (ka.toNat : Int), .int .u64 (kb.toNat : Int)] := hG.dep 0 (by decide) 16 rfl
        have t17 : a.tmps.getD 17 undef = .slice A7 n c7 := hG.dep 1 (by decide) 17 rfl
        refine op_call_g ho1 (wanted_none rfl) 14 #[.agg #[.int .u64 (ka.toNat : Int), .int .u64 (kb.toNat : Int)], .slice A7 n c7] (by simp [go_sem, Act.eval, -Array.getD_eq_getD_getElem?, t16, t17]) ?_
        refine (of_s ka kb A7 n c7 l W _ (HG.it.below hbW) hn1 HSZ.it).mono ?_
        rintro e W' ⟨t, rfl, ht, _, hb'⟩
        exact ⟨_, rfl, hb', t, rfl, ht.relax (fun b (hb : W.heap.size ≤ b) _ => Nat.le_trans (HY.it ▸ hbW.size) hb)⟩
      | 3 =>
        have ho1 := ho
        cases ho
        have t2 : a.tmps.getD 2 undef = .pointer (some ⟨X, 0, none⟩) := hG.old 2 (by decide)
        have q0 := (hbW.cell (p := ⟨X, 0, none⟩) hx3).trans z0
        have q1 := (hbW.cell (p := ⟨X, 1, none⟩) hx3).trans z1
        exact op_value_g (w1 := W) ho1 (wanted_none rfl) (.agg #[.int .u64 (ka.toNat : Int), .int .u64 (kb.toNat : Int)]) (by simp [go_sem, Act.eval, -Array.getD_eq_getD_getElem?, t2, q0, q1]) (Gr.refl _) rfl
      | 4 =>
        have ho1 := ho
        cases ho
        have t1 : a.tmps.getD 1 undef = .slice A n c := hG.old 1 (by decide)
        exact op_value_g (w1 := W) ho1 (wanted_none rfl) (.slice A n c) (by simp [go_sem, Act.eval, -Array.getD_eq_getD_getElem?, t1]) (Gr.refl _) rfl
      | 5 =>
        have ho1 := ho
        cases ho
        have t19 : a.tmps.getD 19 undef = .agg #[.int .u64 (ka.toNat : Int), .int .u64 (kb.toNat : Int)] := hG.dep 3 (by decide) 19 rfl
        have t20 : a.tmps.getD 20 undef = .slice A n c := hG.dep 4 (by decide) 20 rfl
        refine op_call_g ho1 (wanted_none rfl) 16 #[.agg #[.int .u64 (ka.toNat : Int), .int .u64 (kb.toNat : Int)], .slice A n c] (by simp [go_sem, Act.eval, -Array.getD_eq_getD_getElem?, t19, t20]) ?_
        refine (rof_any ka kb A n c l W _ (HI.it.below hbW) hn1).mono ?_
        rintro e W' ⟨t, rfl, ht, _, hb'⟩
        exact ⟨_, rfl, hb', t, rfl, ht.relax (fun b (hb : W.heap.size ≤ b) _ => Nat.le_trans (HY.it ▸ hbW.size) hb)⟩
      | 6 =>
        have ho1 := ho
        cases ho
        obtain ⟨b18, t18, r18⟩ : (SpK.tr ka kb (fun b => Y ≤ b) (ofP l)).p (a.tmps.getD 18 undef) W := hG.dep 2 (by decide) 18 rfl
        exact op_value_g (w1 := W) ho1 (wanted_none rfl) (.pointer (some ⟨b18, 0, none⟩)) (by simp [go_sem, Act.eval, -Array.getD_eq_getD_getElem?, t18]) (Gr.refl _) ⟨b18, rfl, r18⟩
      | 7 =>
        have ho1 := ho
        cases ho
        obtain ⟨b21, t21, r21⟩ : (SpK.rt ka kb (fun b => Y ≤ b) (ofP l)).p (a.tmps.getD 21 undef) W := hG.dep 5 (by decide) 21 rfl
        exact op_value_g (w1 := W) ho1 (wanted_none rfl) (.pointer (some ⟨b21, 0, none⟩)) (by simp [go_sem, Act.eval, -Array.getD_eq_getD_getElem?, t21]) (Gr.refl _) ⟨b21, rfl, r21⟩
      | q + 8 => cases ho
    · intro a W hbW hD
      have hfr := hD.frame [16, 17, 18, 19, 20, 21, 6, 7] (by kernel_rfl)
      have t16 : a.tmps.getD 16 undef = .agg #[.int .u64 (ka.toNat : Int), .int .u64 (kb.toNat : Int)] := hD.sp 0 (by decide) 16 rfl
      have t17 : a.tmps.getD 17 undef = .slice A7 n c7 := hD.sp 1 (by decide) 17 rfl
      have t19 : a.tmps.getD 19 undef = .agg #[.int .u64 (ka.toNat : Int), .int .u64 (kb.toNat : Int)] := hD.sp 3 (by decide) 19 rfl
      have t20 : a.tmps.getD 20 undef = .slice A n c := hD.sp 4 (by decide) 20 rfl
      obtain ⟨b6, t6, r6⟩ : (SpK.tr ka kb (fun b => Y ≤ b) (ofP l)).p (a.tmps.getD 6 undef) W := hD.sp 6 (by decide) 6 rfl
      obtain ⟨b7, t7, r7⟩ : (SpK.rt ka kb (fun b => Y ≤ b) (ofP l)).p (a.tmps.getD 7 undef) W := hD.sp 7 (by decide) 7 rfl
      simp only [List.foldl_cons, List.foldl_nil] at hfr
      rw [t16, t17, t19, t20, t6, t7] at hfr
      generalize a.tmps.getD 18 undef = u18 at hfr
      generalize a.tmps.getD 21 undef = u21 at hfr
      rw [hfr]
      clear hfr hD t16 t17 t19 t20 t6 t7
      have HBW := Kp.mk hbW
      clear hbW
      simp only [Act.put, List.setIfInBounds_toArray, List.set_cons_succ, List.set_cons_zero]
      have TS0 := Kp.mk r6
      have TR0 := Kp.mk r7
      have GV0 := Kp.mk (HGV.it.below HBW.it)
      have BW0 : Kp (Below w.heap.size w W) := ⟨(B1.it.trans (B3.it.mono B1.it.size)).trans (HBW.it.mono (Nat.le_trans B1.it.size B3.it.size))⟩
      clear r6 r7 z0 z1 hx3 HBW
      go_wp2
      go_loopw [24] (fun i wr => ∃ k : Nat, k ≤ n ∧ i = .int .i64 k ∧ Kp (TreeS ka kb (fun b => Y ≤ b) (ofP l) b6 wr) ∧ Kp (RTr ka kb (fun b => Y ≤ b) (ofP l) b7 wr) ∧ Kp (Gv X Y A7 n wr) ∧ Kp (Below w.heap.size w wr)) (fun i _ => n - (intOf i).toNat)
      case atStart => exact ⟨0, by omega, rfl, TS0, TR0, GV0, BW0⟩
      case round =>
        clear TS0 TR0 GV0 BW0
        obtain ⟨k, hk, rfl, TS, TR, GV, BW⟩ := hrel
        by_cases hkn : k < n
        · have hd : decide ((k : Int) < (n : Int)) = true := by simp; omega
          obtain ⟨g, cur, rfl, hg1, hg2, hgc, hgs⟩ := GV.it (by omega)
          obtain ⟨v0, hv0⟩ : ∃ v, cur[k * 2]? = some v := ⟨_, Array.getElem?_eq_getElem (by omega)⟩
          have y0 : wr.cell? ⟨g, k * 2, none⟩ = some v0 := blk_cell hgc hv0
          have u0 : wr.frozen? ⟨g, k * 2, none⟩ = false := blk_free hgc
          have hgl := (Array.getElem?_eq_some_iff.1 hgc).1
          have HG1 : Kp (w.heap.size ≤ g) := ⟨by have := HX.it; omega⟩
          clear hgc hv0 hg1
          go_wp2
          go_roundw
          case rel => exact ⟨k + 1, by omega, by go_num, ⟨TS.it.same (Same.of_set _ _ (by omega))⟩, ⟨TR.it.same (Same.of_set _ _ (by omega))⟩, ⟨GV.it.set _⟩, ⟨BW.it.setCell HG1.it _⟩⟩
          case measure => simp [intOf]; omega
        · obtain rfl : k = n := by omega
          have hd : decide ((k : Int) < (k : Int)) = false := by simp
          have HDG := Kp.mk (rdig_any ka kb (fun b => Y ≤ b) b7 (ofP l) (by have := ofP_len l; have := HL.it; omega) (fun p hp => HSZ.it p (ofP_mem l p hp)) 4 (Nat.le_refl _))
          obtain ⟨_, A9, n9, c9, h9, hr9⟩ := TR.it
          have HN9 : Kp ((ofP l).length = n9) := ⟨hr9.len⟩
          have z9 : wr.cell? ⟨b7, 2, none⟩ = some (.slice A9 n9 c9) := blk_cell h9 rfl
          have hl9 := (Array.getElem?_eq_some_iff.1 h9).1
          clear h9 hr9
          go_wp2_with fail
          refine wp_region_sp [SpK.ex (.pointer (some ⟨b6, 0, none⟩)), SpK.ex (.int .u64 ((digU ka kb 4 (ofP l)).toNat : Int)), SpK.ex (.pointer (some ⟨b7, 0, none⟩)), SpK.ex (.int .u64 ((digU ka kb 4 (ofP l)).toNat : Int)), SpK.ex (.bool true), SpK.ex (.bool true), SpK.ex (.pointer (some ⟨b6, 0, none⟩)), SpK.ex (.int .i64 (n9 : Int)), SpK.ex (.pointer (some ⟨b7, 0, none⟩)), SpK.ex (.pointer (some ⟨b7, 0, none⟩)), SpK.ex (.pointer (some ⟨b7, 2, none⟩)), SpK.ex (.slice A9 n9 c9), SpK.ex (.int .i64 (n9 : Int)), SpK.ex (.bool true), SpK.ex (.bool true), SpK.ex (.bool true), SpK.ex (.bool true), SpK.ex (.bool true), SpK.ex (.bool true)] (by kernel_rfl) (by kernel_rfl) ?_ ?_
          · intro i o ho a W hbW hG
            match i with
            | 0 =>
              have ho1 := ho
              cases ho
              have t6 : a.tmps.getD 6 undef = .pointer (some ⟨b6, 0, none⟩) := hG.old 6 (by decide)
              exact op_value_g (w1 := W) ho1 (wanted_none rfl) (.pointer (some ⟨b6, 0, none⟩)) (by simp [go_sem, Act.eval, -Array.getD_eq_getD_getElem?, t6]) (Gr.refl _) rfl
            | 1 =>
              have ho1 := ho
              cases ho
              have t32 : a.tmps.getD 32 undef = .pointer (some ⟨b6, 0, none⟩) := hG.dep 0 (by decide) 32 rfl
              refine op_call_g ho1 (wanted_none rfl) 27 #[.pointer (some ⟨b6, 0, none⟩)] (by simp [go_sem, Act.eval, -Array.getD_eq_getD_getElem?, t32]) ?_
              refine (root_any (TS.it.any.below hbW)).mono ?_
              rintro e W' ⟨rfl, hb'⟩
              exact ⟨_, rfl, hb', rfl⟩
            | 2 =>
              have ho1 := ho
              cases ho
              have t7 : a.tmps.getD 7 undef = .pointer (some ⟨b7, 0, none⟩) := hG.old 7 (by decide)
              exact op_value_g (w1 := W) ho1 (wanted_none rfl) (.pointer (some ⟨b7, 0, none⟩)) (by simp [go_sem, Act.eval, -Array.getD_eq_getD_getElem?, t7]) (Gr.refl _) rfl
            | 3 =>
              have ho1 := ho
              cases ho
              have t34 : a.tmps.getD 34 undef = .pointer (some ⟨b7, 0, none⟩) := hG.dep 2 (by decide) 34 rfl
              refine op_call_g ho1 (wanted_none rfl) 28 #[.pointer (some ⟨b7, 0, none⟩), .slice none 0 0] (by simp [go_sem, Act.eval, -Array.getD_eq_getD_getElem?, t34]) ?_
              refine (HDG.it none 0 0 [] W (TR.it.below hbW) ⟨rfl, by decide, fun h => absurd h (by decide)⟩ (fun _ => rfl) rfl).mono ?_
              rintro e W' ⟨rfl, hb'⟩
              exact ⟨_, rfl, hb', by rw [inP_nil]; rfl⟩
            | 4 =>
              have ho1 := ho
              cases ho
              have t33 : a.tmps.getD 33 undef = .int .u64 ((digU ka kb 4 (ofP l)).toNat : Int) := hG.dep 1 (by decide) 33 rfl
              have t35 : a.tmps.getD 35 undef = .int .u64 ((digU ka kb 4 (ofP l)).toNat : Int) := hG.dep 3 (by decide) 35 rfl
              exact op_value_g (w1 := W) ho1 (wanted_none rfl) (.bool true) (by simp [go_sem, Act.eval, -Array.getD_eq_getD_getElem?, t33, t35]) (Gr.refl _) rfl
            | 5 =>
              have ho1 := ho
              cases ho
              have t36 : a.tmps.getD 36 undef = .bool true := hG.dep 4 (by decide) 36 rfl
              exact op_value_g (w1 := W) ho1 (wanted_none rfl) (.bool true) (by simp [go_sem, Act.eval, -Array.getD_eq_getD_getElem?, t36]) (Gr.refl _) rfl
            | 6 =>
              have ho1 := ho
              cases ho
              have t6 : a.tmps.getD 6 undef = .pointer (some ⟨b6, 0, none⟩) := hG.old 6 (by decide)
              have t37 : a.tmps.getD 37 undef = .bool true := hG.dep 5 (by decide) 37 rfl
              exact op_value_g (w1 := W) ho1 (wanted_yes rfl rfl t37) (.pointer (some ⟨b6, 0, none⟩)) (by simp [go_sem, Act.eval, -Array.getD_eq_getD_getElem?, t6, t37]) (Gr.refl _) rfl
            | 7 =>
              have ho1 := ho
              cases ho
              have t38 : a.tmps.getD 38 undef = .pointer (some ⟨b6, 0, none⟩) := hG.dep 6 (by decide) 38 rfl
              have t37 : a.tmps.getD 37 undef = .bool true := hG.dep 5 (by decide) 37 rfl
              refine op_call_g ho1 (wanted_yes rfl rfl t37) 29 #[.pointer (some ⟨b6, 0, none⟩)] (by simp [go_sem, Act.eval, -Array.getD_eq_getD_getElem?, t38, t37]) ?_
              refine (len_any (TS.it.any.below hbW)).mono ?_
              rintro e W' ⟨rfl, hb'⟩
              exact ⟨_, rfl, hb', by rw [HN9.it]; rfl⟩
            | 8 =>
              have ho1 := ho
              cases ho
              have t7 : a.tmps.getD 7 undef = .pointer (some ⟨b7, 0, none⟩) := hG.old 7 (by decide)
              have t37 : a.tmps.getD 37 undef = .bool true := hG.dep 5 (by decide) 37 rfl
              exact op_value_g (w1 := W) ho1 (wanted_yes rfl rfl t37) (.pointer (some ⟨b7, 0, none⟩)) (by simp [go_sem, Act.eval, -Array.getD_eq_getD_getElem?, t7, t37]) (Gr.refl _) rfl
            | 9 =>
              have ho1 := ho
              cases ho
              have t40 : a.tmps.getD 40 undef = .pointer (some ⟨b7, 0, none⟩) := hG.dep 8 (by decide) 40 rfl
              have t37 : a.tmps.getD 37 undef = .bool true := hG.dep 5 (by decide) 37 rfl
              exact op_value_g (w1 := W) ho1 (wanted_yes rfl rfl t37) (.pointer (some ⟨b7, 0, none⟩)) (by simp [go_sem, Act.eval, -Array.getD_eq_getD_getElem?, t40, t37]) (Gr.refl _) rfl
            | 10 =>
              have ho1 := ho
              cases ho
              have t41 : a.tmps.getD 41 undef = .pointer (some ⟨b7, 0, none⟩) := hG.dep 9 (by decide) 41 rfl
              have t37 : a.tmps.getD 37 undef = .bool true := hG.dep 5 (by decide) 37 rfl
              exact op_value_g (w1 := W) ho1 (wanted_yes rfl rfl t37) (.pointer (some ⟨b7, 2, none⟩)) (by simp [go_sem, Act.eval, -Array.getD_eq_getD_getElem?, t41, t37]) (Gr.refl _) rfl
            | 11 =>
              have ho1 := ho
              cases ho
              have t42 : a.tmps.getD 42 undef = .pointer (some ⟨b7, 2, none⟩) := hG.dep 10 (by decide) 42 rfl
              have t37 : a.tmps.getD 37 undef = .bool true := hG.dep 5 (by decide) 37 rfl
              have q0 := (hbW.cell (p := ⟨b7, 2, none⟩) hl9).trans z9
              exact op_value_g (w1 := W) ho1 (wanted_yes rfl rfl t37) (.slice A9 n9 c9) (by simp [go_sem, Act.eval, -Array.getD_eq_getD_getElem?, t42, t37, q0]) (Gr.refl _) rfl
            | 12 =>
              have ho1 := ho
              cases ho
              have t43 : a.tmps.getD 43 undef = .slice A9 n9 c9 := hG.dep 11 (by decide) 43 rfl
              have t37 : a.tmps.getD 37 undef = .bool true := hG.dep 5 (by decide) 37 rfl
              exact op_value_g (w1 := W) ho1 (wanted_yes rfl rfl t37) (.int .i64 (n9 : Int)) (by simp [go_sem, Act.eval, -Array.getD_eq_getD_getElem?, t43, t37]) (Gr.refl _) rfl
            | 13 =>
              have ho1 := ho
              cases ho
              have t39 : a.tmps.getD 39 undef = .int .i64 (n9 : Int) := hG.dep 7 (by decide) 39 rfl
              have t44 : a.tmps.getD 44 undef = .int .i64 (n9 : Int) := hG.dep 12 (by decide) 44 rfl
              have t37 : a.tmps.getD 37 undef = .bool true := hG.dep 5 (by decide) 37 rfl
              exact op_value_g (w1 := W) ho1 (wanted_yes rfl rfl t37) (.bool true) (by simp [go_sem, Act.eval, -Array.getD_eq_getD_getElem?, t39, t44, t37]) (Gr.refl _) rfl
            | 14 =>
              have ho1 := ho
              cases ho
              have t37 : a.tmps.getD 37 undef = .bool true := hG.dep 5 (by decide) 37 rfl
              have t45 : a.tmps.getD 45 undef = .bool true := hG.dep 13 (by decide) 45 rfl
              exact op_value_g (w1 := W) ho1 (wanted_none rfl) (.bool true) (by simp [go_sem, Act.eval, -Array.getD_eq_getD_getElem?, t37, t45]) (Gr.refl _) rfl
            | 15 =>
              have ho1 := ho
              cases ho
              have t46 : a.tmps.getD 46 undef = .bool true := hG.dep 14 (by decide) 46 rfl
              exact op_value_g (w1 := W) ho1 (wanted_none rfl) (.bool true) (by simp [go_sem, Act.eval, -Array.getD_eq_getD_getElem?, t46]) (Gr.refl _) rfl
            | 16 =>
              have ho1 := ho
              cases ho
              have t47 : a.tmps.getD 47 undef = .bool true := hG.dep 15 (by decide) 47 rfl
              refine op_call_g ho1 (wanted_yes rfl rfl t47) 12 #[] (by simp [go_sem, Act.eval, -Array.getD_eq_getD_getElem?]) ?_
              refine (awake_any W).mono ?_
              rintro e W' ⟨rfl, hb'⟩
              exact ⟨_, rfl, hb', rfl⟩
            | 17 =>
              have ho1 := ho
              cases ho
              have t47 : a.tmps.getD 47 undef = .bool true := hG.dep 15 (by decide) 47 rfl
              have t48 : a.tmps.getD 48 undef = .bool true := hG.dep 16 (by decide) 48 rfl
              exact op_value_g (w1 := W) ho1 (wanted_none rfl) (.bool true) (by simp [go_sem, Act.eval, -Array.getD_eq_getD_getElem?, t47, t48]) (Gr.refl _) rfl
            | 18 =>
              have ho1 := ho
              cases ho
              have t49 : a.tmps.getD 49 undef = .bool true := hG.dep 17 (by decide) 49 rfl
              exact op_value_g (w1 := W) ho1 (wanted_none rfl) (.bool true) (by simp [go_sem, Act.eval, -Array.getD_eq_getD_getElem?, t49]) (Gr.refl _) rfl
            | q + 19 => cases ho
          · intro a W hbW hD
            have hfr := hD.frame [32, 33, 34, 35, 36, 37, 38, 39, 40, 41, 42, 43, 44, 45, 46, 47, 48, 49, 4] (by kernel_rfl)
            have t32 : a.tmps.getD 32 undef = .pointer (some ⟨b6, 0, none⟩) := hD.sp 0 (by decide) 32 rfl
            have t33 : a.tmps.getD 33 undef = .int .u64 ((digU ka kb 4 (ofP l)).toNat : Int) := hD.sp 1 (by decide) 33 rfl
            have t34 : a.tmps.getD 34 undef = .pointer (some ⟨b7, 0, none⟩) := hD.sp 2 (by decide) 34 rfl
            have t35 : a.tmps.getD 35 undef = .int .u64 ((digU ka kb 4 (ofP l)).toNat : Int) := hD.sp 3 (by decide) 35 rfl
            have t36 : a.tmps.getD 36 undef = .bool true := hD.sp 4 (by decide) 36 rfl
            have t37 : a.tmps.getD 37 undef = .bool true := hD.sp 5 (by decide) 37 rfl
            have t38 : a.tmps.getD 38 undef = .pointer (some ⟨b6, 0, none⟩) := hD.sp 6 (by decide) 38 rfl
            have t39 : a.tmps.getD 39 undef = .int .i64 (n9 : Int) := hD.sp 7 (by decide) 39 rfl
            have t40 : a.tmps.getD 40 undef = .pointer (some ⟨b7, 0, none⟩) := hD.sp 8 (by decide) 40 rfl
            have t41 : a.tmps.getD 41 undef = .pointer (some ⟨b7, 0, none⟩) := hD.sp 9 (by decide) 41 rfl
            have t42 : a.tmps.getD 42 undef = .pointer (some ⟨b7, 2, none⟩) := hD.sp 10 (by decide) 42 rfl
            have t43 : a.tmps.getD 43 undef = .slice A9 n9 c9 := hD.sp 11 (by decide) 43 rfl
            have t44 : a.tmps.getD 44 undef = .int .i64 (n9 : Int) := hD.sp 12 (by decide) 44 rfl
            have t45 : a.tmps.getD 45 undef = .bool true := hD.sp 13 (by decide) 45 rfl
            have t46 : a.tmps.getD 46 undef = .bool true := hD.sp 14 (by decide) 46 rfl
            have t47 : a.tmps.getD 47 undef = .bool true := hD.sp 15 (by decide) 47 rfl
            have t48 : a.tmps.getD 48 undef = .bool true := hD.sp 16 (by decide) 48 rfl
            have t49 : a.tmps.getD 49 undef = .bool true := hD.sp 17 (by decide) 49 rfl
            have t4 : a.tmps.getD 4 undef = .bool true := hD.sp 18 (by decide) 4 rfl
            simp only [List.foldl_cons, List.foldl_nil] at hfr
            rw [t32, t33, t34, t35, t36, t37, t38, t39, t40, t41, t42, t43, t44, t45, t46, t47, t48, t49, t4] at hfr
            rw [hfr]
            clear hfr hD t32 t33 t34 t35 t36 t37 t38 t39 t40 t41 t42 t43 t44 t45 t46 t47 t48 t49 t4
            have HBW := Kp.mk hbW
            clear hbW
            simp only [Act.put, List.setIfInBounds_toArray, List.set_cons_succ, List.set_cons_zero]
            go_wp2
            go_ret
            exact ⟨rfl, BW.it.trans (HBW.it.mono BW.it.size)⟩

section
variable {H : Type} {enc : TypeId × Value → H} {W : World}
set_option maxRecDepth 100000 in
theorem seed_open {base : Nat} {v : Value} {d : DataW H} {p : List MemPlace} (hv : Value.okWide Try.prog W .any base 24 v) (h : DataW.Trod enc Try.prog W 0 (fun _ => true) true 24 v d p) :
    ∃ ka kb : BitVec 64, v = .agg #[.int .u64 (ka.toNat : Int), .int .u64 (kb.toNat : Int)] := by
  obtain ⟨v0, v1, y0, y1, n, rfl, rfl, rfl, h0, h1⟩ := Go.Joins.open_agg2 Try.underlying24 (by kernel_rfl) (by kernel_rfl) hv h
  obtain ⟨a, e0, rfl, w0⟩ := DataW.trod_int Try.underlying22 h0
  obtain ⟨b, e1, rfl, w1⟩ := DataW.trod_int Try.underlying22 h1
  cases e0
  cases e1
  simp [Lit.wf, IntKind.min, IntKind.max, IntKind.bits, IntKind.signed] at w0 w1
  refine ⟨BitVec.ofNat 64 a.toNat, BitVec.ofNat 64 b.toNat, ?_⟩
  rw [BitVec.toNat_ofNat, BitVec.toNat_ofNat, Nat.mod_eq_of_lt (by omega), Nat.mod_eq_of_lt (by omega), Int.toNat_of_nonneg (by omega), Int.toNat_of_nonneg (by omega)]
set_option maxRecDepth 100000 in
theorem pr_open {base : Nat} {v : Value} {d : DataW H} {p : List MemPlace} (hv : Value.okWide Try.prog W .any base 43 v) (h : DataW.Trod enc Try.prog W 0 (fun _ => true) true 43 v d p) (hz : ∀ x ∈ DataW.weights Try.prog 43 d, x ≤ reachBytes) :
    ∃ k : Pr, v = .agg #[.string k.1, .string k.2] ∧ k.1.size ≤ 140737488351232 ∧ k.2.size ≤ 140737488351232 := by
  obtain ⟨v0, v1, y0, y1, n, rfl, rfl, rfl, h0, h1⟩ := Go.Joins.open_agg2 Try.underlying43 (by kernel_rfl) (by kernel_rfl) hv h
  obtain ⟨a, e0, rfl, _⟩ := DataW.trod_string Try.underlying9 h0
  obtain ⟨b, e1, rfl, _⟩ := DataW.trod_string Try.underlying9 h1
  cases e0
  cases e1
  have hr : reachBytes = 140737488351232 := rfl
  have z0 := hz a.data.toList.length (by simp [DataW.weights, DataW.weightsEach, Try.underlying43])
  have z1 := hz b.data.toList.length (by simp [DataW.weights, DataW.weightsEach, Try.underlying43])
  rw [hr, Array.length_toList] at z0 z1
  exact ⟨(a, b), rfl, z0, z1⟩
end

set_option linter.unusedVariables false in
set_option maxRecDepth 100000 in
theorem digestRoots_lifted (os : Os) (started : os.Started) (H : Type) (enc : TypeId × Value → H) :
    ReturnsInHanded {} Try.checked os 5 .any (Rows.digestRootsSpec.pre6 enc Try.prog Try.f5 Rows.digestRootsRow.domain false) (Rows.digestRootsSpec.post enc Try.prog Try.f5 false true false false) := by
  refine returnsInHanded_of_change_sized (C := Try.checked) (by kernel_rfl) started (by kernel_rfl) Try.func5
    (ChangeSpec.witness6 (enc := enc) (C := Try.checked) false ⟨#[], #[.agg #[.int .u64 0, .int .u64 0], .slice none 0 0], []⟩ 8 (by kernel_rfl) (by kernel_rfl) (by kernel_rfl) (by kernel_rfl)) ?_
  intro W base args ds gs before hval0 hW hcnd hsz0 _
  have hval : ∀ (j : Nat) t v, Try.f5.params[j]? = some t → args[j]? = some v → Value.okWide Try.prog W .any base t v := hval0
  have hW' := hW
  obtain ⟨p, q, hA0, hV, rfl, hfz, hnd⟩ := hW
  have hA : DataW.TrodAll enc Try.prog W 0 (fun _ => true) true Try.f5.params.toList args.toList ds p := hA0
  have hsz : (DataW.weightsEach Try.prog (Try.f5.params.toList ++ Rows.digestRootsSpec.plain.varTypes Try.prog) (ds ++ gs)).all (· ≤ reachBytes) = true := hsz0
  rw [Try.params5] at hA hval hsz
  obtain ⟨v0, vs0, d0, ds0, p0, q0, hargs, rfl, rfl, h0, r0⟩ := trodAll_cons hA
  obtain ⟨v1, vs1, d1, ds1, p1, q1, rfl, rfl, rfl, h1, r1⟩ := trodAll_cons r0
  obtain ⟨rfl, rfl, rfl⟩ := trodAll_nil r1
  obtain rfl : args = #[v0, v1] := by cases args; simp_all
  obtain ⟨rfl, rfl⟩ := trodVars_none hV
  have k0 := h0
  have lt0 : ∀ x ∈ p0, x.block < W.heap.size := by obtain ⟨m, hm⟩ := k0; exact DataW.trod_lt m _ _ _ hm
  obtain ⟨ka0, kb0, rfl⟩ := seed_open (hval 0 24 v0 rfl rfl) h0
  have k1 := h1
  have lt1 : ∀ x ∈ p1, x.block < W.heap.size := by obtain ⟨m, hm⟩ := k1; exact DataW.trod_lt m _ _ _ hm
  obtain ⟨A1, n1, c1, ks1, rfl, ra1, ea1, bd1, nc1, bs1⟩ := prs_open (hval 1 25 v1 rfl rfl) h1 (fun x hx => by simpa using List.all_eq_true.1 hsz x (DataW.weights_mem_each (j := 1) (t := 25) rfl rfl x hx))
  clear hA0 hval0 hsz hsz0
  refine (roots_walk ka0 kb0 A1 n1 c1 ks1 W ra1 ea1 bs1).mono fun e W' ⟨he, bel⟩ => ?_
  subst he
  exact ⟨_, rfl, _, _, _, [], _, [], hW', trodAll_mk1 (shut_bool Try.underlying4 _), (trodAll_cons_mk (Below.trod (by kernel_rfl) (by kernel_rfl) (of_decide_eq_true (by kernel_rfl)) k0 bel lt0) (trodAll_cons_mk (Below.trod (by kernel_rfl) (by kernel_rfl) (of_decide_eq_true (by kernel_rfl)) k1 bel lt1) trodAll_mk0)), rfl, bel.frame _, fun h => by cases h⟩

theorem DigestRoots_holds : Rows.DigestRootsSaid :=
  OpenClaim.holds_of_wide 5 Try.f5 rfl rfl rfl rfl rfl rfl rfl ⟨rfl, rfl, rfl, rfl, rfl⟩ rfl rfl rfl rfl rfl (by kernel_rfl) Try.func5 (by kernel_rfl)
    (of_decide_eq_true (by kernel_rfl)) (by unfold Func.isWrapper; first | (rw [if_pos (by decide +kernel)]; kernel_rfl) | (rw [if_neg (by decide +kernel)]; exact ⟨rfl, rfl⟩))
    (fun os started H enc _ => digestRoots_lifted os started H enc)
end Go.Proofs.Ytcmkjoepndbicaa
