/-
  DigestUnlike: what two maps have unlike, as far as digests tell, and what it takes to find it.
-/
import Derived.Test.YtcmkjoepndbicaaUnv
namespace Go.Proofs.Ytcmkjoepndbicaa
open Go.ChangeShapes Go.WideShapes Go.ChangeAt Go.RowKit

/-- A row of strings apart from the block. -/
def rtP (ss : List ByteArray) (u : Value) (A : Option Addr) (n : Nat) (w : World) : Prop := RT w A n ss ∧ ∀ b o s, A = some ⟨b, o, s⟩ → ownOf u ≠ some b ∧ b < w.heap.size
theorem rtP.mono {ss : List ByteArray} {u : Value} {A : Option Addr} {n : Nat} {w w' : World} (h : RT w A n ss) (ha : ∀ b o s, A = some ⟨b, o, s⟩ → ownOf u ≠ some b ∧ b < w.heap.size) (hb : Gr w w') : RT w' A n ss ∧ ∀ b o s, A = some ⟨b, o, s⟩ → ownOf u ≠ some b ∧ b < w'.heap.size :=
  ⟨h.below hb, fun b o s e => ⟨(ha b o s e).1, Nat.lt_of_lt_of_le (ha b o s e).2 hb.size⟩⟩
theorem rtP.switch {ss : List ByteArray} {u0 u : Value} {A : Option Addr} {n : Nat} {w w' : World} (h : RT w A n ss) (ha : ∀ b o s, A = some ⟨b, o, s⟩ → ownOf u0 ≠ some b ∧ b < w.heap.size) (hb : Gr w w') (hu : ∀ b, ownOf u = some b → w.heap.size ≤ b) : RT w' A n ss ∧ ∀ b o s, A = some ⟨b, o, s⟩ → ownOf u ≠ some b ∧ b < w'.heap.size :=
  ⟨h.below hb, fun b o s e => ⟨fun h1 => by have h2 := hu b h1; have h3 := (ha b o s e).2; omega, Nat.lt_of_lt_of_le (ha b o s e).2 hb.size⟩⟩
theorem rtP.keep {ss : List ByteArray} {u : Value} {A : Option Addr} {n : Nat} {w w' : World} (h : RT w A n ss) (ha : ∀ b o s, A = some ⟨b, o, s⟩ → ownOf u ≠ some b ∧ b < w.heap.size) (hg : w.grownBy w' (ownOf u)) : RT w' A n ss ∧ ∀ b o s, A = some ⟨b, o, s⟩ → ownOf u ≠ some b ∧ b < w'.heap.size :=
  ⟨⟨h.len, h.bd, fun hn => by
    obtain ⟨b, o, e, hl, hc⟩ := h.row hn
    refine ⟨b, o, e, Nat.lt_of_lt_of_le hl hg.size, fun i s hs => ?_⟩
    have hb := hg.block b hl (fun e2 => (ha b o none e).1 e2.symm)
    unfold World.cell? at *
    rw [hb]
    exact hc i s hs⟩, fun b o s e => ⟨(ha b o s e).1, Nat.lt_of_lt_of_le (ha b o s e).2 hg.size⟩⟩
def SpO.rts (ss : List ByteArray) : SpO where
  p := fun u v w => ∃ A n c, v = .slice A n c ∧ RT w A n ss ∧ ∀ b o s, A = some ⟨b, o, s⟩ → ownOf u ≠ some b ∧ b < w.heap.size
  mono := fun _ _ _ _ h ⟨A, n, c, e, hr, ha⟩ => ⟨A, n, c, e, rtP.mono hr ha h⟩
  switch := fun _ _ _ _ _ _ h hb ⟨A, n, c, e, hr, ha⟩ => ⟨A, n, c, e, rtP.switch hr ha h hb⟩
  keep := fun _ _ _ _ h ⟨A, n, c, e, hr, ha⟩ => ⟨A, n, c, e, rtP.keep hr ha h⟩
def SpO.tup (ss : List ByteArray) (dp : Value) : SpO where
  p := fun u v w => ∃ A n c, v = .tuple #[.slice A n c, dp, .int .i64 0] ∧ RT w A n ss ∧ ∀ b o s, A = some ⟨b, o, s⟩ → ownOf u ≠ some b ∧ b < w.heap.size
  mono := fun _ _ _ _ h ⟨A, n, c, e, hr, ha⟩ => ⟨A, n, c, e, rtP.mono hr ha h⟩
  switch := fun _ _ _ _ _ _ h hb ⟨A, n, c, e, hr, ha⟩ => ⟨A, n, c, e, rtP.switch hr ha h hb⟩
  keep := fun _ _ _ _ h ⟨A, n, c, e, hr, ha⟩ => ⟨A, n, c, e, rtP.keep hr ha h⟩
def SpO.rtr (ka kb : BitVec 64) (l : List Pr) : SpO where
  p := fun u v w => ∃ s, v = .pointer (some ⟨s, 0, none⟩) ∧ RTr ka kb (fun b => ownOf u ≠ some b) l s w
  mono := fun _ _ _ _ h ⟨s, e, ht⟩ => ⟨s, e, ht.below h⟩
  switch := fun _ _ _ _ _ _ h hb ⟨s, e, ht⟩ => ⟨s, e, (ht.relax (fun b _ hlt hu => by have := hb b hu; omega)).below h⟩
  keep := fun _ _ _ _ h ⟨s, e, ht⟩ => ⟨s, e, ht.same (Same.of_grown h (fun _ hb => hb))⟩
set_option linter.unusedSimpArgs false in
set_option linter.unusedVariables false in
set_option maxRecDepth 100000 in
set_option maxHeartbeats 8000000 in
theorem unlike_walk (ka kb : BitVec 64) (A : Option Addr) (n c : Nat) (la : List Pr) (B : Option Addr) (m d : Nat) (lb : List Pr) (w : World) (h : RP w (fun _ => True) A n la) (hz : ∀ k ∈ la, k.1.size ≤ 140737488351232 ∧ k.2.size ≤ 140737488351232) (h' : RP w (fun _ => True) B m lb) (hz' : ∀ k ∈ lb, k.1.size ≤ 140737488351232 ∧ k.2.size ≤ 140737488351232) :
    Calls Try.prog 3 #[.agg #[.int .u64 (ka.toNat : Int), .int .u64 (kb.toNat : Int)], .slice A n c, .slice B m d] w fun e w' => e = .returned (.bool true) ∧ Below w.heap.size w w' := by
  have hbd := h.bd
  have hbd' := h'.bd
  have HLa := Kp.mk h.len
  have HLb := Kp.mk h'.len
  have H := Kp.mk h
  have H' := Kp.mk h'
  have HZ := Kp.mk hz
  have HZ' := Kp.mk hz'
  clear h hz h' hz'
  go_enter Try.func3, Try.ntmps3
  go_upto_region 1 with fail
  refine wp_on (fun wx => Sd ka kb w.heap.size wx ∧ Below w.heap.size w wx) ⟨blk_new _ _, (Below.refl _ _).alloc (Nat.le_refl _) _⟩ (fun w1 hx => ?_)
  obtain ⟨e1, hb1⟩ := hx
  obtain ⟨X, hX⟩ : ∃ X, X = w.heap.size := ⟨_, rfl⟩
  rw [← hX] at e1
  have HX := Kp.mk hX
  rw [← hX]
  clear hX
  have E1 := Kp.mk e1
  have B1 := Kp.mk hb1
  clear e1 hb1
  go_wp2_with fail
  have hbn : Below w1.heap.size w1 (w1.alloc (.cells #[.slice A n c, .slice B m d] 25)) := (Below.refl _ _).alloc (Nat.le_refl _) _
  refine (short_any w1.heap.size 2 (fun k => if k = 0 then A else B) (fun k => if k = 0 then n else m) (fun k => if k = 0 then c else d) (fun k => if k = 0 then la else lb) _ (fun _ => True) (by omega) (fun k hk => ?_) (fun k hk => ?_) (by simp)).mono ?_
  · match k, hk with
    | 0, _ => exact (H.it.below B1.it).below hbn
    | 1, _ => exact (H'.it.below B1.it).below hbn
    | k + 2, h => omega
  · match k, hk with
    | 0, _ => exact blk_cell (blk_new _ _) rfl
    | 1, _ => exact blk_cell (blk_new _ _) rfl
    | k + 2, h => omega
  rintro e w2 ⟨r, rfl, hr, hb2⟩
  have hb : Below w1.heap.size w1 w2 := hbn.trans (hb2.mono (by simp))
  have B2 := Kp.mk hb
  clear hb hb2 hbn
  have BW2 : Kp (Below w.heap.size w w2) := ⟨B1.it.trans (B2.it.mono B1.it.size)⟩
  cases r with
  | false =>
    clear hr
    go_wp2_with (go_at_call 12; refine (awake_any _).mono ?_; rintro e w' ⟨rfl, hb'⟩)
    go_ret
    exact ⟨rfl, BW2.it.trans (hb'.mono BW2.it.size)⟩
  | true =>
    have HOKa : Kp (okL la) := ⟨hr rfl 0 (by omega)⟩
    have HOKb : Kp (okL lb) := ⟨hr rfl 1 (by omega)⟩
    have hn60 : n ≤ 60 := by rw [← HLa.it]; exact HOKa.it.1
    have hm60 : m ≤ 60 := by rw [← HLb.it]; exact HOKb.it.1
    have hn1 : n ≤ 1000 := by omega
    have hm1 : m ≤ 1000 := by omega
    have HSA : Kp (∀ p ∈ la, p.1.size + p.2.size ≤ 140737488351232) := ⟨fun p hp => HOKa.it.sum hp (HZ.it p hp).1 (HZ.it p hp).2⟩
    have HSB : Kp (∀ p ∈ lb, p.1.size + p.2.size ≤ 140737488351232) := ⟨fun p hp => HOKb.it.sum hp (HZ'.it p hp).1 (HZ'.it p hp).2⟩
    clear hr
    by_cases hsum : 30 < n + m
    · have hd30 : decide ((30 : Int) < (n : Int) + (m : Int)) = true := by simp; omega
      go_wp2_with (go_at_call 12; refine (awake_any _).mono ?_; rintro e w' ⟨rfl, hb'⟩)
      go_ret
      exact ⟨rfl, BW2.it.trans (hb'.mono BW2.it.size)⟩
    · have hd30 : decide ((30 : Int) < (n : Int) + (m : Int)) = false := by rw [decide_eq_false_iff_not]; omega
      have HIA := Kp.mk ((H.it.below B1.it).below B2.it)
      have HIB := Kp.mk ((H'.it.below B1.it).below B2.it)
      have hla : (ofP la).length ≤ 60 := by have := ofP_len la; have := HLa.it; omega
      have hlb : (ofP lb).length ≤ 60 := by have := ofP_len lb; have := HLb.it; omega
      have HLA : Kp ((ofP la).length ≤ 1000) := ⟨by omega⟩
      have HLB : Kp ((ofP lb).length ≤ 1000) := ⟨by omega⟩
      have HLA4 : Kp ((ofP la).length ≤ 400) := ⟨by omega⟩
      have HLB4 : Kp ((ofP lb).length ≤ 400) := ⟨by omega⟩
      have HRA := Kp.mk (ofP_rise la)
      have HRB := Kp.mk (ofP_rise lb)
      have HSA1 : Kp (∀ p ∈ ofP la, p.1.size + p.2.size ≤ 140737488351232) := ⟨fun p hp => HSA.it p (ofP_mem la p hp)⟩
      have HSB1 : Kp (∀ p ∈ ofP lb, p.1.size + p.2.size ≤ 140737488351232) := ⟨fun p hp => HSB.it p (ofP_mem lb p hp)⟩
      obtain ⟨DN, hDN⟩ : ∃ q : Nat, q = 1 + difD ka kb 4 (ofP la) (ofP lb) := ⟨_, rfl⟩
      obtain ⟨PN, hPN⟩ : ∃ q : Nat, q = difP ka kb 4 (ofP la) (ofP lb) := ⟨_, rfl⟩
      obtain ⟨KS, hKS⟩ : ∃ q, q = sortS (difK ka kb 4 (ofP la) (ofP lb)) := ⟨_, rfl⟩
      have HDN := Kp.mk hDN
      have HPN := Kp.mk hPN
      have HKS := Kp.mk hKS
      have HKL : Kp (KS.length ≤ 100000000) := ⟨by rw [hKS, sortS_len]; have := difK_le ka kb 4 (ofP la) (ofP lb); omega⟩
      obtain ⟨z0, z1, hx3⟩ := (E1.it.below B2.it).opens
      clear hDN hPN hKS hla hlb
      go_upto_region 3 with fail
      refine wp_region_spo [SpO.ex (.agg #[.int .u64 (ka.toNat : Int), .int .u64 (kb.toNat : Int)]), SpO.ex (.slice A n c), SpO.tr ka kb (ofP la), SpO.ex (.agg #[.int .u64 (ka.toNat : Int), .int .u64 (kb.toNat : Int)]), SpO.ex (.slice B m d), SpO.tr ka kb (ofP lb), SpO.tup KS (.agg #[.int .i64 (DN : Int), .int .i64 (PN : Int)]), SpO.tup KS (.agg #[.int .i64 (DN : Int), .int .i64 (PN : Int)]), SpO.rts KS, SpO.ex (.agg #[.int .i64 (DN : Int), .int .i64 (PN : Int)]), SpO.ex (.int .i64 0), SpO.any, SpO.rts KS, SpO.any, SpO.ex (.int .i64 0)] 11 13 8 (fun v w => ∃ b, v = .pointer (some ⟨b, 0, none⟩) ∧ w2.heap.size ≤ b ∧ Tk 0 0 b w) (fun u _ w => ∃ b, u = .pointer (some ⟨b, 0, none⟩) ∧ Tk DN PN b w) (fun _ _ _ h ⟨b, e, l, k⟩ => ⟨b, e, l, k.below h⟩) (fun _ _ _ _ h ⟨b, e, k⟩ => ⟨b, e, k.below h⟩) (by kernel_rfl) (by kernel_rfl) (by kernel_rfl) (by kernel_rfl) (by decide) (by kernel_rfl) (by rfl) ?_ ?_ ?_ ?_
      · intro i o ho hiM hiV a W hbW hG
        match i with
        | 0 =>
          have ho1 := ho
          cases ho
          have t3 : a.tmps.getD 3 undef = .pointer (some ⟨X, 0, none⟩) := hG.old 3 (by decide)
          have q0 := (hbW.cell (p := ⟨X, 0, none⟩) hx3).trans z0
          have q1 := (hbW.cell (p := ⟨X, 1, none⟩) hx3).trans z1
          exact op_value_g (w1 := W) ho1 (wanted_none rfl) (.agg #[.int .u64 (ka.toNat : Int), .int .u64 (kb.toNat : Int)]) (by simp [go_sem, Act.eval, -Array.getD_eq_getD_getElem?, t3, q0, q1]) (Gr.refl _) rfl
        | 1 =>
          have ho1 := ho
          cases ho
          have t1 : a.tmps.getD 1 undef = .slice A n c := hG.old 1 (by decide)
          exact op_value_g (w1 := W) ho1 (wanted_none rfl) (.slice A n c) (by simp [go_sem, Act.eval, -Array.getD_eq_getD_getElem?, t1]) (Gr.refl _) rfl
        | 2 =>
          have ho1 := ho
          cases ho
          have t28 : a.tmps.getD 28 undef = .agg #[.int .u64 (ka.toNat : Int), .int .u64 (kb.toNat : Int)] := hG.dep 0 (by decide) (fun e => by cases e) 28 rfl
          have t29 : a.tmps.getD 29 undef = .slice A n c := hG.dep 1 (by decide) (fun e => by cases e) 29 rfl
          refine op_call_g ho1 (wanted_none rfl) 14 #[.agg #[.int .u64 (ka.toNat : Int), .int .u64 (kb.toNat : Int)], .slice A n c] (by simp [go_sem, Act.eval, -Array.getD_eq_getD_getElem?, t28, t29]) ?_
          refine (of_s ka kb A n c la W _ (HIA.it.below hbW) hn1 HSA.it).mono ?_
          rintro e W' ⟨t, rfl, ht, _, hb'⟩
          exact ⟨_, rfl, hb', t, rfl, ht.relax (fun b (hb : W.heap.size ≤ b) _ hu => by have := hG.ub b hu; omega)⟩
        | 3 =>
          have ho1 := ho
          cases ho
          have t3 : a.tmps.getD 3 undef = .pointer (some ⟨X, 0, none⟩) := hG.old 3 (by decide)
          have q0 := (hbW.cell (p := ⟨X, 0, none⟩) hx3).trans z0
          have q1 := (hbW.cell (p := ⟨X, 1, none⟩) hx3).trans z1
          exact op_value_g (w1 := W) ho1 (wanted_none rfl) (.agg #[.int .u64 (ka.toNat : Int), .int .u64 (kb.toNat : Int)]) (by simp [go_sem, Act.eval, -Array.getD_eq_getD_getElem?, t3, q0, q1]) (Gr.refl _) rfl
        | 4 =>
          have ho1 := ho
          cases ho
          have t2 : a.tmps.getD 2 undef = .slice B m d := hG.old 2 (by decide)
          exact op_value_g (w1 := W) ho1 (wanted_none rfl) (.slice B m d) (by simp [go_sem, Act.eval, -Array.getD_eq_getD_getElem?, t2]) (Gr.refl _) rfl
        | 5 =>
          have ho1 := ho
          cases ho
          have t31 : a.tmps.getD 31 undef = .agg #[.int .u64 (ka.toNat : Int), .int .u64 (kb.toNat : Int)] := hG.dep 3 (by decide) (fun e => by cases e) 31 rfl
          have t32 : a.tmps.getD 32 undef = .slice B m d := hG.dep 4 (by decide) (fun e => by cases e) 32 rfl
          refine op_call_g ho1 (wanted_none rfl) 14 #[.agg #[.int .u64 (ka.toNat : Int), .int .u64 (kb.toNat : Int)], .slice B m d] (by simp [go_sem, Act.eval, -Array.getD_eq_getD_getElem?, t31, t32]) ?_
          refine (of_s ka kb B m d lb W _ (HIB.it.below hbW) hm1 HSB.it).mono ?_
          rintro e W' ⟨t, rfl, ht, _, hb'⟩
          exact ⟨_, rfl, hb', t, rfl, ht.relax (fun b (hb : W.heap.size ≤ b) _ hu => by have := hG.ub b hu; omega)⟩
        | 6 =>
          have ho1 := ho
          cases ho
          obtain ⟨b30, t30, r30⟩ : (SpO.tr ka kb (ofP la)).p (a.tmps.getD 8 undef) (a.tmps.getD 30 undef) W := hG.dep 2 (by decide) (fun e => by cases e) 30 rfl
          obtain ⟨b33, t33, r33⟩ : (SpO.tr ka kb (ofP lb)).p (a.tmps.getD 8 undef) (a.tmps.getD 33 undef) W := hG.dep 5 (by decide) (fun e => by cases e) 33 rfl
          refine op_call_g ho1 (wanted_none rfl) 13 #[.pointer (some ⟨b30, 0, none⟩), .pointer (some ⟨b33, 0, none⟩)] (by simp [go_sem, Act.eval, -Array.getD_eq_getD_getElem?, t30, t33]) ?_
          refine (unlike2_any ka kb (ofP la) (ofP lb) b30 b33 W r30.any r33.any HLA.it HLB.it).mono ?_
          rintro e W' ⟨v, rfl, hv, hb'⟩
          rw [← HKS.it] at hv
          obtain ⟨A', c', rfl, _, _, hr'⟩ := hv.form HKL.it
          refine ⟨_, rfl, hb', A', _, c', by rw [HDN.it, HPN.it]; rfl, hr', fun b o s e => ?_⟩
          have h1 := hv.lt b (by rw [e]; rfl)
          exact ⟨fun hu => by have := hG.ub b hu; omega, h1.2⟩
        | 7 =>
          have ho1 := ho
          cases ho
          obtain ⟨A34, n34, c34, t34, r34, a34⟩ : (SpO.tup KS (.agg #[.int .i64 (DN : Int), .int .i64 (PN : Int)])).p (a.tmps.getD 8 undef) (a.tmps.getD 34 undef) W := hG.dep 6 (by decide) (fun e => by cases e) 34 rfl
          exact op_value_g (w1 := W) ho1 (wanted_none rfl) (.tuple #[.slice A34 n34 c34, .agg #[.int .i64 (DN : Int), .int .i64 (PN : Int)], .int .i64 0]) (by simp [go_sem, Act.eval, -Array.getD_eq_getD_getElem?, t34]) (Gr.refl _) ⟨A34, n34, c34, rfl, r34, a34⟩
        | 8 =>
          have ho1 := ho
          cases ho
          obtain ⟨A27, n27, c27, t27, r27, a27⟩ : (SpO.tup KS (.agg #[.int .i64 (DN : Int), .int .i64 (PN : Int)])).p (a.tmps.getD 8 undef) (a.tmps.getD 27 undef) W := hG.dep 7 (by decide) (fun e => by cases e) 27 rfl
          exact op_value_g (w1 := W) ho1 (wanted_none rfl) (.slice A27 n27 c27) (by simp [go_sem, Act.eval, -Array.getD_eq_getD_getElem?, t27]) (Gr.refl _) ⟨A27, n27, c27, rfl, r27, a27⟩
        | 9 =>
          have ho1 := ho
          cases ho
          obtain ⟨A27, n27, c27, t27, r27, a27⟩ : (SpO.tup KS (.agg #[.int .i64 (DN : Int), .int .i64 (PN : Int)])).p (a.tmps.getD 8 undef) (a.tmps.getD 27 undef) W := hG.dep 7 (by decide) (fun e => by cases e) 27 rfl
          exact op_value_g (w1 := W) ho1 (wanted_none rfl) (.agg #[.int .i64 (DN : Int), .int .i64 (PN : Int)]) (by simp [go_sem, Act.eval, -Array.getD_eq_getD_getElem?, t27]) (Gr.refl _) rfl
        | 10 =>
          have ho1 := ho
          cases ho
          obtain ⟨A27, n27, c27, t27, r27, a27⟩ : (SpO.tup KS (.agg #[.int .i64 (DN : Int), .int .i64 (PN : Int)])).p (a.tmps.getD 8 undef) (a.tmps.getD 27 undef) W := hG.dep 7 (by decide) (fun e => by cases e) 27 rfl
          exact op_value_g (w1 := W) ho1 (wanted_none rfl) (.int .i64 0) (by simp [go_sem, Act.eval, -Array.getD_eq_getD_getElem?, t27]) (Gr.refl _) rfl
        | 11 => exact absurd rfl hiM
        | 12 =>
          have ho1 := ho
          cases ho
          obtain ⟨A35, n35, c35, t35, r35, a35⟩ : (SpO.rts KS).p (a.tmps.getD 8 undef) (a.tmps.getD 35 undef) W := hG.dep 8 (by decide) (fun e => by cases e) 35 rfl
          exact op_value_g (w1 := W) ho1 (wanted_none rfl) (.slice A35 n35 c35) (by simp [go_sem, Act.eval, -Array.getD_eq_getD_getElem?, t35]) (Gr.refl _) ⟨A35, n35, c35, rfl, r35, a35⟩
        | 13 => exact absurd rfl hiV
        | 14 =>
          have ho1 := ho
          cases ho
          have t37 : a.tmps.getD 37 undef = .int .i64 0 := hG.dep 10 (by decide) (fun e => by cases e) 37 rfl
          exact op_value_g (w1 := W) ho1 (wanted_none rfl) (.int .i64 0) (by simp [go_sem, Act.eval, -Array.getD_eq_getD_getElem?, t37]) (Gr.refl _) rfl
        | q + 15 => cases ho
      · intro o ho a W hbW hG
        have ho1 := ho
        cases ho
        exact op_value_g (w1 := W.alloc (.cells #[.int .i64 0, .int .i64 0] 30)) ho1 (wanted_none rfl) (.pointer (some ⟨W.heap.size, 0, none⟩)) (by simp [go_sem, Act.eval, -Array.getD_eq_getD_getElem?]) ((Below.refl _ _).alloc (Nat.le_refl _) _) ⟨fun b hb => by cases hb; exact ⟨Nat.le_refl _, by simp⟩, _, rfl, hbW.size, blk_new _ _⟩
      · intro o ho a W hbW hG
        have ho1 := ho
        cases ho
        obtain ⟨b8, t8, l8, k8⟩ : ∃ b, a.tmps.getD 8 undef = .pointer (some ⟨b, 0, none⟩) ∧ w2.heap.size ≤ b ∧ Tk 0 0 b W := hG.dep 11 (by decide) (fun _ => rfl) 8 rfl
        have t36 : a.tmps.getD 36 undef = .agg #[.int .i64 (DN : Int), .int .i64 (PN : Int)] := hG.dep 9 (by decide) (fun e => by cases e) 36 rfl
        obtain ⟨x0, x1, x2, x3, xl⟩ := k8.opens
        refine op_any ho1 rfl (w1 := (W.setCell ⟨b8, 0, none⟩ (.int .i64 (DN : Int))).setCell ⟨b8, 1, none⟩ (.int .i64 (PN : Int))) (by simp [go_sem, Act.eval, -Array.getD_eq_getD_getElem?, t8, t36, x0, x1, x2, x3]) ?_
        refine ⟨_, rfl, (hbW.setCell l8 _).setCell l8 _, ?_, b8, t8, tk_put k8⟩
        rw [t8]
        exact grown_set (grown_set (World.grownBy.refl W _) _ _) _ _
      · intro a W hbW hD
        have hfr := hD.done.frame [28, 29, 30, 31, 32, 33, 34, 27, 35, 36, 37, 8, 7, 9] (by kernel_rfl)
        obtain ⟨A7, n7, c7, t7, r7, _⟩ : (SpO.rts KS).p (a.tmps.getD 8 undef) (a.tmps.getD 7 undef) W := hD.sp 12 (by decide) (by decide) 7 rfl
        have t9 : a.tmps.getD 9 undef = .int .i64 0 := hD.sp 14 (by decide) (by decide) 9 rfl
        obtain ⟨b8, t8, k8⟩ : ∃ b, a.tmps.getD 8 undef = .pointer (some ⟨b, 0, none⟩) ∧ Tk DN PN b W := hD.spn 13 (by decide) (by decide) rfl
        simp only [List.foldl_cons, List.foldl_nil] at hfr
        rw [t7, t9, t8] at hfr
        generalize a.tmps.getD 28 undef = u28 at hfr
        generalize a.tmps.getD 29 undef = u29 at hfr
        generalize a.tmps.getD 30 undef = u30 at hfr
        generalize a.tmps.getD 31 undef = u31 at hfr
        generalize a.tmps.getD 32 undef = u32 at hfr
        generalize a.tmps.getD 33 undef = u33 at hfr
        generalize a.tmps.getD 34 undef = u34 at hfr
        generalize a.tmps.getD 27 undef = u27 at hfr
        generalize a.tmps.getD 35 undef = u35 at hfr
        generalize a.tmps.getD 36 undef = u36 at hfr
        generalize a.tmps.getD 37 undef = u37 at hfr
        rw [hfr]
        clear hfr hD t7 t9 t8
        have HBW := Kp.mk hbW
        clear hbW
        simp only [Act.put, List.setIfInBounds_toArray, List.set_cons_succ, List.set_cons_zero]
        have R7 := Kp.mk r7
        have K8 := Kp.mk k8
        have BW3 : Kp (Below w.heap.size w W) := ⟨BW2.it.trans (HBW.it.mono BW2.it.size)⟩
        clear r7 k8 z0 z1 hx3
        obtain ⟨z0, z1, hx3⟩ := ((E1.it.below B2.it).below HBW.it).opens
        go_upto_region 4 with fail
        refine wp_region_spo [SpO.ex (.agg #[.int .u64 (ka.toNat : Int), .int .u64 (kb.toNat : Int)]), SpO.ex (.slice A n c), SpO.rtr ka kb (ofP la), SpO.ex (.agg #[.int .u64 (ka.toNat : Int), .int .u64 (kb.toNat : Int)]), SpO.ex (.slice B m d), SpO.rtr ka kb (ofP lb), SpO.tup KS (.agg #[.int .i64 (DN : Int), .int .i64 (PN : Int)]), SpO.tup KS (.agg #[.int .i64 (DN : Int), .int .i64 (PN : Int)]), SpO.rts KS, SpO.ex (.agg #[.int .i64 (DN : Int), .int .i64 (PN : Int)]), SpO.ex (.int .i64 0), SpO.any, SpO.rts KS, SpO.any, SpO.ex (.int .i64 0)] 11 13 11 (fun v w => ∃ b, v = .pointer (some ⟨b, 0, none⟩) ∧ W.heap.size ≤ b ∧ Tk 0 0 b w) (fun u _ w => ∃ b, u = .pointer (some ⟨b, 0, none⟩) ∧ Tk DN PN b w) (fun _ _ _ h ⟨b, e, l, k⟩ => ⟨b, e, l, k.below h⟩) (fun _ _ _ _ h ⟨b, e, k⟩ => ⟨b, e, k.below h⟩) (by kernel_rfl) (by kernel_rfl) (by kernel_rfl) (by kernel_rfl) (by decide) (by kernel_rfl) (by rfl) ?_ ?_ ?_ ?_
        · intro i o ho hiM hiV a V hbW hG
          match i with
          | 0 =>
            have ho1 := ho
            cases ho
            have t3 : a.tmps.getD 3 undef = .pointer (some ⟨X, 0, none⟩) := hG.old 3 (by decide)
            have q0 := (hbW.cell (p := ⟨X, 0, none⟩) hx3).trans z0
            have q1 := (hbW.cell (p := ⟨X, 1, none⟩) hx3).trans z1
            exact op_value_g (w1 := V) ho1 (wanted_none rfl) (.agg #[.int .u64 (ka.toNat : Int), .int .u64 (kb.toNat : Int)]) (by simp [go_sem, Act.eval, -Array.getD_eq_getD_getElem?, t3, q0, q1]) (Gr.refl _) rfl
          | 1 =>
            have ho1 := ho
            cases ho
            have t1 : a.tmps.getD 1 undef = .slice A n c := hG.old 1 (by decide)
            exact op_value_g (w1 := V) ho1 (wanted_none rfl) (.slice A n c) (by simp [go_sem, Act.eval, -Array.getD_eq_getD_getElem?, t1]) (Gr.refl _) rfl
          | 2 =>
            have ho1 := ho
            cases ho
            have t39 : a.tmps.getD 39 undef = .agg #[.int .u64 (ka.toNat : Int), .int .u64 (kb.toNat : Int)] := hG.dep 0 (by decide) (fun e => by cases e) 39 rfl
            have t40 : a.tmps.getD 40 undef = .slice A n c := hG.dep 1 (by decide) (fun e => by cases e) 40 rfl
            refine op_call_g ho1 (wanted_none rfl) 16 #[.agg #[.int .u64 (ka.toNat : Int), .int .u64 (kb.toNat : Int)], .slice A n c] (by simp [go_sem, Act.eval, -Array.getD_eq_getD_getElem?, t39, t40]) ?_
            refine (rof_any ka kb A n c la V _ ((HIA.it.below HBW.it).below hbW) hn1).mono ?_
            rintro e V' ⟨t, rfl, ht, _, hb'⟩
            exact ⟨_, rfl, hb', t, rfl, ht.relax (fun b (hb : V.heap.size ≤ b) _ hu => by have := hG.ub b hu; omega)⟩
          | 3 =>
            have ho1 := ho
            cases ho
            have t3 : a.tmps.getD 3 undef = .pointer (some ⟨X, 0, none⟩) := hG.old 3 (by decide)
            have q0 := (hbW.cell (p := ⟨X, 0, none⟩) hx3).trans z0
            have q1 := (hbW.cell (p := ⟨X, 1, none⟩) hx3).trans z1
            exact op_value_g (w1 := V) ho1 (wanted_none rfl) (.agg #[.int .u64 (ka.toNat : Int), .int .u64 (kb.toNat : Int)]) (by simp [go_sem, Act.eval, -Array.getD_eq_getD_getElem?, t3, q0, q1]) (Gr.refl _) rfl
          | 4 =>
            have ho1 := ho
            cases ho
            have t2 : a.tmps.getD 2 undef = .slice B m d := hG.old 2 (by decide)
            exact op_value_g (w1 := V) ho1 (wanted_none rfl) (.slice B m d) (by simp [go_sem, Act.eval, -Array.getD_eq_getD_getElem?, t2]) (Gr.refl _) rfl
          | 5 =>
            have ho1 := ho
            cases ho
            have t42 : a.tmps.getD 42 undef = .agg #[.int .u64 (ka.toNat : Int), .int .u64 (kb.toNat : Int)] := hG.dep 3 (by decide) (fun e => by cases e) 42 rfl
            have t43 : a.tmps.getD 43 undef = .slice B m d := hG.dep 4 (by decide) (fun e => by cases e) 43 rfl
            refine op_call_g ho1 (wanted_none rfl) 16 #[.agg #[.int .u64 (ka.toNat : Int), .int .u64 (kb.toNat : Int)], .slice B m d] (by simp [go_sem, Act.eval, -Array.getD_eq_getD_getElem?, t42, t43]) ?_
            refine (rof_any ka kb B m d lb V _ ((HIB.it.below HBW.it).below hbW) hm1).mono ?_
            rintro e V' ⟨t, rfl, ht, _, hb'⟩
            exact ⟨_, rfl, hb', t, rfl, ht.relax (fun b (hb : V.heap.size ≤ b) _ hu => by have := hG.ub b hu; omega)⟩
          | 6 =>
            have ho1 := ho
            cases ho
            obtain ⟨b41, t41, r41⟩ : (SpO.rtr ka kb (ofP la)).p (a.tmps.getD 11 undef) (a.tmps.getD 41 undef) V := hG.dep 2 (by decide) (fun e => by cases e) 41 rfl
            obtain ⟨b44, t44, r44⟩ : (SpO.rtr ka kb (ofP lb)).p (a.tmps.getD 11 undef) (a.tmps.getD 44 undef) V := hG.dep 5 (by decide) (fun e => by cases e) 44 rfl
            refine op_call_g ho1 (wanted_none rfl) 15 #[.pointer (some ⟨b41, 0, none⟩), .pointer (some ⟨b44, 0, none⟩)] (by simp [go_sem, Act.eval, -Array.getD_eq_getD_getElem?, t41, t44]) ?_
            refine (runlike_any ka kb _ _ b41 b44 (ofP la) (ofP lb) V r41 r44 HLA4.it HLB4.it HSA1.it HSB1.it HRA.it HRB.it).mono ?_
            rintro e V' ⟨A1, n1, c1, rfl, hv, hb'⟩
            rw [← HKS.it] at hv
            obtain ⟨A', c', hvv, _, _, hr'⟩ := hv.form HKL.it
            injection hvv with hA hn hc
            subst hA
            subst hc
            rw [← hn] at hr'
            refine ⟨_, rfl, hb', A1, n1, c1, by rw [HDN.it, HPN.it]; rfl, hr', fun b o s e => ?_⟩
            have h1 := hv.lt b (by rw [e]; rfl)
            exact ⟨fun hu => by have := hG.ub b hu; omega, h1.2⟩
          | 7 =>
            have ho1 := ho
            cases ho
            obtain ⟨A45, n45, c45, t45, r45, a45⟩ : (SpO.tup KS (.agg #[.int .i64 (DN : Int), .int .i64 (PN : Int)])).p (a.tmps.getD 11 undef) (a.tmps.getD 45 undef) V := hG.dep 6 (by decide) (fun e => by cases e) 45 rfl
            exact op_value_g (w1 := V) ho1 (wanted_none rfl) (.tuple #[.slice A45 n45 c45, .agg #[.int .i64 (DN : Int), .int .i64 (PN : Int)], .int .i64 0]) (by simp [go_sem, Act.eval, -Array.getD_eq_getD_getElem?, t45]) (Gr.refl _) ⟨A45, n45, c45, rfl, r45, a45⟩
          | 8 =>
            have ho1 := ho
            cases ho
            obtain ⟨A38, n38, c38, t38, r38, a38⟩ : (SpO.tup KS (.agg #[.int .i64 (DN : Int), .int .i64 (PN : Int)])).p (a.tmps.getD 11 undef) (a.tmps.getD 38 undef) V := hG.dep 7 (by decide) (fun e => by cases e) 38 rfl
            exact op_value_g (w1 := V) ho1 (wanted_none rfl) (.slice A38 n38 c38) (by simp [go_sem, Act.eval, -Array.getD_eq_getD_getElem?, t38]) (Gr.refl _) ⟨A38, n38, c38, rfl, r38, a38⟩
          | 9 =>
            have ho1 := ho
            cases ho
            obtain ⟨A38, n38, c38, t38, r38, a38⟩ : (SpO.tup KS (.agg #[.int .i64 (DN : Int), .int .i64 (PN : Int)])).p (a.tmps.getD 11 undef) (a.tmps.getD 38 undef) V := hG.dep 7 (by decide) (fun e => by cases e) 38 rfl
            exact op_value_g (w1 := V) ho1 (wanted_none rfl) (.agg #[.int .i64 (DN : Int), .int .i64 (PN : Int)]) (by simp [go_sem, Act.eval, -Array.getD_eq_getD_getElem?, t38]) (Gr.refl _) rfl
          | 10 =>
            have ho1 := ho
            cases ho
            obtain ⟨A38, n38, c38, t38, r38, a38⟩ : (SpO.tup KS (.agg #[.int .i64 (DN : Int), .int .i64 (PN : Int)])).p (a.tmps.getD 11 undef) (a.tmps.getD 38 undef) V := hG.dep 7 (by decide) (fun e => by cases e) 38 rfl
            exact op_value_g (w1 := V) ho1 (wanted_none rfl) (.int .i64 0) (by simp [go_sem, Act.eval, -Array.getD_eq_getD_getElem?, t38]) (Gr.refl _) rfl
          | 11 => exact absurd rfl hiM
          | 12 =>
            have ho1 := ho
            cases ho
            obtain ⟨A46, n46, c46, t46, r46, a46⟩ : (SpO.rts KS).p (a.tmps.getD 11 undef) (a.tmps.getD 46 undef) V := hG.dep 8 (by decide) (fun e => by cases e) 46 rfl
            exact op_value_g (w1 := V) ho1 (wanted_none rfl) (.slice A46 n46 c46) (by simp [go_sem, Act.eval, -Array.getD_eq_getD_getElem?, t46]) (Gr.refl _) ⟨A46, n46, c46, rfl, r46, a46⟩
          | 13 => exact absurd rfl hiV
          | 14 =>
            have ho1 := ho
            cases ho
            have t48 : a.tmps.getD 48 undef = .int .i64 0 := hG.dep 10 (by decide) (fun e => by cases e) 48 rfl
            exact op_value_g (w1 := V) ho1 (wanted_none rfl) (.int .i64 0) (by simp [go_sem, Act.eval, -Array.getD_eq_getD_getElem?, t48]) (Gr.refl _) rfl
          | q + 15 => cases ho
        · intro o ho a V hbW hG
          have ho1 := ho
          cases ho
          exact op_value_g (w1 := V.alloc (.cells #[.int .i64 0, .int .i64 0] 30)) ho1 (wanted_none rfl) (.pointer (some ⟨V.heap.size, 0, none⟩)) (by simp [go_sem, Act.eval, -Array.getD_eq_getD_getElem?]) ((Below.refl _ _).alloc (Nat.le_refl _) _) ⟨fun b hb => by cases hb; exact ⟨Nat.le_refl _, by simp⟩, _, rfl, hbW.size, blk_new _ _⟩
        · intro o ho a V hbW hG
          have ho1 := ho
          cases ho
          obtain ⟨b11, t11, l11, k11⟩ : ∃ b, a.tmps.getD 11 undef = .pointer (some ⟨b, 0, none⟩) ∧ W.heap.size ≤ b ∧ Tk 0 0 b V := hG.dep 11 (by decide) (fun _ => rfl) 11 rfl
          have t47 : a.tmps.getD 47 undef = .agg #[.int .i64 (DN : Int), .int .i64 (PN : Int)] := hG.dep 9 (by decide) (fun e => by cases e) 47 rfl
          obtain ⟨x0, x1, x2, x3, xl⟩ := k11.opens
          refine op_any ho1 rfl (w1 := (V.setCell ⟨b11, 0, none⟩ (.int .i64 (DN : Int))).setCell ⟨b11, 1, none⟩ (.int .i64 (PN : Int))) (by simp [go_sem, Act.eval, -Array.getD_eq_getD_getElem?, t11, t47, x0, x1, x2, x3]) ?_
          refine ⟨_, rfl, (hbW.setCell l11 _).setCell l11 _, ?_, b11, t11, tk_put k11⟩
          rw [t11]
          exact grown_set (grown_set (World.grownBy.refl V _) _ _) _ _
        · intro a V hbW hD
          have hfr := hD.done.frame [39, 40, 41, 42, 43, 44, 45, 38, 46, 47, 48, 11, 10, 12] (by kernel_rfl)
          obtain ⟨A10, n10, c10, t10, r10, _⟩ : (SpO.rts KS).p (a.tmps.getD 11 undef) (a.tmps.getD 10 undef) V := hD.sp 12 (by decide) (by decide) 10 rfl
          have t12 : a.tmps.getD 12 undef = .int .i64 0 := hD.sp 14 (by decide) (by decide) 12 rfl
          obtain ⟨b11, t11, k11⟩ : ∃ b, a.tmps.getD 11 undef = .pointer (some ⟨b, 0, none⟩) ∧ Tk DN PN b V := hD.spn 13 (by decide) (by decide) rfl
          simp only [List.foldl_cons, List.foldl_nil] at hfr
          rw [t10, t12, t11] at hfr
          generalize a.tmps.getD 39 undef = u39 at hfr
          generalize a.tmps.getD 40 undef = u40 at hfr
          generalize a.tmps.getD 41 undef = u41 at hfr
          generalize a.tmps.getD 42 undef = u42 at hfr
          generalize a.tmps.getD 43 undef = u43 at hfr
          generalize a.tmps.getD 44 undef = u44 at hfr
          generalize a.tmps.getD 45 undef = u45 at hfr
          generalize a.tmps.getD 38 undef = u38 at hfr
          generalize a.tmps.getD 46 undef = u46 at hfr
          generalize a.tmps.getD 47 undef = u47 at hfr
          generalize a.tmps.getD 48 undef = u48 at hfr
          rw [hfr]
          clear hfr hD t10 t12 t11
          have HBV := Kp.mk hbW
          clear hbW
          simp only [Act.put, List.setIfInBounds_toArray, List.set_cons_succ, List.set_cons_zero]
          obtain rfl : n10 = n7 := by rw [← r10.len, ← R7.it.len]
          have R10 := Kp.mk r10
          have K11 := Kp.mk k11
          have R7' := Kp.mk (R7.it.below HBV.it)
          have K8' := Kp.mk (K8.it.below HBV.it)
          have BW4 : Kp (Below w.heap.size w V) := ⟨BW3.it.trans (HBV.it.mono BW3.it.size)⟩
          clear r10 k11 z0 z1 hx3 HBV HBW
          go_wp2_with fail
          go_at_call 17
          refine (equalt_same A7 A10 n10 c7 c10 KS V R7'.it R10.it).mono ?_
          rintro e w5 ⟨rfl, hb5⟩
          obtain ⟨x0, x1, _, _, xl⟩ := (K8'.it.below hb5).opens
          obtain ⟨y0, y1, _, _, yl⟩ := (K11.it.below hb5).opens
          have hdd : ((DN : Int) == (DN : Int)) = true := by simp
          have hpp : ((PN : Int) == (PN : Int)) = true := by simp
          have BW5 : Kp (Below w.heap.size w w5) := ⟨BW4.it.trans (hb5.mono BW4.it.size)⟩
          clear hb5
          go_wp2_with (go_at_call 12; refine (awake_any _).mono ?_; rintro e w' ⟨rfl, hb'⟩)
          go_ret
          exact ⟨rfl, BW5.it.trans (hb'.mono BW5.it.size)⟩

set_option linter.unusedVariables false in
set_option maxRecDepth 100000 in
theorem digestUnlike_lifted (os : Os) (started : os.Started) (H : Type) (enc : TypeId × Value → H) :
    ReturnsInHanded {} Try.checked os 3 .any (Rows.digestUnlikeSpec.pre6 enc Try.prog Try.f3 Rows.digestUnlikeRow.domain false) (Rows.digestUnlikeSpec.post enc Try.prog Try.f3 false true false false) := by
  refine returnsInHanded_of_change_sized (C := Try.checked) (by kernel_rfl) started (by kernel_rfl) Try.func3
    (ChangeSpec.witness6 (enc := enc) (C := Try.checked) false ⟨#[], #[.agg #[.int .u64 0, .int .u64 0], .slice none 0 0, .slice none 0 0], []⟩ 8 (by kernel_rfl) (by kernel_rfl) (by kernel_rfl) (by kernel_rfl)) ?_
  intro W base args ds gs before hval0 hW hcnd hsz0 _
  have hval : ∀ (j : Nat) t v, Try.f3.params[j]? = some t → args[j]? = some v → Value.okWide Try.prog W .any base t v := hval0
  have hW' := hW
  obtain ⟨p, q, hA0, hV, rfl, hfz, hnd⟩ := hW
  have hA : DataW.TrodAll enc Try.prog W 0 (fun _ => true) true Try.f3.params.toList args.toList ds p := hA0
  have hsz : (DataW.weightsEach Try.prog (Try.f3.params.toList ++ Rows.digestUnlikeSpec.plain.varTypes Try.prog) (ds ++ gs)).all (· ≤ reachBytes) = true := hsz0
  rw [Try.params3] at hA hval hsz
  obtain ⟨v0, vs0, d0, ds0, p0, q0, hargs, rfl, rfl, h0, r0⟩ := trodAll_cons hA
  obtain ⟨v1, vs1, d1, ds1, p1, q1, rfl, rfl, rfl, h1, r1⟩ := trodAll_cons r0
  obtain ⟨v2, vs2, d2, ds2, p2, q2, rfl, rfl, rfl, h2, r2⟩ := trodAll_cons r1
  obtain ⟨rfl, rfl, rfl⟩ := trodAll_nil r2
  obtain rfl : args = #[v0, v1, v2] := by cases args; simp_all
  obtain ⟨rfl, rfl⟩ := trodVars_none hV
  have k0 := h0
  have lt0 : ∀ x ∈ p0, x.block < W.heap.size := by obtain ⟨m, hm⟩ := k0; exact DataW.trod_lt m _ _ _ hm
  obtain ⟨ka0, kb0, rfl⟩ := seed_open (hval 0 24 v0 rfl rfl) h0
  have k1 := h1
  have lt1 : ∀ x ∈ p1, x.block < W.heap.size := by obtain ⟨m, hm⟩ := k1; exact DataW.trod_lt m _ _ _ hm
  obtain ⟨A1, n1, c1, ks1, rfl, ra1, ea1, bd1, nc1, bs1⟩ := prs_open (hval 1 25 v1 rfl rfl) h1 (fun x hx => by simpa using List.all_eq_true.1 hsz x (DataW.weights_mem_each (j := 1) (t := 25) rfl rfl x hx))
  have k2 := h2
  have lt2 : ∀ x ∈ p2, x.block < W.heap.size := by obtain ⟨m, hm⟩ := k2; exact DataW.trod_lt m _ _ _ hm
  obtain ⟨A2, n2, c2, ks2, rfl, ra2, ea2, bd2, nc2, bs2⟩ := prs_open (hval 2 25 v2 rfl rfl) h2 (fun x hx => by simpa using List.all_eq_true.1 hsz x (DataW.weights_mem_each (j := 2) (t := 25) rfl rfl x hx))
  clear hA0 hval0 hsz hsz0
  refine (unlike_walk ka0 kb0 A1 n1 c1 ks1 A2 n2 c2 ks2 W ra1 bs1 ra2 bs2).mono fun e W' ⟨he, bel⟩ => ?_
  subst he
  exact ⟨_, rfl, _, _, _, [], _, [], hW', trodAll_mk1 (shut_bool Try.underlying4 _), (trodAll_cons_mk (Below.trod (by kernel_rfl) (by kernel_rfl) (of_decide_eq_true (by kernel_rfl)) k0 bel lt0) (trodAll_cons_mk (Below.trod (by kernel_rfl) (by kernel_rfl) (of_decide_eq_true (by kernel_rfl)) k1 bel lt1) (trodAll_cons_mk (Below.trod (by kernel_rfl) (by kernel_rfl) (of_decide_eq_true (by kernel_rfl)) k2 bel lt2) trodAll_mk0))), rfl, bel.frame _, fun h => by cases h⟩

theorem DigestUnlike_holds : Rows.DigestUnlikeSaid :=
  OpenClaim.holds_of_wide 3 Try.f3 rfl rfl rfl rfl rfl rfl rfl ⟨rfl, rfl, rfl, rfl, rfl⟩ rfl rfl rfl rfl rfl (by kernel_rfl) Try.func3 (by kernel_rfl)
    (of_decide_eq_true (by kernel_rfl)) (by unfold Func.isWrapper; first | (rw [if_pos (by decide +kernel)]; kernel_rfl) | (rw [if_neg (by decide +kernel)]; exact ⟨rfl, rfl⟩))
    (fun os started H enc _ => digestUnlike_lifted os started H enc)
end Go.Proofs.Ytcmkjoepndbicaa
