/-
  DigestTold: what is told as unlike is unlike indeed; and all that is, if no two parts that are unlike have one digest.
-/
import Derived.Test.YtcmkjoepndbicaaTld
namespace Go.Proofs.Ytcmkjoepndbicaa
open Go.ChangeShapes Go.WideShapes Go.ChangeAt Go.RowKit

theorem partsU_get (ka kb : BitVec 64) (path : List Int) (l : List Pr) {d : Nat} (hd : d < 16) : (partsU ka kb path l)[d]? = some (digU ka kb (3 - path.length) (kid ka kb path.length d (inP ka kb path l))) := by
  unfold partsU
  rw [List.getElem?_map, List.getElem?_range hd]
  rfl
/-- The first digits of a key's place. -/
def pathK (ka kb : BitVec 64) (s : ByteArray) (i : Nat) : List Int := (List.range i).map fun j => (dg ka kb j (kp s) : Int)
theorem pathK_len (ka kb : BitVec 64) (s : ByteArray) (i : Nat) : (pathK ka kb s i).length = i := by simp [pathK]
theorem pathK_succ (ka kb : BitVec 64) (s : ByteArray) (i : Nat) : pathK ka kb s (i + 1) = pathK ka kb s i ++ [(dg ka kb i (kp s) : Int)] := by
  unfold pathK; rw [List.range_succ, List.map_append]; rfl
theorem pathK_ok (ka kb : BitVec 64) (s : ByteArray) {i : Nat} (hi : i ≤ 3) : okP (pathK ka kb s i) 3 = true := by
  unfold okP
  rw [pathK_len, decide_eq_true hi, Bool.true_and, List.all_eq_true]
  intro x hx
  unfold pathK at hx
  obtain ⟨j, _, rfl⟩ := List.mem_map.1 hx
  have := dg_lt ka kb j (kp s)
  unfold okD
  rw [decide_eq_true (by omega), decide_eq_true (by omega)]
  rfl
/-- What is not yet seen to be hidden. -/
def notYet (ka kb : BitVec 64) (s : ByteArray) (a b : List Pr) (i : Nat) : Prop :=
  hid ka kb (4 - i) s (inP ka kb (pathK ka kb s i) a) (inP ka kb (pathK ka kb s i) b) ∧ digU ka kb (4 - i) (inP ka kb (pathK ka kb s i) a) ≠ digU ka kb (4 - i) (inP ka kb (pathK ka kb s i) b)
theorem notYet_step (ka kb : BitVec 64) (s : ByteArray) (a b : List Pr) {i : Nat} (hi : i < 4) (h : notYet ka kb s a b i)
    (hne : digU ka kb (3 - i) (kid ka kb i (dg ka kb i (kp s)) (inP ka kb (pathK ka kb s i) a)) ≠ digU ka kb (3 - i) (kid ka kb i (dg ka kb i (kp s)) (inP ka kb (pathK ka kb s i) b))) : notYet ka kb s a b (i + 1) := by
  unfold notYet at *
  obtain ⟨h1, h2⟩ := h
  obtain ⟨f, hf⟩ : ∃ f, f = 3 - i := ⟨_, rfl⟩
  have e1 : 4 - i = f + 1 := by omega
  have e2 : 4 - (i + 1) = f := by omega
  have e3 : 3 - f = i := by omega
  rw [e1] at h1 h2
  rw [← hf] at hne
  rw [e2, pathK_succ, inP_snoc, inP_snoc, pathK_len]
  unfold hid at h1
  rw [e3] at h1
  rcases h1 with h | h
  · exact absurd h h2
  · exact ⟨h, hne⟩
theorem notYet_end (ka kb : BitVec 64) (s : ByteArray) (a b : List Pr) : ¬ notYet ka kb s a b 4 := by
  rintro ⟨h1, h2⟩
  exact h2 h1
theorem sgn_place (ka kb : BitVec 64) (at_ : Nat) (s : ByteArray) : bits .and .u64 (((sumU ka kb s.data.toList).toNat : Int) / 2 ^ (60 - 4 * at_)) 15 = (dg ka kb at_ (kp s) : Int) := dg_bits ka kb at_ (kp s)
set_option linter.unusedSimpArgs false in
set_option linter.unusedVariables false in
set_option maxRecDepth 100000 in
set_option maxHeartbeats 8000000 in
theorem told_walk (ka kb : BitVec 64) (A : Option Addr) (n c : Nat) (la : List Pr) (B : Option Addr) (m d : Nat) (lb : List Pr) (w : World) (h : RP w (fun _ => True) A n la) (hz : ∀ k ∈ la, k.1.size ≤ 140737488351232 ∧ k.2.size ≤ 140737488351232) (h' : RP w (fun _ => True) B m lb) (hz' : ∀ k ∈ lb, k.1.size ≤ 140737488351232 ∧ k.2.size ≤ 140737488351232) :
    Calls Try.prog 9 #[.agg #[.int .u64 (ka.toNat : Int), .int .u64 (kb.toNat : Int)], .slice A n c, .slice B m d] w fun e w' => e = .returned (.bool true) ∧ Below w.heap.size w w' := by
  have hbd := h.bd
  have hbd' := h'.bd
  have HLa := Kp.mk h.len
  have HLb := Kp.mk h'.len
  have H := Kp.mk h
  have H' := Kp.mk h'
  have HZ := Kp.mk hz
  have HZ' := Kp.mk hz'
  clear h hz h' hz'
  go_enter Try.func9, Try.ntmps9
  go_upto_region 1 with fail
  refine wp_on (fun wx => Sd ka kb w.heap.size wx ∧ Below w.heap.size w wx) ⟨blk_new _ _, (Below.refl _ _).alloc (Nat.le_refl _) _⟩ (fun w1 hx => ?_)
  obtain ⟨e1, hb1⟩ := hx
  obtain ⟨X, hX⟩ : ∃ X, X = w.heap.size := ⟨_, rfl⟩
  rw [← hX] at e1
  have HX := Kp.mk hX
  rw [← hX]
  clear hX
  have E1 := Kp.mk e1
  have B1 := Kp.mk hb1
  clear e1 hb1
  go_wp2_with fail
  have hbn : Below w1.heap.size w1 (w1.alloc (.cells #[.slice A n c, .slice B m d] 25)) := (Below.refl _ _).alloc (Nat.le_refl _) _
  refine (short_any w1.heap.size 2 (fun k => if k = 0 then A else B) (fun k => if k = 0 then n else m) (fun k => if k = 0 then c else d) (fun k => if k = 0 then la else lb) _ (fun _ => True) (by omega) (fun k hk => ?_) (fun k hk => ?_) (by simp)).mono ?_
  · match k, hk with
    | 0, _ => exact (H.it.below B1.it).below hbn
    | 1, _ => exact (H'.it.below B1.it).below hbn
    | k + 2, h => omega
  · match k, hk with
    | 0, _ => exact blk_cell (blk_new _ _) rfl
    | 1, _ => exact blk_cell (blk_new _ _) rfl
    | k + 2, h => omega
  rintro e w2 ⟨r, rfl, hr, hb2⟩
  have hb : Below w1.heap.size w1 w2 := hbn.trans (hb2.mono (by simp))
  have B2 := Kp.mk hb
  clear hb hb2 hbn
  have BW2 : Kp (Below w.heap.size w w2) := ⟨B1.it.trans (B2.it.mono B1.it.size)⟩
  cases r with
  | false =>
    clear hr
    go_wp2_with (go_at_call 12; refine (awake_any _).mono ?_; rintro e w' ⟨rfl, hb'⟩)
    go_ret
    exact ⟨rfl, BW2.it.trans (hb'.mono BW2.it.size)⟩
  | true =>
    have HOKa : Kp (okL la) := ⟨hr rfl 0 (by omega)⟩
    have HOKb : Kp (okL lb) := ⟨hr rfl 1 (by omega)⟩
    have hn60 : n ≤ 60 := by rw [← HLa.it]; exact HOKa.it.1
    have hm60 : m ≤ 60 := by rw [← HLb.it]; exact HOKb.it.1
    have hn1 : n ≤ 1000 := by omega
    have hm1 : m ≤ 1000 := by omega
    have HSA : Kp (∀ p ∈ la, p.1.size + p.2.size ≤ 140737488351232) := ⟨fun p hp => HOKa.it.sum hp (HZ.it p hp).1 (HZ.it p hp).2⟩
    have HSB : Kp (∀ p ∈ lb, p.1.size + p.2.size ≤ 140737488351232) := ⟨fun p hp => HOKb.it.sum hp (HZ'.it p hp).1 (HZ'.it p hp).2⟩
    clear hr
    have HIA := Kp.mk ((H.it.below B1.it).below B2.it)
    have HIB := Kp.mk ((H'.it.below B1.it).below B2.it)
    go_wp2_with fail
    go_at_call 30
    refine (rlist_any A n c la w2 _ HIA.it hn1).mono ?_
    rintro e w3 ⟨v, rfl, hv, hb3⟩
    have hla : (ofP la).length ≤ 60 := by have := ofP_len la; have := HLa.it; omega
    have hlb : (ofP lb).length ≤ 60 := by have := ofP_len lb; have := HLb.it; omega
    obtain ⟨A7, c7, rfl, _, _, hR7⟩ := hv.form (by omega)
    have C3 := Kp.mk hb3
    have R7 := Kp.mk hR7
    obtain ⟨n7, hn7⟩ : ∃ q, q = (ofP la).length := ⟨_, rfl⟩
    rw [← hn7] at R7 hla ⊢
    have HN7 := Kp.mk hn7
    clear hv hb3 hR7 hn7
    go_wp2_with fail
    go_at_call 30
    refine (rlist_any B m d lb w3 _ (HIB.it.below C3.it) hm1).mono ?_
    rintro e w4 ⟨v, rfl, hv, hb4⟩
    obtain ⟨A8, c8, rfl, _, _, hR8⟩ := hv.form (by omega)
    have C4 : Kp (Below w2.heap.size w2 w4) := ⟨C3.it.trans (hb4.mono C3.it.size)⟩
    have R8 := Kp.mk hR8
    have R7' := Kp.mk (R7.it.below hb4)
    obtain ⟨n8, hn8⟩ : ∃ q, q = (ofP lb).length := ⟨_, rfl⟩
    rw [← hn8] at R8 hlb ⊢
    have HN8 := Kp.mk hn8
    clear hv hb4 hR8 hn8 R7
    have HLA : Kp ((ofP la).length ≤ 1000) := ⟨by rw [← HN7.it]; omega⟩
    have HLB : Kp ((ofP lb).length ≤ 1000) := ⟨by rw [← HN8.it]; omega⟩
    have HRA := Kp.mk (ofP_rise la)
    have HRB := Kp.mk (ofP_rise lb)
    have HSA1 : Kp (∀ p ∈ ofP la, p.1.size + p.2.size ≤ 140737488351232) := ⟨fun p hp => HSA.it p (ofP_mem la p hp)⟩
    have HSB1 : Kp (∀ p ∈ ofP lb, p.1.size + p.2.size ≤ 140737488351232) := ⟨fun p hp => HSB.it p (ofP_mem lb p hp)⟩
    have HIA4 := Kp.mk (HIA.it.below C4.it)
    have HIB4 := Kp.mk (HIB.it.below C4.it)
    have BW4 : Kp (Below w.heap.size w w4) := ⟨BW2.it.trans (C4.it.mono BW2.it.size)⟩
    have E4 := Kp.mk ((E1.it.below B2.it).below C4.it)
    obtain ⟨z0, z1, hx3⟩ := E4.it.opens
    clear HIA HIB
    have HIA := HIA4
    have HIB := HIB4
    clear HIA4 HIB4
    go_wp2_with fail
    refine wp_region_sp [SpK.ex (.agg #[.int .u64 (ka.toNat : Int), .int .u64 (kb.toNat : Int)]), SpK.ex (.slice A n c), SpK.tr ka kb (fun _ => True) (ofP la), SpK.ex (.agg #[.int .u64 (ka.toNat : Int), .int .u64 (kb.toNat : Int)]), SpK.ex (.slice B m d), SpK.tr ka kb (fun _ => True) (ofP lb), SpK.tr ka kb (fun _ => True) (ofP la), SpK.tr ka kb (fun _ => True) (ofP lb)] (by kernel_rfl) (by kernel_rfl) ?_ ?_
    · intro i o ho a W hbW hG
      match i with
      | 0 =>
        have ho1 := ho
        cases ho
        have t3 : a.tmps.getD 3 undef = .pointer (some ⟨X, 0, none⟩) := hG.old 3 (by decide)
        have q0 := (hbW.cell (p := ⟨X, 0, none⟩) hx3).trans z0
        have q1 := (hbW.cell (p := ⟨X, 1, none⟩) hx3).trans z1
        exact op_value_g (w1 := W) ho1 (wanted_none rfl) (.agg #[.int .u64 (ka.toNat : Int), .int .u64 (kb.toNat : Int)]) (by simp [go_sem, Act.eval, -Array.getD_eq_getD_getElem?, t3, q0, q1]) (Gr.refl _) rfl
      | 1 =>
        have ho1 := ho
        cases ho
        have t1 : a.tmps.getD 1 undef = .slice A n c := hG.old 1 (by decide)
        exact op_value_g (w1 := W) ho1 (wanted_none rfl) (.slice A n c) (by simp [go_sem, Act.eval, -Array.getD_eq_getD_getElem?, t1]) (Gr.refl _) rfl
      | 2 =>
        have ho1 := ho
        cases ho
        have t38 : a.tmps.getD 38 undef = .agg #[.int .u64 (ka.toNat : Int), .int .u64 (kb.toNat : Int)] := hG.dep 0 (by decide) 38 rfl
        have t39 : a.tmps.getD 39 undef = .slice A n c := hG.dep 1 (by decide) 39 rfl
        refine op_call_g ho1 (wanted_none rfl) 14 #[.agg #[.int .u64 (ka.toNat : Int), .int .u64 (kb.toNat : Int)], .slice A n c] (by simp [go_sem, Act.eval, -Array.getD_eq_getD_getElem?, t38, t39]) ?_
        refine (of_s ka kb A n c la W _ (HIA.it.below hbW) hn1 HSA.it).mono ?_
        rintro e W' ⟨t, rfl, ht, _, hb'⟩
        exact ⟨_, rfl, hb', t, rfl, ht.relax (fun _ _ _ => trivial)⟩
      | 3 =>
        have ho1 := ho
        cases ho
        have t3 : a.tmps.getD 3 undef = .pointer (some ⟨X, 0, none⟩) := hG.old 3 (by decide)
        have q0 := (hbW.cell (p := ⟨X, 0, none⟩) hx3).trans z0
        have q1 := (hbW.cell (p := ⟨X, 1, none⟩) hx3).trans z1
        exact op_value_g (w1 := W) ho1 (wanted_none rfl) (.agg #[.int .u64 (ka.toNat : Int), .int .u64 (kb.toNat : Int)]) (by simp [go_sem, Act.eval, -Array.getD_eq_getD_getElem?, t3, q0, q1]) (Gr.refl _) rfl
      | 4 =>
        have ho1 := ho
        cases ho
        have t2 : a.tmps.getD 2 undef = .slice B m d := hG.old 2 (by decide)
        exact op_value_g (w1 := W) ho1 (wanted_none rfl) (.slice B m d) (by simp [go_sem, Act.eval, -Array.getD_eq_getD_getElem?, t2]) (Gr.refl _) rfl
      | 5 =>
        have ho1 := ho
        cases ho
        have t41 : a.tmps.getD 41 undef = .agg #[.int .u64 (ka.toNat : Int), .int .u64 (kb.toNat : Int)] := hG.dep 3 (by decide) 41 rfl
        have t42 : a.tmps.getD 42 undef = .slice B m d := hG.dep 4 (by decide) 42 rfl
        refine op_call_g ho1 (wanted_none rfl) 14 #[.agg #[.int .u64 (ka.toNat : Int), .int .u64 (kb.toNat : Int)], .slice B m d] (by simp [go_sem, Act.eval, -Array.getD_eq_getD_getElem?, t41, t42]) ?_
        refine (of_s ka kb B m d lb W _ (HIB.it.below hbW) hm1 HSB.it).mono ?_
        rintro e W' ⟨t, rfl, ht, _, hb'⟩
        exact ⟨_, rfl, hb', t, rfl, ht.relax (fun _ _ _ => trivial)⟩
      | 6 =>
        have ho1 := ho
        cases ho
        obtain ⟨b40, t40, r40⟩ : (SpK.tr ka kb (fun _ => True) (ofP la)).p (a.tmps.getD 40 undef) W := hG.dep 2 (by decide) 40 rfl
        exact op_value_g (w1 := W) ho1 (wanted_none rfl) (.pointer (some ⟨b40, 0, none⟩)) (by simp [go_sem, Act.eval, -Array.getD_eq_getD_getElem?, t40]) (Gr.refl _) ⟨b40, rfl, r40⟩
      | 7 =>
        have ho1 := ho
        cases ho
        obtain ⟨b43, t43, r43⟩ : (SpK.tr ka kb (fun _ => True) (ofP lb)).p (a.tmps.getD 43 undef) W := hG.dep 5 (by decide) 43 rfl
        exact op_value_g (w1 := W) ho1 (wanted_none rfl) (.pointer (some ⟨b43, 0, none⟩)) (by simp [go_sem, Act.eval, -Array.getD_eq_getD_getElem?, t43]) (Gr.refl _) ⟨b43, rfl, r43⟩
      | q + 8 => cases ho
    · intro a W hbW hD
      have hfr := hD.frame [38, 39, 40, 41, 42, 43, 9, 10] (by kernel_rfl)
      have t38 : a.tmps.getD 38 undef = .agg #[.int .u64 (ka.toNat : Int), .int .u64 (kb.toNat : Int)] := hD.sp 0 (by decide) 38 rfl
      have t39 : a.tmps.getD 39 undef = .slice A n c := hD.sp 1 (by decide) 39 rfl
      have t41 : a.tmps.getD 41 undef = .agg #[.int .u64 (ka.toNat : Int), .int .u64 (kb.toNat : Int)] := hD.sp 3 (by decide) 41 rfl
      have t42 : a.tmps.getD 42 undef = .slice B m d := hD.sp 4 (by decide) 42 rfl
      obtain ⟨b9, t9, r9⟩ : (SpK.tr ka kb (fun _ => True) (ofP la)).p (a.tmps.getD 9 undef) W := hD.sp 6 (by decide) 9 rfl
      obtain ⟨b10, t10, r10⟩ : (SpK.tr ka kb (fun _ => True) (ofP lb)).p (a.tmps.getD 10 undef) W := hD.sp 7 (by decide) 10 rfl
      simp only [List.foldl_cons, List.foldl_nil] at hfr
      rw [t38, t39, t41, t42, t9, t10] at hfr
      generalize a.tmps.getD 40 undef = u40 at hfr
      generalize a.tmps.getD 43 undef = u43 at hfr
      rw [hfr]
      clear hfr hD t38 t39 t41 t42 t9 t10
      have HBW := Kp.mk hbW
      clear hbW
      simp only [Act.put, List.setIfInBounds_toArray, List.set_cons_succ, List.set_cons_zero]
      have T9 := Kp.mk r9
      have T10 := Kp.mk r10
      have E5 := Kp.mk (E4.it.below HBW.it)
      have R7 := Kp.mk (R7'.it.below HBW.it)
      have R8' := Kp.mk (R8.it.below HBW.it)
      have BW5 : Kp (Below w.heap.size w W) := ⟨BW4.it.trans (HBW.it.mono BW4.it.size)⟩
      clear r9 r10 z0 z1 hx3 HBW R7' R8 HIA HIB
      obtain ⟨a, ha⟩ : ∃ a, a = ofP la := ⟨_, rfl⟩
      obtain ⟨b, hb⟩ : ∃ b, b = ofP lb := ⟨_, rfl⟩
      rw [← ha] at T9 R7 HLA HRA HSA1 HN7
      rw [← hb] at T10 R8' HLB HRB HSB1 HN8
      clear ha hb
      go_wp2_with fail
      go_at_call 13
      refine (unlike2_any ka kb a b b9 b10 W T9.it.any T10.it.any HLA.it HLB.it).mono ?_
      rintro e w6 ⟨v, rfl, hv, hb6⟩
      obtain ⟨KS, hKS⟩ : ∃ q, q = sortS (difK ka kb 4 a b) := ⟨_, rfl⟩
      rw [← hKS] at hv
      have hKL : KS.length ≤ 120 := by rw [hKS, sortS_len]; have := difK_le ka kb 4 a b; have := HN7.it; have := HN8.it; omega
      obtain ⟨A11, c11, rfl, _, _, hr11⟩ := hv.form (by omega)
      obtain ⟨n11, hn11⟩ : ∃ q, q = KS.length := ⟨_, rfl⟩
      rw [← hn11] at hr11 hKL ⊢
      have R11 := Kp.mk hr11
      have N11 := Kp.mk hn11
      have HKR : Kp (RiseK KS) := ⟨by rw [hKS]; exact sortS_rise (difK_nodup ka kb 4 HRA.it HRB.it)⟩
      have HKSUB : Kp (∀ s ∈ KS, s ∈ unl a b) := ⟨fun s hs => by rw [hKS, sortS_mem] at hs; exact difK_sub ka kb 4 HRA.it HRB.it hs⟩
      have HKHID : Kp (∀ s, s ∈ unl a b → s ∉ KS → hid ka kb 4 s a b) := ⟨fun s hs hn => hid_of ka kb 4 HRA.it HRB.it hs (fun hm => hn (by rw [hKS, sortS_mem]; exact hm))⟩
      have C6 := Kp.mk hb6
      clear hv hr11 hn11 hKS hb6
      generalize ((1 + difD ka kb 4 a b : Nat) : Int) = D0
      generalize ((difP ka kb 4 a b : Nat) : Int) = P0
      go_upto_region 6 with fail
      refine wp_on (fun wx => Below w6.heap.size w6 wx) (by first | exact (Below.refl _ _).alloc (Nat.le_refl _) _ | exact (((Below.refl _ _).alloc (Nat.le_refl _) _).setCell (Nat.le_refl _) _).setCell (Nat.le_refl _) _) (fun w7 hx => ?_)
      have C7 : Kp (Below W.heap.size W w7) := ⟨C6.it.trans (hx.mono C6.it.size)⟩
      have R11' := Kp.mk (R11.it.below hx)
      clear hx
      go_wp2_with fail
      go_at_call 38
      refine (rdiff_any A7 A8 n7 c7 n8 c8 a b w7 _ _ (R7.it.below C7.it) (R8'.it.below C7.it) (by omega)).mono ?_
      rintro e w8 ⟨A14, n14, c14, rfl, ho8, hn14, hb8⟩
      have HDK := Kp.mk (diff_keys a b HRA.it HRB.it)
      obtain ⟨DE, hDE⟩ : ∃ q, q = diffE a b := ⟨_, rfl⟩
      rw [← hDE] at ho8 HDK
      obtain ⟨A', c', hvv, hr14⟩ := ho8.form (by have h1 := diffE_len a b; rw [← hDE] at h1; have := HLA.it; have := HLB.it; omega)
      injection hvv with hA hnn hc
      subst hA
      subst hc
      rw [← hnn] at hr14
      have R14 := Kp.mk hr14
      have N14 := Kp.mk hnn
      have C8 : Kp (Below W.heap.size W w8) := ⟨C7.it.trans (hb8.mono C7.it.size)⟩
      have R11b := Kp.mk (R11'.it.below hb8)
      clear ho8 hr14 hnn hDE hb8 R7 R8' R11 R11' C6
      go_wp2_with fail
      go_at_call 39
      refine (sorted_any A11 n11 c11 KS w8 R11b.it HKR.it (by omega)).mono ?_
      rintro e w9 ⟨rfl, hb9⟩
      have C9 : Kp (Below W.heap.size W w9) := ⟨C8.it.trans (hb9.mono C8.it.size)⟩
      have RL := Kp.mk (R11b.it.below hb9)
      have RD := Kp.mk (R14.it.below hb9)
      have T9' := Kp.mk (T9.it.below C9.it)
      have T10' := Kp.mk (T10.it.below C9.it)
      have E9 := Kp.mk (E5.it.below C9.it)
      have BW9 : Kp (Below w.heap.size w w9) := ⟨BW5.it.trans (C9.it.mono BW5.it.size)⟩
      clear hb9 C8 C7 C9 T9 T10 E5 R11b R14
      go_wp2
      go_loopw [63] (fun i wr => ∃ k : Nat, k ≤ n11 ∧ i = .int .i64 k ∧ Kp (Below w9.heap.size w9 wr)) (fun i _ => n11 - (intOf i).toNat)
      case atStart => exact ⟨0, by omega, rfl, ⟨Below.refl _ _⟩⟩
      case round =>
        obtain ⟨k, hk, rfl, HB⟩ := hrel
        by_cases hkn : k < n11
        · have hd : decide ((k : Int) < (n11 : Int)) = true := by simp; omega
          obtain ⟨x, hx⟩ : ∃ x, KS[k]? = some x := ⟨_, List.getElem?_eq_getElem (by rw [← N11.it]; exact hkn)⟩
          obtain ⟨b1, o1, hA1, hl1, f0⟩ := (RL.it.below HB.it).row (by omega)
          have f1 := f0 k x hx
          subst hA1
          have HXD : Kp (x ∈ DE.map Ev.key) := ⟨by rw [HDK.it]; exact HKSUB.it x (List.mem_of_getElem? hx)⟩
          clear hx f0
          go_upto_region 12 with fail
          refine wp_on (fun wz => wz.heap[wr.heap.size]? = some (.cells #[.string x] 9 (0, 0)) ∧ Below wr.heap.size wr wz) ⟨blk_new _ _, (Below.refl _ _).alloc (Nat.le_refl _) _⟩ (fun wy hy => ?_)
          obtain ⟨hy, hby⟩ := hy
          have EY := Kp.mk hy
          have By := Kp.mk (HB.it.trans (hby.mono HB.it.size))
          obtain ⟨Y, hY⟩ : ∃ Y, Y = wr.heap.size := ⟨_, rfl⟩
          rw [← hY] at EY ⊢
          clear hy hby f1 hY
          go_wp2_with fail
          go_at_call 40
          refine (containsf_yes A14 n14 c14 DE x Y wy (RD.it.below By.it) EY.it HXD.it (by omega)).mono ?_
          rintro e wz ⟨rfl, hbz⟩
          have Bz := Kp.mk (By.it.trans (hbz.mono By.it.size))
          clear hbz
          go_wp2
          go_roundw
          case rel => exact ⟨k + 1, by omega, by go_num, Bz⟩
          case measure => simp [intOf]; omega
        · obtain rfl : k = n11 := by omega
          have hd : decide ((k : Int) < (k : Int)) = false := by simp
          obtain ⟨w10, rfl⟩ : ∃ w10 : World, w10 = wr := ⟨_, rfl⟩
          go_wp2
          go_loopw [74] (fun i wr => ∃ j : Nat, j ≤ n14 ∧ i = .int .i64 j ∧ Kp (Below w9.heap.size w9 wr)) (fun i _ => n14 - (intOf i).toNat)
          case atStart => exact ⟨0, by omega, rfl, HB⟩
          case round =>
            clear HB
            obtain ⟨j, hj, rfl, HB⟩ := hrel
            by_cases hjn : j < n14
            · have hd : decide ((j : Int) < (n14 : Int)) = true := by simp; omega
              obtain ⟨x, hx⟩ : ∃ x, DE[j]? = some x := ⟨_, List.getElem?_eq_getElem (by rw [← N14.it]; exact hjn)⟩
              obtain ⟨b1, o1, hA1, hl1, f0, f1, f2, f3, f4, f5⟩ := (RD.it.below HB.it).get hx
              cases hA1
              have HXU : Kp (x.key ∈ unl a b) := ⟨by rw [← HDK.it]; exact List.mem_map_of_mem (List.mem_of_getElem? hx)⟩
              have HXS : Kp (x.key.size ≤ 140737488351232) := ⟨by
                obtain ⟨p, hp, e⟩ := unl_key HRA.it HRB.it HXU.it
                rw [← e]
                rcases hp with h | h
                · have := HSA1.it p h; omega
                · have := HSB1.it p h; omega⟩
              clear hx
              obtain ⟨w11, rfl⟩ : ∃ w11 : World, w11 = wr := ⟨_, rfl⟩
              go_upto_region 18 with fail
              refine wp_on (fun wz => wz.heap[w11.heap.size]? = some (.cells #[.int .i64 x.pos, .string x.key, .bool x.had, .string x.old, .bool x.has, .string x.now] 83 (0, 0)) ∧ Below w11.heap.size w11 wz) ⟨blk_new _ _, (Below.refl _ _).alloc (Nat.le_refl _) _⟩ (fun wy hy => ?_)
              obtain ⟨hy, hby⟩ := hy
              have EY := Kp.mk hy
              have By := Kp.mk (HB.it.trans (hby.mono HB.it.size))
              obtain ⟨Y, hY⟩ : ∃ Y, Y = w11.heap.size := ⟨_, rfl⟩
              rw [← hY] at EY ⊢
              clear hy hby f0 f1 f2 f3 f4 f5 hY
              obtain ⟨s, hs⟩ : ∃ s, s = x.key := ⟨_, rfl⟩
              rw [← hs] at HXU HXS EY
              clear hs
              have g1 : wy.cell? ⟨Y, 1, none⟩ = some (.string s) := blk_cell EY.it rfl
              have hl8 := (Array.getElem?_eq_some_iff.1 EY.it).1
              go_wp2_with fail
              go_at_call 42
              refine (containss_any A11 k c11 KS s wy (RL.it.below By.it) (by omega)).mono ?_
              rintro e wz ⟨rfl, hbz⟩
              have Bz := Kp.mk (By.it.trans (hbz.mono By.it.size))
              have EZ : Kp (wz.heap[Y]? = some (.cells #[.int .i64 x.pos, .string s, .bool x.had, .string x.old, .bool x.has, .string x.now] 83 (0, 0))) := ⟨(hbz.block _ hl8).trans EY.it⟩
              clear hbz g1 hl8
              cases hmb : memB KS s with
              | true =>
                clear hmb
                go_wp2
                go_roundw
                case rel => exact ⟨j + 1, by omega, by go_num, Bz⟩
                case measure => simp [intOf]; omega
              | false =>
                have HHID : Kp (hid ka kb 4 s a b) := ⟨HKHID.it s HXU.it (fun hm => by rw [(memB_iff KS s).2 hm] at hmb; cases hmb)⟩
                clear hmb
                have g1 : wz.cell? ⟨Y, 1, none⟩ = some (.string s) := blk_cell EZ.it rfl
                have hl8 := (Array.getElem?_eq_some_iff.1 EZ.it).1
                obtain ⟨z0, z1, hx3⟩ := (E9.it.below Bz.it).opens
                go_wp2_with fail
                go_at_call 21
                refine (place_d ka kb s wz HXS.it).mono ?_
                rintro e wa ⟨rfl, hba⟩
                have Ba := Kp.mk (Bz.it.trans (hba.mono Bz.it.size))
                obtain ⟨PL, hPL⟩ : ∃ PL, PL = (sumU ka kb s.data.toList).toNat := ⟨_, rfl⟩
                have HPLs : Kp (∀ i, bits .and .u64 ((PL : Int) / 2 ^ (60 - 4 * i)) 15 = (dg ka kb i (kp s) : Int)) := ⟨fun i => by rw [hPL]; exact sgn_place ka kb i s⟩
                have hPL64 : PL < 18446744073709551616 := by rw [hPL]; exact (sumU ka kb s.data.toList).isLt
                rw [← hPL]
                clear hPL hba g1 hl8 z0 z1 hx3
                go_wp2_with fail
                go_at_call 27
                refine (root_any (T9'.it.any.below Ba.it)).mono ?_
                rintro e wb ⟨rfl, hbb⟩
                have Bb := Kp.mk (Ba.it.trans (hbb.mono Ba.it.size))
                clear hbb
                obtain ⟨U, hU⟩ : ∃ U : Int, U = ((digU ka kb 4 a).toNat : Int) := ⟨_, rfl⟩
                rw [← hU]
                have HU := Kp.mk hU
                clear hU
                go_wp2_with fail
                go_at_call 27
                refine (root_any (T10'.it.any.below Bb.it)).mono ?_
                rintro e wc ⟨rfl, hbc⟩
                have Bc := Kp.mk (Bb.it.trans (hbc.mono Bb.it.size))
                clear hbc
                obtain ⟨V, hV⟩ : ∃ V : Int, V = ((digU ka kb 4 b).toNat : Int) := ⟨_, rfl⟩
                rw [← hV]
                have HNY0 : Kp ((U == V) = false → notYet ka kb s a b 0) := ⟨fun h => by
                  unfold notYet
                  have e0 : pathK ka kb s 0 = [] := rfl
                  rw [e0, inP_nil, inP_nil]
                  refine ⟨HHID.it, fun e => ?_⟩
                  rw [HU.it, hV, e] at h
                  simp at h⟩
                clear hV HU
                obtain ⟨w12, rfl⟩ : ∃ w12 : World, w12 = wc := ⟨_, rfl⟩
                obtain ⟨Hb0, hHb0⟩ : ∃ q : Bool, q = (U == V) := ⟨_, rfl⟩
                have hHb0' := hHb0.symm
                rw [← hHb0] at HNY0
                clear hHb0
                go_wp2
                clear hHb0'
                go_loopw [20, 21, 91] (fun h p i wr => ∃ (q : Nat) (Hb : Bool) (A3 : Option Addr) (c3 : Nat), q ≤ 4 ∧ i = .int .i64 q ∧ h = .bool Hb ∧ p = .slice A3 q c3 ∧ Kp (Own wr w12.heap.size (.slice A3 q c3) (pathK ka kb s q)) ∧ Kp (Hb = false → notYet ka kb s a b q) ∧ Kp (Below w9.heap.size w9 wr) ∧ Kp (w12.heap.size ≤ wr.heap.size)) (fun _ _ i _ => 4 - (intOf i).toNat)
                case atStart => exact ⟨0, Hb0, none, 0, by omega, rfl, by first | rfl | simp, rfl, ⟨Own.nil _ _⟩, HNY0, Bc, ⟨Nat.le_refl _⟩⟩
                case round =>
                  clear HNY0
                  obtain ⟨q, Hb, A3, c3, hq4, rfl, rfl, rfl, HO, HNY, HB5, HZ5⟩ := hrel
                  by_cases hqn : q < 4
                  · have hd : decide ((q : Int) < 4) = true := by simp; omega
                    have HPL := Kp.mk (pathK_len ka kb s q)
                    obtain ⟨A', c', hvv, hnil, _, _, hr'⟩ := HO.it.form3 (by rw [HPL.it]; omega)
                    rw [HPL.it] at hvv hr'
                    injection hvv with hA _ hc
                    subst hA
                    subst hc
                    have RP3 := Kp.mk hr'
                    have HOK3 := Kp.mk (pathK_ok ka kb s (i := q) (by omega))
                    have hdl := dg_lt ka kb q (kp s)
                    have hbt := HPLs.it q
                    have HGA := Kp.mk (partsU_get ka kb (pathK ka kb s q) a hdl)
                    have HGB := Kp.mk (partsU_get ka kb (pathK ka kb s q) b hdl)
                    rw [HPL.it] at HGA HGB
                    have HSTEP : Kp (∀ (Hb2 : Bool), (Hb2 = false → Hb = false ∧ digU ka kb (3 - q) (kid ka kb q (dg ka kb q (kp s)) (inP ka kb (pathK ka kb s q) a)) ≠ digU ka kb (3 - q) (kid ka kb q (dg ka kb q (kp s)) (inP ka kb (pathK ka kb s q) b))) → Hb2 = false → notYet ka kb s a b (q + 1)) := ⟨fun Hb2 h1 h2 => notYet_step ka kb s a b hqn (HNY.it (h1 h2).1) (h1 h2).2⟩
                    have HPS := Kp.mk (pathK_succ ka kb s q)
                    obtain ⟨at_, hat⟩ : ∃ a, a = dg ka kb q (kp s) := ⟨_, rfl⟩
                    rw [← hat] at hdl hbt HGA HGB HSTEP HPS
                    clear hat hr' hnil
                    obtain ⟨w13, rfl⟩ : ∃ w13 : World, w13 = wr := ⟨_, rfl⟩
                    go_wp2_with fail
                    go_at_call 32
                    refine (parts_any ka kb (fun _ => True) a b9 A3 q c3 _ w13 (T9'.it.below HB5.it) RP3.it (fun _ _ => trivial)).mono ?_
                    intro e wd hq
                    obtain ⟨A23, n23, c23, rfl, hr23⟩ := hq.1 HOK3.it
                    have hbd' := hq.2.2
                    have Cd := Kp.mk hbd'
                    have R23 := Kp.mk hr23
                    obtain rfl : n23 = 16 := by rw [← hr23.len, partsU_len]
                    clear hq hr23 hbd'
                    go_wp2_with fail
                    go_at_call 32
                    refine (parts_any ka kb (fun _ => True) b b10 A3 q c3 _ wd (T10'.it.below (HB5.it.trans (Cd.it.mono HB5.it.size))) (RP3.it.below Cd.it) (fun _ _ => trivial)).mono ?_
                    intro e we hq
                    obtain ⟨A25, n25, c25, rfl, hr25⟩ := hq.1 HOK3.it
                    have Ce : Kp (Below w13.heap.size w13 we) := ⟨Cd.it.trans (hq.2.2.mono Cd.it.size)⟩
                    have R23' := Kp.mk (R23.it.below hq.2.2)
                    have R25 := Kp.mk hr25
                    obtain rfl : n25 = 16 := by rw [← hr25.len, partsU_len]
                    clear hq hr25 R23 Cd
                    obtain ⟨b23, o23, hA23, l23, f23⟩ := R23'.it.get HGA.it
                    obtain ⟨b25, o25, hA25, l25, f25⟩ := R25.it.get HGB.it
                    subst hA23
                    subst hA25
                    obtain ⟨UA, hUA⟩ : ∃ u : Int, u = ((digU ka kb (3 - q) (kid ka kb q at_ (inP ka kb (pathK ka kb s q) a))).toNat : Int) := ⟨_, rfl⟩
                    obtain ⟨UB, hUB⟩ : ∃ u : Int, u = ((digU ka kb (3 - q) (kid ka kb q at_ (inP ka kb (pathK ka kb s q) b))).toNat : Int) := ⟨_, rfl⟩
                    rw [← hUA] at f23
                    rw [← hUB] at f25
                    have HUAB : Kp ((UA == UB) = false → digU ka kb (3 - q) (kid ka kb q at_ (inP ka kb (pathK ka kb s q) a)) ≠ digU ka kb (3 - q) (kid ka kb q at_ (inP ka kb (pathK ka kb s q) b))) := ⟨fun h e => by rw [hUA, hUB, e] at h; simp at h⟩
                    have hkk : (60 : Int) - 4 * (q : Int) = ((60 - 4 * q : Nat) : Int) := by omega
                    obtain ⟨kk, hkk2⟩ : ∃ kk, kk = 60 - 4 * q := ⟨_, rfl⟩
                    rw [← hkk2] at hkk hbt
                    have hk60 : kk ≤ 60 := by omega
                    have haz : (at_ : Int) < 16 := by omega
                    have Oe := Kp.mk (HO.it.below Ce.it)
                    have HBe : Kp (Below w9.heap.size w9 we) := ⟨HB5.it.trans (Ce.it.mono HB5.it.size)⟩
                    have Ze : Kp (w12.heap.size ≤ we.heap.size) := ⟨Nat.le_trans HZ5.it Ce.it.size⟩
                    have HN5 : Kp ((pathK ka kb s q).length + 1 ≤ 17592186044416) := ⟨by rw [HPL.it]; omega⟩
                    have HLN : Kp ((pathK ka kb s q ++ [(at_ : Int)]).length = q + 1) := ⟨by rw [List.length_append, HPL.it]; rfl⟩
                    have HW9 : Kp (w9.heap.size ≤ w12.heap.size) := ⟨Bc.it.size⟩
                    clear hUA hUB hkk2 HO HB5 HZ5
                    go_upto_region 28 with fail
                    cases Hb with
                    | true =>
                      go_quiet (fail)
                      generalize hwf : we.drewN _ = wf
                      have Ff : Kp (Below we.heap.size we wf) := ⟨by rw [← hwf]; exact below_drewN (Below.refl _ _) _⟩
                      clear hwf
                      have Of := Kp.mk (Oe.it.below Ff.it)
                      have HBf : Kp (Below w9.heap.size w9 wf) := ⟨HBe.it.trans (Ff.it.mono HBe.it.size)⟩
                      have Zf : Kp (w12.heap.size ≤ wf.heap.size) := ⟨Nat.le_trans Ze.it Ff.it.size⟩
                      go_wp2_with (refine app_own rfl (.tmp 125) (.tmp 127) rfl w12.heap.size (.slice A3 q c3) _ (at_ : Int) rfl rfl Of.it Zf.it HN5.it ?_; intro v9 wg hg1 hg2 _; obtain ⟨A9, c9, hv9, _, _, _, _⟩ := hg1.form3 (by rw [HLN.it]; omega); rw [HLN.it] at hv9; subst hv9; have Og := Kp.mk hg1; have Bg := Kp.mk (below_own HBf.it HBf.it.size Of.it HW9.it hg2); have Zg : Kp (w12.heap.size ≤ wg.heap.size) := ⟨Nat.le_trans Zf.it (by have := hg2.size; omega)⟩; clear hg1 hg2)
                      go_roundw
                      case rel => exact ⟨q + 1, true, A9, c9, by omega, by go_num, rfl, rfl, ⟨by rw [HPS.it]; exact Og.it⟩, ⟨fun h => by cases h⟩, Bg, Zg⟩
                      case measure => simp [intOf]; omega
                    | false =>
                      cases huab : (UA == UB) with
                      | true =>
                        go_quiet (fail)
                        generalize hwf : we.drewN _ = wf
                        have Ff : Kp (Below we.heap.size we wf) := ⟨by rw [← hwf]; exact below_drewN (Below.refl _ _) _⟩
                        clear hwf
                        have Of := Kp.mk (Oe.it.below Ff.it)
                        have HBf : Kp (Below w9.heap.size w9 wf) := ⟨HBe.it.trans (Ff.it.mono HBe.it.size)⟩
                        have Zf : Kp (w12.heap.size ≤ wf.heap.size) := ⟨Nat.le_trans Ze.it Ff.it.size⟩
                        go_wp2_with (refine app_own rfl (.tmp 125) (.tmp 127) rfl w12.heap.size (.slice A3 q c3) _ (at_ : Int) rfl rfl Of.it Zf.it HN5.it ?_; intro v9 wg hg1 hg2 _; obtain ⟨A9, c9, hv9, _, _, _, _⟩ := hg1.form3 (by rw [HLN.it]; omega); rw [HLN.it] at hv9; subst hv9; have Og := Kp.mk hg1; have Bg := Kp.mk (below_own HBf.it HBf.it.size Of.it HW9.it hg2); have Zg : Kp (w12.heap.size ≤ wg.heap.size) := ⟨Nat.le_trans Zf.it (by have := hg2.size; omega)⟩; clear hg1 hg2)
                        go_roundw
                        case rel => exact ⟨q + 1, true, A9, c9, by omega, by go_num, rfl, rfl, ⟨by rw [HPS.it]; exact Og.it⟩, ⟨fun h => by cases h⟩, Bg, Zg⟩
                        case measure => simp [intOf]; omega
                      | false =>
                        have HUN := Kp.mk (HUAB.it huab)
                        go_quiet (fail)
                        generalize hwf : we.drewN _ = wf
                        have Ff : Kp (Below we.heap.size we wf) := ⟨by rw [← hwf]; exact below_drewN (Below.refl _ _) _⟩
                        clear hwf
                        have Of := Kp.mk (Oe.it.below Ff.it)
                        have HBf : Kp (Below w9.heap.size w9 wf) := ⟨HBe.it.trans (Ff.it.mono HBe.it.size)⟩
                        have Zf : Kp (w12.heap.size ≤ wf.heap.size) := ⟨Nat.le_trans Ze.it Ff.it.size⟩
                        go_wp2_with (refine app_own rfl (.tmp 125) (.tmp 127) rfl w12.heap.size (.slice A3 q c3) _ (at_ : Int) rfl rfl Of.it Zf.it HN5.it ?_; intro v9 wg hg1 hg2 _; obtain ⟨A9, c9, hv9, _, _, _, _⟩ := hg1.form3 (by rw [HLN.it]; omega); rw [HLN.it] at hv9; subst hv9; have Og := Kp.mk hg1; have Bg := Kp.mk (below_own HBf.it HBf.it.size Of.it HW9.it hg2); have Zg : Kp (w12.heap.size ≤ wg.heap.size) := ⟨Nat.le_trans Zf.it (by have := hg2.size; omega)⟩; clear hg1 hg2)
                        go_roundw
                        case rel => exact ⟨q + 1, false, A9, c9, by omega, by go_num, rfl, rfl, ⟨by rw [HPS.it]; exact Og.it⟩, ⟨HSTEP.it false (fun _ => ⟨rfl, HUN.it⟩)⟩, Bg, Zg⟩
                        case measure => simp [intOf]; omega
                  · obtain rfl : q = 4 := by omega
                    have hd : decide (((4 : Nat) : Int) < 4) = false := by decide
                    obtain rfl : Hb = true := by
                      cases Hb with
                      | true => rfl
                      | false => exact absurd (HNY.it rfl) (notYet_end ka kb s a b)
                    go_wp2
                    go_roundw
                    case rel => exact ⟨j + 1, by omega, by go_num, HB5⟩
                    case measure => simp [intOf]; omega
            · obtain rfl : j = n14 := by omega
              have hd : decide ((j : Int) < (j : Int)) = false := by simp
              have BWx : Kp (Below w.heap.size w wr) := ⟨BW9.it.trans (HB.it.mono BW9.it.size)⟩
              go_wp2_with (go_at_call 12; refine (awake_any _).mono ?_; rintro e w' ⟨rfl, hb'⟩)
              go_ret
              exact ⟨rfl, BWx.it.trans (hb'.mono BWx.it.size)⟩

set_option linter.unusedVariables false in
set_option maxRecDepth 100000 in
theorem digestTold_lifted (os : Os) (started : os.Started) (H : Type) (enc : TypeId × Value → H) :
    ReturnsInHanded {} Try.checked os 9 .any (Rows.digestToldSpec.pre6 enc Try.prog Try.f9 Rows.digestToldRow.domain false) (Rows.digestToldSpec.post enc Try.prog Try.f9 false true false false) := by
  refine returnsInHanded_of_change_sized (C := Try.checked) (by kernel_rfl) started (by kernel_rfl) Try.func9
    (ChangeSpec.witness6 (enc := enc) (C := Try.checked) false ⟨#[], #[.agg #[.int .u64 0, .int .u64 0], .slice none 0 0, .slice none 0 0], []⟩ 8 (by kernel_rfl) (by kernel_rfl) (by kernel_rfl) (by kernel_rfl)) ?_
  intro W base args ds gs before hval0 hW hcnd hsz0 _
  have hval : ∀ (j : Nat) t v, Try.f9.params[j]? = some t → args[j]? = some v → Value.okWide Try.prog W .any base t v := hval0
  have hW' := hW
  obtain ⟨p, q, hA0, hV, rfl, hfz, hnd⟩ := hW
  have hA : DataW.TrodAll enc Try.prog W 0 (fun _ => true) true Try.f9.params.toList args.toList ds p := hA0
  have hsz : (DataW.weightsEach Try.prog (Try.f9.params.toList ++ Rows.digestToldSpec.plain.varTypes Try.prog) (ds ++ gs)).all (· ≤ reachBytes) = true := hsz0
  rw [Try.params9] at hA hval hsz
  obtain ⟨v0, vs0, d0, ds0, p0, q0, hargs, rfl, rfl, h0, r0⟩ := trodAll_cons hA
  obtain ⟨v1, vs1, d1, ds1, p1, q1, rfl, rfl, rfl, h1, r1⟩ := trodAll_cons r0
  obtain ⟨v2, vs2, d2, ds2, p2, q2, rfl, rfl, rfl, h2, r2⟩ := trodAll_cons r1
  obtain ⟨rfl, rfl, rfl⟩ := trodAll_nil r2
  obtain rfl : args = #[v0, v1, v2] := by cases args; simp_all
  obtain ⟨rfl, rfl⟩ := trodVars_none hV
  have k0 := h0
  have lt0 : ∀ x ∈ p0, x.block < W.heap.size := by obtain ⟨m, hm⟩ := k0; exact DataW.trod_lt m _ _ _ hm
  obtain ⟨ka0, kb0, rfl⟩ := seed_open (hval 0 24 v0 rfl rfl) h0
  have k1 := h1
  have lt1 : ∀ x ∈ p1, x.block < W.heap.size := by obtain ⟨m, hm⟩ := k1; exact DataW.trod_lt m _ _ _ hm
  obtain ⟨A1, n1, c1, ks1, rfl, ra1, ea1, bd1, nc1, bs1⟩ := prs_open (hval 1 25 v1 rfl rfl) h1 (fun x hx => by simpa using List.all_eq_true.1 hsz x (DataW.weights_mem_each (j := 1) (t := 25) rfl rfl x hx))
  have k2 := h2
  have lt2 : ∀ x ∈ p2, x.block < W.heap.size := by obtain ⟨m, hm⟩ := k2; exact DataW.trod_lt m _ _ _ hm
  obtain ⟨A2, n2, c2, ks2, rfl, ra2, ea2, bd2, nc2, bs2⟩ := prs_open (hval 2 25 v2 rfl rfl) h2 (fun x hx => by simpa using List.all_eq_true.1 hsz x (DataW.weights_mem_each (j := 2) (t := 25) rfl rfl x hx))
  clear hA0 hval0 hsz hsz0
  refine (told_walk ka0 kb0 A1 n1 c1 ks1 A2 n2 c2 ks2 W ra1 bs1 ra2 bs2).mono fun e W' ⟨he, bel⟩ => ?_
  subst he
  exact ⟨_, rfl, _, _, _, [], _, [], hW', trodAll_mk1 (shut_bool Try.underlying4 _), (trodAll_cons_mk (Below.trod (by kernel_rfl) (by kernel_rfl) (of_decide_eq_true (by kernel_rfl)) k0 bel lt0) (trodAll_cons_mk (Below.trod (by kernel_rfl) (by kernel_rfl) (of_decide_eq_true (by kernel_rfl)) k1 bel lt1) (trodAll_cons_mk (Below.trod (by kernel_rfl) (by kernel_rfl) (of_decide_eq_true (by kernel_rfl)) k2 bel lt2) trodAll_mk0))), rfl, bel.frame _, fun h => by cases h⟩

theorem DigestTold_holds : Rows.DigestToldSaid :=
  OpenClaim.holds_of_wide 9 Try.f9 rfl rfl rfl rfl rfl rfl rfl ⟨rfl, rfl, rfl, rfl, rfl⟩ rfl rfl rfl rfl rfl (by kernel_rfl) Try.func9 (by kernel_rfl)
    (of_decide_eq_true (by kernel_rfl)) (by unfold Func.isWrapper; first | (rw [if_pos (by decide +kernel)]; kernel_rfl) | (rw [if_neg (by decide +kernel)]; exact ⟨rfl, rfl⟩))
    (fun os started H enc _ => digestTold_lifted os started H enc)
end Go.Proofs.Ytcmkjoepndbicaa
