/-
  The reference's unlike of two parts.
-/
import Derived.Test.YtcmkjoepndbicaaDfp
namespace Go.Proofs.Ytcmkjoepndbicaa
open Go Go.RowKit

set_option maxHeartbeats 4000000 in
theorem equalt_same (A B : Option Addr) (n c d : Nat) (ss : List ByteArray) (w : World) (h1 : RT w A n ss) (h2 : RT w B n ss) :
    Calls Try.prog 17 #[.slice A n c, .slice B n d] w fun e w' => e = .returned (.bool true) ∧ Below w.heap.size w w' := by
  have hbd := h1.bd
  have HL := Kp.mk h1.len
  have H1 := Kp.mk h1
  have H2 := Kp.mk h2
  clear h1 h2
  have hne : ((n : Int) != (n : Int)) = false := by simp
  go_enter Try.func17, Try.ntmps17
  go_wp2
  go_loopw [13] (fun i wr => ∃ k : Nat, k ≤ n ∧ i = .int .i64 k ∧ Kp (Below w.heap.size w wr)) (fun i _ => n - (intOf i).toNat)
  case atStart => exact ⟨0, by omega, rfl, ⟨Below.refl _ _⟩⟩
  case round =>
    obtain ⟨k, hk, rfl, HB⟩ := hrel
    by_cases hkn : k < n
    · obtain ⟨x, hx⟩ : ∃ x, ss[k]? = some x := ⟨_, List.getElem?_eq_getElem (by rw [HL.it]; exact hkn)⟩
      obtain ⟨b1, o1, hA, l1, f1⟩ := (H1.it.below HB.it).row (by omega)
      obtain ⟨b2, o2, hB, l2, f2⟩ := (H2.it.below HB.it).row (by omega)
      have g1 := f1 k x hx
      have g2 := f2 k x hx
      subst hA
      subst hB
      have hxx : (x.toList == x.toList) = true := by simp
      have hd : decide ((k : Int) < (n : Int)) = true := by simp; omega
      clear hx f1 f2
      go_wp2
      go_quiet (fail)
      go_wp2
      go_roundw
      case rel => exact ⟨k + 1, by omega, by go_num, ⟨below_drewN HB.it _⟩⟩
      case measure => simp [intOf]; omega
    · obtain rfl : k = n := by omega
      go_wp2
      go_ret
      exact ⟨rfl, HB.it⟩
/-- What the reference's unlike does, f digits below the whole. -/
def RUnlOk (ka kb : BitVec 64) (S T : Nat → Prop) (s t : Nat) (la lb : List Pr) (f : Nat) : Prop := ∀ (A : Option Addr) (m c : Nat) (path : List Int) (w : World), RTr ka kb S la s w → RTr ka kb T lb t w → Rd w A m path → (A = none → c = 0) → m = 4 - f →
    Calls Try.prog 51 #[.pointer (some ⟨s, 0, none⟩), .pointer (some ⟨t, 0, none⟩), .slice A m c] w fun e w' => ∃ A3 n3 c3, e = .returned (.tuple #[.slice A3 n3 c3, .agg #[.int .i64 (difD ka kb f (inP ka kb path la) (inP ka kb path lb) : Int), .int .i64 (difP ka kb f (inP ka kb path la) (inP ka kb path lb) : Int)]]) ∧
      OwnT w' w.heap.size (.slice A3 n3 c3) (difK ka kb f (inP ka kb path la) (inP ka kb path lb)) ∧ Below w.heap.size w w'
/-- The end of unlike: the result lies in a cell. -/
theorem rend {D P X : Nat} {w5 : World} (h : Tk D P X w5) : w5.cell? ⟨X, 0, none⟩ = some (.int .i64 (D : Int)) ∧ w5.cell? ⟨X, 1, none⟩ = some (.int .i64 (P : Int)) := ⟨blk_cell h rfl, blk_cell h rfl⟩
theorem tk_put {D P D' P' X : Nat} {w : World} (h : Tk D P X w) : Tk D' P' X ((w.setCell ⟨X, 0, none⟩ (.int .i64 (D' : Int))).setCell ⟨X, 1, none⟩ (.int .i64 (P' : Int))) := by
  unfold Tk at *
  rw [blk_set _ (blk_set _ h)]
  rfl
theorem tk_far {D P X Y o : Nat} {w : World} {v : Value} (h : Tk D P X w) (hne : X ≠ Y) : Tk D P X (w.setCell ⟨Y, o, none⟩ v) := (other_block _ _ _ hne).trans h
set_option maxRecDepth 100000 in
set_option maxHeartbeats 8000000 in
theorem runl_eq (ka kb : BitVec 64) (S T : Nat → Prop) (s t : Nat) (la lb : List Pr) (f : Nat) (hf : f ≤ 4) (hla : la.length ≤ 400) (hlb : lb.length ≤ 400) (hsa : ∀ p ∈ la, p.1.size + p.2.size ≤ 140737488351232) (hsb : ∀ p ∈ lb, p.1.size + p.2.size ≤ 140737488351232)
    (A : Option Addr) (m c : Nat) (path : List Int) (w : World) (ta : RTr ka kb S la s w) (tb : RTr ka kb T lb t w) (P : Rd w A m path) (hnil : A = none → c = 0) (hm : m = 4 - f) (he : digU ka kb f (inP ka kb path la) = digU ka kb f (inP ka kb path lb)) :
    Calls Try.prog 51 #[.pointer (some ⟨s, 0, none⟩), .pointer (some ⟨t, 0, none⟩), .slice A m c] w fun e w' => ∃ A3 n3 c3, e = .returned (.tuple #[.slice A3 n3 c3, .agg #[.int .i64 (difD ka kb f (inP ka kb path la) (inP ka kb path lb) : Int), .int .i64 (difP ka kb f (inP ka kb path la) (inP ka kb path lb) : Int)]]) ∧
      OwnT w' w.heap.size (.slice A3 n3 c3) (difK ka kb f (inP ka kb path la) (inP ka kb path lb)) ∧ Below w.heap.size w w' := by
  have HD : Kp (difD ka kb f (inP ka kb path la) (inP ka kb path lb) = 0) := ⟨by cases f <;> simp [difD, he]⟩
  have HPP : Kp (difP ka kb f (inP ka kb path la) (inP ka kb path lb) = 0) := ⟨by cases f <;> simp [difP, he]⟩
  have HK : Kp (difK ka kb f (inP ka kb path la) (inP ka kb path lb) = []) := ⟨by cases f <;> simp [difK, he]⟩
  have HA := Kp.mk (rdig_any ka kb S s la (by omega) hsa f hf)
  have HB := Kp.mk (rdig_any ka kb T t lb (by omega) hsb f hf)
  have TA := Kp.mk ta
  have TB := Kp.mk tb
  have HP := Kp.mk P
  have HN := Kp.mk hnil
  have HM := Kp.mk hm
  have HE := Kp.mk he
  clear ta tb P hnil hm he hsa hsb
  go_enter Try.func51, Try.ntmps51
  go_upto_region 2 with fail
  refine wp_on (fun wx => Tk 0 0 w.heap.size wx ∧ Tk 0 0 (w.heap.size + 1) wx ∧ Below w.heap.size w wx) ⟨by first | exact blk_old _ (blk_new _ _) | exact tk_far (blk_old _ (blk_new _ _)) (by omega), by first | exact blk_new1 _ _ _ | exact tk_put (blk_new1 _ _ _), by first | exact ((Below.refl _ _).alloc (Nat.le_refl _) _).alloc (by simp) _ | exact ((((Below.refl _ _).alloc (Nat.le_refl _) _).alloc (by simp) _).setCell (by simp) _).setCell (by simp) _⟩ (fun w1 hx => ?_)
  obtain ⟨hx, hy, hb1⟩ := hx
  obtain ⟨X, hX⟩ : ∃ X, X = w.heap.size := ⟨_, rfl⟩
  rw [← hX] at hx hy ⊢
  have TX := Kp.mk hx
  have TY := Kp.mk hy
  have B1 := Kp.mk hb1
  have HX := Kp.mk hX
  clear hx hy hb1 hX
  go_wp2_with fail
  go_at_call 28
  refine (HA.it A m c path w1 (TA.it.below B1.it) (HP.it.below B1.it) HN.it HM.it).mono ?_
  rintro e w2 ⟨rfl, hb2⟩
  have B2 := Kp.mk (B1.it.trans (hb2.mono B1.it.size))
  have C2 := Kp.mk hb2
  clear hb2
  obtain ⟨U, hU⟩ : ∃ U : Int, U = ((digU ka kb f (inP ka kb path la)).toNat : Int) := ⟨_, rfl⟩
  rw [← hU]
  have HU := Kp.mk hU
  clear hU
  go_wp2_with fail
  go_at_call 28
  refine (HB.it A m c path w2 (TB.it.below B2.it) (HP.it.below B2.it) HN.it HM.it).mono ?_
  rintro e w3 ⟨rfl, hb3⟩
  have B3 := Kp.mk (B2.it.trans (hb3.mono B2.it.size))
  have C3 := Kp.mk (C2.it.trans (hb3.mono C2.it.size))
  rw [← HE.it, ← HU.it]
  have huu : (U == U) = true := by simp
  have TX3 := Kp.mk (TX.it.below C3.it)
  have TY3 := Kp.mk (TY.it.below C3.it)
  obtain ⟨x0, x1, x2, x3, xl⟩ := TX3.it.opens
  obtain ⟨y0, y1, y2, y3, yl⟩ := TY3.it.opens
  clear hb3
  go_wp2
  go_region
  all_goals
    obtain ⟨w5, hw5⟩ : ∃ x : World, x = ((w3.setCell ⟨X, 0, none⟩ (Value.int IntKind.i64 0)).setCell ⟨X, 1, none⟩ (Value.int IntKind.i64 0)).drew := ⟨_, rfl⟩
    rw [← hw5]
    have h5 : Tk 0 0 X w5 := by rw [hw5]; exact tk_put TX3.it
    obtain ⟨q0, q1⟩ := rend h5
    have B5 : Kp (Below w.heap.size w w5) := ⟨by rw [hw5]; exact below_drewN ((B3.it.setCell (by show w.heap.size ≤ X; have := HX.it; omega) _).setCell (by show w.heap.size ≤ X; have := HX.it; omega) _) 1⟩
    clear hw5 h5
    go_wp2
    try simp only [Exit.inBlock, Exit.then]
    refine bodyPost_ret (v := .tuple #[.slice none 0 0, .agg #[.int .i64 ((0 : Nat) : Int), .int .i64 ((0 : Nat) : Int)]]) ?_ rfl ?_
    · simp [results, go_sem, q0, q1]
    · exact ⟨none, 0, 0, by rw [HD.it, HPP.it], by rw [HK.it]; exact OwnT.nil _ _, B5.it⟩
theorem diffE_len (a b : List Pr) : (diffE a b).length ≤ a.length + b.length := by
  unfold diffE
  rw [List.length_map]
  have h1 := unionP_len a b b.length (Nat.le_refl _)
  rw [List.take_length] at h1
  exact Nat.le_trans (List.length_filter_le _ _) h1
set_option maxRecDepth 100000 in
set_option maxHeartbeats 8000000 in
theorem runl_zero (ka kb : BitVec 64) (S T : Nat → Prop) (s t : Nat) (la lb : List Pr) (hla : la.length ≤ 400) (hlb : lb.length ≤ 400) (hsa : ∀ p ∈ la, p.1.size + p.2.size ≤ 140737488351232) (hsb : ∀ p ∈ lb, p.1.size + p.2.size ≤ 140737488351232) (hra : Rise la) (hrb : Rise lb) :
    RUnlOk ka kb S T s t la lb 0 := by
  intro A m c path w ta tb P hnil hm
  by_cases he : digU ka kb 0 (inP ka kb path la) = digU ka kb 0 (inP ka kb path lb)
  · exact runl_eq ka kb S T s t la lb 0 (by omega) hla hlb hsa hsb A m c path w ta tb P hnil hm he
  obtain rfl : m = 4 := hm
  have HA := Kp.mk (rdig_any ka kb S s la (by omega) hsa 0 (by omega))
  have HB := Kp.mk (rdig_any ka kb T t lb (by omega) hsb 0 (by omega))
  have TA := Kp.mk ta
  have TB := Kp.mk tb
  have HP := Kp.mk P
  have HN := Kp.mk hnil
  have HIA : Kp (∀ w1, Below w.heap.size w w1 → Calls Try.prog 59 #[.pointer (some ⟨s, 0, none⟩), .slice A 4 c] w1 fun e w' => ∃ v, e = .returned v ∧ OwnP w' w1.heap.size v (inP ka kb path la) ∧ Below w1.heap.size w1 w') := ⟨fun w1 hb => in_any ka kb S s la A 4 c path w1 (TA.it.below hb) (HP.it.below hb) (by omega) (by omega) (fun p hp => by have := hsa p hp; omega)⟩
  have HIB : Kp (∀ w1, Below w.heap.size w w1 → Calls Try.prog 59 #[.pointer (some ⟨t, 0, none⟩), .slice A 4 c] w1 fun e w' => ∃ v, e = .returned v ∧ OwnP w' w1.heap.size v (inP ka kb path lb) ∧ Below w1.heap.size w1 w') := ⟨fun w1 hb => in_any ka kb T t lb A 4 c path w1 (TB.it.below hb) (HP.it.below hb) (by omega) (by omega) (fun p hp => by have := hsb p hp; omega)⟩
  have hlA : (inP ka kb path la).length ≤ 400 := Nat.le_trans (inP_le ka kb path la) hla
  have hlB : (inP ka kb path lb).length ≤ 400 := Nat.le_trans (inP_le ka kb path lb) hlb
  have hrA := inP_rise ka kb path hra
  have hrB := inP_rise ka kb path hrb
  have HAP := HA.it A 4 c path
  have HBP := HB.it A 4 c path
  obtain ⟨LA, hLA⟩ : ∃ l, l = inP ka kb path la := ⟨_, rfl⟩
  obtain ⟨LB, hLB⟩ : ∃ l, l = inP ka kb path lb := ⟨_, rfl⟩
  rw [← hLA] at hlA hrA he HIA HAP ⊢
  rw [← hLB] at hlB hrB he HIB HBP ⊢
  have HLA := Kp.mk hlA
  have HLB := Kp.mk hlB
  have HK : Kp (difK ka kb 0 LA LB = unl LA LB) := ⟨by unfold difK; rw [if_neg he]⟩
  have HD : Kp (difD ka kb 0 LA LB = 0) := ⟨rfl⟩
  have HPP : Kp (difP ka kb 0 LA LB = LA.length + LB.length) := ⟨by unfold difP; rw [if_neg he]⟩
  have HKE := Kp.mk (diff_keys LA LB hrA hrB)
  have HDL := Kp.mk (diffE_len LA LB)
  have HA2 := Kp.mk HAP
  have HB2 := Kp.mk HBP
  obtain ⟨U, hU⟩ : ∃ U : Int, U = ((digU ka kb 0 LA).toNat : Int) := ⟨_, rfl⟩
  obtain ⟨V, hV⟩ : ∃ V : Int, V = ((digU ka kb 0 LB).toNat : Int) := ⟨_, rfl⟩
  have huv : (U == V) = false := by
    rw [beq_eq_false_iff_ne, hU, hV]
    intro h
    exact he (BitVec.eq_of_toNat_eq (by omega))
  rw [← hU] at HA2
  rw [← hV] at HB2
  clear ta tb P hnil he hsa hsb hlA hlB hrA hrB HAP HBP hLA hLB hU hV hra hrb HA HB
  go_enter Try.func51, Try.ntmps51
  go_upto_region 2 with fail
  refine wp_on (fun wx => Tk 0 0 w.heap.size wx ∧ Tk 0 0 (w.heap.size + 1) wx ∧ Below w.heap.size w wx) ⟨by first | exact blk_old _ (blk_new _ _) | exact tk_far (blk_old _ (blk_new _ _)) (by omega), by first | exact blk_new1 _ _ _ | exact tk_put (blk_new1 _ _ _), by first | exact ((Below.refl _ _).alloc (Nat.le_refl _) _).alloc (by simp) _ | exact ((((Below.refl _ _).alloc (Nat.le_refl _) _).alloc (by simp) _).setCell (by simp) _).setCell (by simp) _⟩ (fun w1 hx => ?_)
  obtain ⟨hx, hy, hb1⟩ := hx
  obtain ⟨X, hX⟩ : ∃ X, X = w.heap.size := ⟨_, rfl⟩
  rw [← hX] at hx hy ⊢
  have TX := Kp.mk hx
  have TY := Kp.mk hy
  have B1 := Kp.mk hb1
  have HX := Kp.mk hX
  clear hx hy hb1 hX
  go_wp2_with fail
  go_at_call 28
  refine (HA2.it w1 (TA.it.below B1.it) (HP.it.below B1.it) HN.it (by first | trivial | rfl)).mono ?_
  rintro e w2 ⟨rfl, hb2⟩
  have B2 := Kp.mk (B1.it.trans (hb2.mono B1.it.size))
  have C2 := Kp.mk hb2
  clear hb2
  go_wp2_with fail
  go_at_call 28
  refine (HB2.it w2 (TB.it.below B2.it) (HP.it.below B2.it) HN.it (by first | trivial | rfl)).mono ?_
  rintro e w3 ⟨rfl, hb3⟩
  have B3 := Kp.mk (B2.it.trans (hb3.mono B2.it.size))
  have C3 := Kp.mk (C2.it.trans (hb3.mono C2.it.size))
  clear hb3
  go_wp2_with fail
  go_at_call 59
  refine (HIA.it w3 B3.it).mono ?_
  rintro e w4 ⟨v4, rfl, ho4, hb4⟩
  obtain ⟨A4, c4, rfl, _, _, hr4⟩ := ho4.form (by have := HLA.it; omega)
  obtain ⟨n4, hn4⟩ : ∃ n, n = LA.length := ⟨_, rfl⟩
  have hn41 : n4 ≤ 400 := by rw [hn4]; exact HLA.it
  rw [← hn4] at hr4 ⊢
  have N4 := Kp.mk hn4
  have R4 := Kp.mk hr4
  have B4 := Kp.mk (B3.it.trans (hb4.mono B3.it.size))
  have C4 := Kp.mk (C3.it.trans (hb4.mono C3.it.size))
  clear ho4 hr4 hb4 hn4
  go_wp2_with fail
  go_at_call 59
  refine (HIB.it w4 B4.it).mono ?_
  rintro e w5 ⟨v5, rfl, ho5, hb5⟩
  obtain ⟨A5, c5, rfl, _, _, hr5⟩ := ho5.form (by have := HLB.it; omega)
  obtain ⟨n5, hn5⟩ : ∃ n, n = LB.length := ⟨_, rfl⟩
  have hn51 : n5 ≤ 400 := by rw [hn5]; exact HLB.it
  rw [← hn5] at hr5 ⊢
  have N5 := Kp.mk hn5
  have R5 := Kp.mk hr5
  have R4' := Kp.mk (R4.it.below hb5)
  have B5 := Kp.mk (B4.it.trans (hb5.mono B4.it.size))
  have C5 := Kp.mk (C4.it.trans (hb5.mono C4.it.size))
  have TX5 := Kp.mk (TX.it.below C5.it)
  have TY5 := Kp.mk (TY.it.below C5.it)
  clear ho5 hr5 hb5 hn5 R4
  obtain ⟨y0, y1, y2, y3, yl⟩ := TY5.it.opens
  go_upto_region 8 with fail
  refine wp_on (fun wx => Tk 0 0 X wx ∧ Tk 0 (n4 + n5) (X + 1) wx ∧ Same (fun b => b ≠ X + 1) w5 wx ∧ Below X w wx) ⟨tk_far TX5.it (by omega), by first | exact blk_set _ TY5.it | (have h9 := blk_set (o := 1) (Value.int IntKind.i64 ((n4 : Int) + (n5 : Int))) TY5.it; exact h9), Same.of_set _ _ (by simp), (HX.it ▸ B5.it).setCell (by show X ≤ X + 1; omega) _⟩ (fun w6 hx => ?_)
  obtain ⟨hx6, hy6, hs6, hb6⟩ := hx
  have TX6 := Kp.mk hx6
  have TY6 := Kp.mk hy6
  have HZ3 : Kp (X + 1 < w3.heap.size) := ⟨by have h1 := (Array.getElem?_eq_some_iff.1 TY.it).1; have h2 := C3.it.size; omega⟩
  have HZ4 : Kp (X + 1 < w4.heap.size) := ⟨by have h1 := (Array.getElem?_eq_some_iff.1 TY.it).1; have h2 := C4.it.size; omega⟩
  have R46 := Kp.mk ((R4'.it.relax (S' := fun b => b ≠ X + 1) (fun b (hb : w3.heap.size ≤ b) _ => by have := HZ3.it; omega)).same hs6)
  have R56 := Kp.mk ((R5.it.relax (S' := fun b => b ≠ X + 1) (fun b (hb : w4.heap.size ≤ b) _ => by have := HZ4.it; omega)).same hs6)
  have B6 : Kp (Below w.heap.size w w6) := ⟨HX.it ▸ hb6⟩
  clear hx6 hy6 hs6 hb6 y0 y1 y2 y3 yl
  go_wp2_with fail
  go_at_call 38
  refine (rdiff_any A4 A5 n4 c4 n5 c5 LA LB w6 _ _ R46.it R56.it (by omega)).mono ?_
  rintro e w7 ⟨A7, n7, c7, rfl, ho7, hn7, hb7⟩
  obtain ⟨A', c', hv, hr7⟩ := ho7.form (by have := HDL.it; have := HLA.it; have := HLB.it; omega)
  injection hv with hA hnn hc
  subst hA
  subst hc
  rw [← hnn] at hr7
  have R7 := Kp.mk hr7
  have N7 := Kp.mk hnn
  have B7 := Kp.mk (B6.it.trans (hb7.mono B6.it.size))
  have TX7 := Kp.mk (TX6.it.below hb7)
  have TY7 := Kp.mk (TY6.it.below hb7)
  have HZ7 : Kp (w.heap.size ≤ w7.heap.size) := ⟨B7.it.size⟩
  obtain ⟨KS, hKS⟩ : ∃ KS, KS = unl LA LB := ⟨_, rfl⟩
  rw [← hKS] at HK HKE
  have HKL : Kp (KS.length = n7) := ⟨by rw [← HKE.it, List.length_map, N7.it]⟩
  clear hr7 hnn hb7 hKS ho7
  go_wp2
  go_loopw [9, 45] (fun o i wr => ∃ (k : Nat) (A3 : Option Addr) (c3 : Nat), k ≤ n7 ∧ i = .int .i64 k ∧ o = .slice A3 k c3 ∧ Kp (OwnT wr w7.heap.size (.slice A3 k c3) (KS.take k)) ∧ Kp (Below w7.heap.size w7 wr)) (fun _ i _ => n7 - (intOf i).toNat)
  case atStart => exact ⟨0, none, 0, by omega, rfl, rfl, ⟨OwnT.nil _ _⟩, ⟨Below.refl _ _⟩⟩
  case round =>
    obtain ⟨k, A3, c3, hk, rfl, rfl, HO, HB⟩ := hrel
    by_cases hkn : k < n7
    · have hd : decide ((k : Int) < (n7 : Int)) = true := by simp; omega
      obtain ⟨x, hx⟩ : ∃ x, (diffE LA LB)[k]? = some x := ⟨_, List.getElem?_eq_getElem (by rw [← N7.it]; exact hkn)⟩
      obtain ⟨b1, o1, hA1, hl1, f0, f1, f2, f3, f4, f5⟩ := (R7.it.below HB.it).get hx
      cases hA1
      have HKX : Kp (KS[k]? = some x.key) := ⟨by rw [← HKE.it, List.getElem?_map, hx]; rfl⟩
      have HTK : Kp (KS.take (k + 1) = KS.take k ++ [x.key]) := ⟨by rw [List.take_add_one, HKX.it]; rfl⟩
      have HTL : Kp ((KS.take k).length = k) := ⟨by rw [List.length_take, HKL.it]; omega⟩
      clear hx
      go_upto_region 11 with fail
      refine wp_on (fun wz => wz.heap[wr.heap.size]? = some (.cells #[.int .i64 x.pos, .string x.key, .bool x.had, .string x.old, .bool x.has, .string x.now] 83 (0, 0)) ∧ Below wr.heap.size wr wz) ⟨blk_new _ _, (Below.refl _ _).alloc (Nat.le_refl _) _⟩ (fun w8 h8 => ?_)
      obtain ⟨h8, hb8⟩ := h8
      have g1 : w8.cell? ⟨wr.heap.size, 1, none⟩ = some (.string x.key) := blk_cell h8 rfl
      have hl8 := (Array.getElem?_eq_some_iff.1 h8).1
      have B8 := Kp.mk (HB.it.trans (hb8.mono HB.it.size))
      have O8 := Kp.mk (HO.it.below hb8)
      have Z8 := Kp.mk B8.it.size
      have HN8 : Kp ((KS.take k).length + 1 ≤ 100000000) := ⟨by rw [HTL.it]; omega⟩
      have HLN : Kp ((KS.take k ++ [x.key]).length = k + 1) := ⟨by rw [List.length_append, HTL.it]; rfl⟩
      clear h8 hb8 f0 f1 f2 f3 f4 f5
      go_wp2_with (refine app_t1 rfl (.tmp 49) (.tmp 52) rfl w7.heap.size (.slice A3 k c3) _ x.key rfl rfl O8.it Z8.it HN8.it ?_; intro v6 w9 ho9 hg9; obtain ⟨A6, c6, hv6, _, _, _⟩ := ho9.form (by rw [HLN.it]; omega); rw [HLN.it] at hv6; subst hv6; have O9 := Kp.mk ho9; have B9 := Kp.mk (below_ownT B8.it Z8.it O8.it (Nat.le_refl _) hg9); clear ho9 hg9)
      go_roundw
      case rel => exact ⟨k + 1, A6, c6, by omega, by go_num, rfl, ⟨by rw [HTK.it]; exact O9.it⟩, B9⟩
      case measure => simp [intOf]; omega
    · obtain rfl : k = n7 := by omega
      have hd : decide ((k : Int) < (k : Int)) = false := by simp
      rw [List.take_of_length_le (by rw [HKL.it]; omega)] at HO
      have TXr := Kp.mk (TX7.it.below HB.it)
      have TYr := Kp.mk (TY7.it.below HB.it)
      have BWr : Kp (Below w.heap.size w wr) := ⟨B7.it.trans (HB.it.mono B7.it.size)⟩
      obtain ⟨x0, x1, x2, x3, xl⟩ := TXr.it.opens
      obtain ⟨y0, y1, y2, y3, yl⟩ := TYr.it.opens
      have HXO : Kp (X < w7.heap.size) := ⟨(Array.getElem?_eq_some_iff.1 TX7.it).1⟩
      obtain ⟨PN, hPN⟩ : ∃ q : Nat, q = n4 + n5 := ⟨_, rfl⟩
      rw [← hPN] at y1
      have HPN := Kp.mk hPN
      clear hPN
      go_wp2
      go_region
      all_goals
        obtain ⟨w9, hw9⟩ : ∃ x : World, x = ((wr.setCell ⟨X, 0, none⟩ (Value.int IntKind.i64 0)).setCell ⟨X, 1, none⟩ (Value.int IntKind.i64 (PN : Int))).drew := ⟨_, rfl⟩
        rw [← hw9]
        have h9 : Tk 0 PN X w9 := by rw [hw9]; exact tk_put TXr.it
        obtain ⟨q0, q1⟩ := rend h9
        have B9 : Kp (Below w.heap.size w w9) := ⟨by rw [hw9]; exact below_drewN ((BWr.it.setCell (by show w.heap.size ≤ X; have := HX.it; omega) _).setCell (by show w.heap.size ≤ X; have := HX.it; omega) _) 1⟩
        have HW9 := Kp.mk hw9
        clear hw9 h9
        go_wp2
        try simp only [Exit.inBlock, Exit.then]
        refine bodyPost_ret (v := .tuple #[.slice A3 k c3, .agg #[.int .i64 ((0 : Nat) : Int), .int .i64 ((PN : Nat) : Int)]]) ?_ rfl ?_
        · simp [results, go_sem, q0, q1]
        · refine ⟨A3, k, c3, by rw [HD.it, HPP.it, ← N4.it, ← N5.it, ← HPN.it], ?_, B9.it⟩
          rw [HK.it, HW9.it]
          have h1 := ((HO.it.far (o := 0) (u := .int .i64 0) HXO.it).far (o := 1) (u := .int .i64 (PN : Int)) HXO.it).relax HZ7.it
          exact h1.below (below_drewN (Below.refl _ _) 1)
/-- append of strings that are read. -/
theorem app_ts {ops : Array Oper} {rest : List Oper} {o : Oper} {a : Act} {Q : Exit → Act → World → Prop} {W : World} (hgd : o.guard = none) (s x : Operand)
    (ho : o.op = .call { callee := .builtin .append, args := #[s, x], argTypes := #[28, 28] })
    (base : Nat) (v : Value) (l : List ByteArray) (A : Option Addr) (n c : Nat) (ys : List ByteArray) (hs : a.eval s = v) (hx : a.eval x = .slice A n c)
    (HO : OwnT W base v l) (HR : RT W A n ys) (hnil : A = none → c = 0) (hbase : base ≤ W.heap.size) (hl : l.length + ys.length ≤ 100000000)
    (h : ∀ v1 w1, OwnT w1 base v1 (l ++ ys) → W.grownBy w1 v.ownBlock → wpList Try.prog ops Q rest (a.put o.dst v1) w1) :
    wpList Try.prog ops Q (o :: rest) a W := by
  refine wpList_plain hgd fun K hK => ?_
  obtain ⟨v1, w1, hr, h1, h2, _⟩ := run_ts base v l A n c ys o.type HO HR hnil hbase hl
  unfold Oper.wp
  simp [execOp, ho, resolve, invoke, builtin, hs, hx, hr, Result.andThen]
  exact hK _ _ (h v1 w1 h1 h2)
set_option maxRecDepth 100000 in
set_option maxHeartbeats 8000000 in
theorem runl_succ (ka kb : BitVec 64) (S T : Nat → Prop) (s t : Nat) (la lb : List Pr) (hla : la.length ≤ 400) (hlb : lb.length ≤ 400) (hsa : ∀ p ∈ la, p.1.size + p.2.size ≤ 140737488351232) (hsb : ∀ p ∈ lb, p.1.size + p.2.size ≤ 140737488351232) (f : Nat) (hf : f ≤ 3) (ih : RUnlOk ka kb S T s t la lb f) :
    RUnlOk ka kb S T s t la lb (f + 1) := by
  intro A m c path w ta tb P hnil hm
  by_cases he : digU ka kb (f + 1) (inP ka kb path la) = digU ka kb (f + 1) (inP ka kb path lb)
  · exact runl_eq ka kb S T s t la lb (f + 1) (by omega) hla hlb hsa hsb A m c path w ta tb P hnil hm he
  have IH := Kp.mk ih
  have hm3 : m ≤ 3 := by omega
  have HM : Kp (m = 4 - (f + 1)) := ⟨hm⟩
  have HMF : Kp (m + 1 = 4 - f) := ⟨by omega⟩
  have hm3f : m = 3 - f := by omega
  have HPL : Kp (path.length = m) := ⟨P.len⟩
  have hq4 : ((m : Int) == 4) = false := by rw [beq_eq_false_iff_ne]; omega
  have HA := Kp.mk (rdig_any ka kb S s la (by omega) hsa (f + 1) (by omega))
  have HB := Kp.mk (rdig_any ka kb T t lb (by omega) hsb (f + 1) (by omega))
  have TA := Kp.mk ta
  have TB := Kp.mk tb
  have HP := Kp.mk P
  have HN := Kp.mk hnil
  have HAP := HA.it A m c path
  have HBP := HB.it A m c path
  have HKA : ∀ i : Nat, inP ka kb (path ++ [(i : Int)]) la = kid ka kb (3 - f) i (inP ka kb path la) := fun i => by rw [inP_snoc, P.len, hm3f]
  have HKB : ∀ i : Nat, inP ka kb (path ++ [(i : Int)]) lb = kid ka kb (3 - f) i (inP ka kb path lb) := fun i => by rw [inP_snoc, P.len, hm3f]
  have hlA : (inP ka kb path la).length ≤ 1000 := Nat.le_trans (inP_le ka kb path la) (by omega)
  have hlB : (inP ka kb path lb).length ≤ 1000 := Nat.le_trans (inP_le ka kb path lb) (by omega)
  obtain ⟨LA, hLA⟩ : ∃ l, l = inP ka kb path la := ⟨_, rfl⟩
  obtain ⟨LB, hLB⟩ : ∃ l, l = inP ka kb path lb := ⟨_, rfl⟩
  rw [← hLA] at hlA he HAP HKA ⊢
  rw [← hLB] at hlB he HBP HKB ⊢
  have HJ : Kp (∀ j, j ≤ 16 → (KJ ka kb f LA LB j).length ≤ 32000 ∧ DJ ka kb f LA LB j ≤ 10000000 ∧ PJ ka kb f LA LB j ≤ 32000) := ⟨fun j hj => J_le ka kb f hf LA LB hlA hlB j hj⟩
  have HK : Kp (difK ka kb (f + 1) LA LB = KJ ka kb f LA LB 16) := ⟨by unfold difK; rw [if_neg he]; rfl⟩
  have HD : Kp (difD ka kb (f + 1) LA LB = 16 + DJ ka kb f LA LB 16) := ⟨by unfold difD; rw [if_neg he]; rfl⟩
  have HPP : Kp (difP ka kb (f + 1) LA LB = PJ ka kb f LA LB 16) := ⟨by unfold difP; rw [if_neg he]; rfl⟩
  have HKA := Kp.mk HKA
  have HKB := Kp.mk HKB
  have HA2 := Kp.mk HAP
  have HB2 := Kp.mk HBP
  obtain ⟨U, hU⟩ : ∃ U : Int, U = ((digU ka kb (f + 1) LA).toNat : Int) := ⟨_, rfl⟩
  obtain ⟨V, hV⟩ : ∃ V : Int, V = ((digU ka kb (f + 1) LB).toNat : Int) := ⟨_, rfl⟩
  have huv : (U == V) = false := by
    rw [beq_eq_false_iff_ne, hU, hV]
    intro h
    exact he (BitVec.eq_of_toNat_eq (by omega))
  rw [← hU] at HA2
  rw [← hV] at HB2
  clear ta tb P hnil he hsa hsb hlA hlB HAP HBP hLA hLB hU hV HA HB ih hm hm3f
  go_enter Try.func51, Try.ntmps51
  go_upto_region 2 with fail
  refine wp_on (fun wx => Tk 0 0 w.heap.size wx ∧ Tk 0 0 (w.heap.size + 1) wx ∧ Below w.heap.size w wx) ⟨by first | exact blk_old _ (blk_new _ _) | exact tk_far (blk_old _ (blk_new _ _)) (by omega), by first | exact blk_new1 _ _ _ | exact tk_put (blk_new1 _ _ _), by first | exact ((Below.refl _ _).alloc (Nat.le_refl _) _).alloc (by simp) _ | exact ((((Below.refl _ _).alloc (Nat.le_refl _) _).alloc (by simp) _).setCell (by simp) _).setCell (by simp) _⟩ (fun w1 hx => ?_)
  obtain ⟨hx, hy, hb1⟩ := hx
  obtain ⟨X, hX⟩ : ∃ X, X = w.heap.size := ⟨_, rfl⟩
  rw [← hX] at hx hy ⊢
  have TX := Kp.mk hx
  have TY := Kp.mk hy
  have B1 := Kp.mk hb1
  have HX := Kp.mk hX
  clear hx hy hb1 hX
  go_wp2_with fail
  go_at_call 28
  refine (HA2.it w1 (TA.it.below B1.it) (HP.it.below B1.it) HN.it HM.it).mono ?_
  rintro e w2 ⟨rfl, hb2⟩
  have B2 := Kp.mk (B1.it.trans (hb2.mono B1.it.size))
  have C2 := Kp.mk hb2
  clear hb2
  go_wp2_with fail
  go_at_call 28
  refine (HB2.it w2 (TB.it.below B2.it) (HP.it.below B2.it) HN.it HM.it).mono ?_
  rintro e w3 ⟨rfl, hb3⟩
  have B3 := Kp.mk (B2.it.trans (hb3.mono B2.it.size))
  have C3 := Kp.mk (C2.it.trans (hb3.mono C2.it.size))
  have TX3 := Kp.mk (TX.it.below C3.it)
  have TY3 := Kp.mk (TY.it.below C3.it)
  clear hb3
  obtain ⟨y0, y1, y2, y3, yl⟩ := TY3.it.opens
  go_upto_region 15 with fail
  refine wp_on (fun wx => Tk 0 0 X wx ∧ Tk 16 0 (X + 1) wx ∧ Below X w wx ∧ X + 2 ≤ wx.heap.size) ⟨tk_far TX3.it (by omega), by have h9 := blk_set (o := 0) (Value.int IntKind.i64 (16 : Int)) TY3.it; exact h9, (HX.it ▸ B3.it).setCell (by show X ≤ X + 1; omega) _, by rw [size_set]; exact yl⟩ (fun w4 hx => ?_)
  obtain ⟨hx4, hy4, hb4, hz4⟩ := hx
  have TX4 := Kp.mk hx4
  have TY4 := Kp.mk hy4
  have B4 := Kp.mk hb4
  have Z4 := Kp.mk hz4
  clear hx4 hy4 hb4 hz4 y0 y1 y2 y3 yl TX3 TY3 TX TY
  go_wp2
  go_loopw [9, 58] (fun o i wr => ∃ (d : Nat) (A3 : Option Addr) (k3 c3 : Nat), d ≤ 16 ∧ i = .int .i64 d ∧ o = .slice A3 k3 c3 ∧ Kp (OwnT wr (X + 2) (.slice A3 k3 c3) (KJ ka kb f LA LB d)) ∧ Kp (Tk 0 0 X wr) ∧ Kp (Tk (16 + DJ ka kb f LA LB d) (PJ ka kb f LA LB d) (X + 1) wr) ∧ Kp (Below X w wr) ∧ Kp (X + 2 ≤ wr.heap.size)) (fun _ i _ => 16 - (intOf i).toNat)
  case atStart => exact ⟨0, none, 0, 0, by omega, rfl, rfl, ⟨by have : KJ ka kb f LA LB 0 = [] := rfl; rw [this]; exact OwnT.nil _ _⟩, TX4, ⟨TY4.it⟩, B4, Z4⟩
  case round =>
    clear TX4 TY4 B4 Z4
    obtain ⟨d, A3, k3, c3, hd16, rfl, rfl, HO, TX, TY, HB, HZ⟩ := hrel
    have BW : Kp (Below w.heap.size w wr) := ⟨HX.it ▸ HB.it⟩
    by_cases hdn : d < 16
    · have hd : decide ((d : Int) < 16) = true := by simp; omega
      have HO0 := Kp.mk (own_empty wr)
      have HB0 : Kp (Below wr.heap.size wr (wr.alloc (.cells #[] 3))) := ⟨(Below.refl _ _).alloc (Nat.le_refl _) _⟩
      have HR0 : Kp (Rd (wr.alloc (.cells #[] 3)) A m path) := ⟨HP.it.below (BW.it.alloc BW.it.size _)⟩
      have HZ0 : Kp (wr.heap.size ≤ (wr.alloc (.cells #[] 3)).heap.size) := ⟨HB0.it.size⟩
      have HN0 : Kp (([] : List Int).length + path.length ≤ 17592186044416) := ⟨by rw [HPL.it]; simp; omega⟩
      have HN1 : Kp (([] ++ path).length + 1 ≤ 17592186044416) := ⟨by rw [List.nil_append, HPL.it]; omega⟩
      have HLL : Kp (([] ++ path ++ [(d : Int)]).length = m + 1) := ⟨by rw [List.length_append, List.nil_append, HPL.it]; rfl⟩
      go_wp2_with (first
        | (refine app_rd rfl (.tmp 64) (.tmp 65) rfl wr.heap.size _ [] A m c path rfl rfl HO0.it HR0.it HN.it HZ0.it HN0.it ?_; intro v1 w5 ho1 hg1 _; have O1 := Kp.mk ho1; have C5 := Kp.mk (below_own HB0.it HZ0.it HO0.it (Nat.le_refl _) hg1); have Z5 := Kp.mk C5.it.size; clear ho1 hg1)
        | (refine app_own rfl (.tmp 66) (.tmp 68) rfl wr.heap.size v1 _ (d : Int) rfl rfl O1.it Z5.it HN1.it ?_; intro v2 w6 ho2 hg2 _; obtain ⟨A9, c9, hv9, hn9, _, _, hr9⟩ := ho2.form3 (by rw [HLL.it]; omega); rw [HLL.it] at hv9 hr9; subst hv9; have R9 := Kp.mk hr9; have N9 := Kp.mk hn9; have C6 := Kp.mk (below_own C5.it Z5.it O1.it (Nat.le_refl _) hg2); clear ho2 hg2 hr9 hn9)
        | fail)
      have BW6 : Kp (Below w.heap.size w w6) := ⟨BW.it.trans (C6.it.mono BW.it.size)⟩
      go_at_call 51
      refine (IH.it A9 (m + 1) c9 _ w6 (TA.it.below BW6.it) (TB.it.below BW6.it) R9.it N9.it HMF.it).mono ?_
      rintro e w7 ⟨A15, n15, c15, rfl, ho15, hb7⟩
      rw [List.nil_append, HKA.it d, HKB.it d] at ho15 ⊢
      have C7 : Kp (Below wr.heap.size wr w7) := ⟨C6.it.trans (hb7.mono C6.it.size)⟩
      obtain ⟨D5, hD5⟩ : ∃ D, D = difD ka kb f (kid ka kb (3 - f) d LA) (kid ka kb (3 - f) d LB) := ⟨_, rfl⟩
      obtain ⟨P5, hP5⟩ : ∃ D, D = difP ka kb f (kid ka kb (3 - f) d LA) (kid ka kb (3 - f) d LB) := ⟨_, rfl⟩
      obtain ⟨K5, hK5⟩ : ∃ D, D = difK ka kb f (kid ka kb (3 - f) d LA) (kid ka kb (3 - f) d LB) := ⟨_, rfl⟩
      rw [← hD5, ← hP5]
      rw [← hK5] at ho15
      have HKJ : Kp (KJ ka kb f LA LB (d + 1) = KJ ka kb f LA LB d ++ K5) := ⟨by rw [KJ_succ, hK5]⟩
      have HDJ : Kp (DJ ka kb f LA LB (d + 1) = DJ ka kb f LA LB d + D5) := ⟨by rw [DJ_succ, hD5]⟩
      have HPJ : Kp (PJ ka kb f LA LB (d + 1) = PJ ka kb f LA LB d + P5) := ⟨by rw [PJ_succ, hP5]⟩
      have HKL : Kp ((KJ ka kb f LA LB d).length + K5.length ≤ 100000000) := ⟨by have h1 := (HJ.it (d + 1) (by omega)).1; rw [HKJ.it, List.length_append] at h1; omega⟩
      obtain ⟨A', c', hv, hn15, _, hr15⟩ := ho15.form (by have := HKL.it; omega)
      injection hv with hA hnn hc
      subst hA
      subst hc
      rw [← hnn] at hr15
      obtain ⟨Q0, hQ0⟩ : ∃ q, q = 16 + DJ ka kb f LA LB d := ⟨_, rfl⟩
      obtain ⟨Q1, hQ1⟩ : ∃ q, q = PJ ka kb f LA LB d := ⟨_, rfl⟩
      rw [← hQ0, ← hQ1] at TY
      have hb0 : Q0 + D5 ≤ 20000000 := by have h1 := (HJ.it (d + 1) (by omega)).2.1; rw [HDJ.it] at h1; omega
      have hb1 : Q1 + P5 ≤ 20000000 := by have h1 := (HJ.it (d + 1) (by omega)).2.2; rw [HPJ.it] at h1; omega
      have HQ0 : Kp (16 + DJ ka kb f LA LB (d + 1) = Q0 + D5) := ⟨by rw [HDJ.it, hQ0]; omega⟩
      have HQ1 : Kp (PJ ka kb f LA LB (d + 1) = Q1 + P5) := ⟨by rw [HPJ.it, hQ1]⟩
      have R15 := Kp.mk hr15
      have N15 := Kp.mk hn15
      clear ho15 hr15 hn15 hnn hb7 hD5 hP5 hK5 hQ0 hQ1 O1 C5 Z5 R9 N9 C6 BW6
      go_upto_region 19 with fail
      refine wp_on (fun wx => Tk D5 P5 w7.heap.size wx ∧ Below w7.heap.size w7 wx) ⟨by first | exact blk_new _ _ | (rw [show ∀ (a b : Value), Tk D5 P5 w7.heap.size = Tk D5 P5 w7.heap.size from fun _ _ => rfl]; exact tk_put (blk_new _ _)) | exact tk_put (D := 0) (P := 0) (blk_new _ _), by first | exact (Below.refl _ _).alloc (Nat.le_refl _) _ | exact (((Below.refl _ _).alloc (Nat.le_refl _) _).setCell (Nat.le_refl _) _).setCell (Nat.le_refl _) _⟩ (fun w8 hx => ?_)
      obtain ⟨hz8, hb8⟩ := hx
      obtain ⟨Z, hZ⟩ : ∃ Z, Z = w7.heap.size := ⟨_, rfl⟩
      rw [← hZ] at hz8 ⊢
      have TZ8 := Kp.mk hz8
      have C8 : Kp (Below wr.heap.size wr w8) := ⟨C7.it.trans (hb8.mono C7.it.size)⟩
      have R8 := Kp.mk (R15.it.below hb8)
      have O8 := Kp.mk (HO.it.below C8.it)
      have HZX : Kp (wr.heap.size ≤ Z) := ⟨by rw [hZ]; exact C7.it.size⟩
      have HOB : Kp (∀ q, (Value.slice A3 k3 c3).ownBlock = some q → X + 2 ≤ q ∧ q < wr.heap.size) := ⟨fun q e => HO.it.lt q e⟩
      have TX8 := Kp.mk (TX.it.below C8.it)
      have TY8 := Kp.mk (TY.it.below C8.it)
      have B8 : Kp (Below X w w8) := ⟨HB.it.trans (C8.it.mono (by have := HZ.it; omega))⟩
      have Z8 : Kp (X + 2 ≤ w8.heap.size) := ⟨by have h1 := C8.it.size; have h2 := HZ.it; omega⟩
      clear hz8 hb8 hZ HO TX TY HB C7 R15
      go_upto_region 20 with (refine app_ts rfl (.tmp 73) (.tmp 74) rfl (X + 2) (.slice A3 k3 c3) _ A15 n15 c15 K5 rfl rfl O8.it R8.it N15.it Z8.it HKL.it ?_; intro v9 w9 ho9 hg9; rw [← HKJ.it] at ho9; obtain ⟨A6, c6, hv6, _, _, _⟩ := ho9.form (by have := (HJ.it (d + 1) (by omega)).1; omega); subst hv6; have O9 := Kp.mk ho9; have G9 := Kp.mk hg9; clear ho9 hg9)
      have TX9 : Kp (Tk 0 0 X w9) := ⟨keep_blk TX8.it G9.it (fun e => by have := HOB.it _ e; omega)⟩
      have TY9 : Kp (Tk Q0 Q1 (X + 1) w9) := ⟨keep_blk TY8.it G9.it (fun e => by have := HOB.it _ e; omega)⟩
      have TZ9 : Kp (Tk D5 P5 Z w9) := ⟨keep_blk TZ8.it G9.it (fun e => by have := HOB.it _ e; have := HZX.it; omega)⟩
      have B9 : Kp (Below X w w9) := ⟨below_ownT B8.it (by have := Z8.it; omega) O8.it (by omega) G9.it⟩
      have Z9 : Kp (X + 2 ≤ w9.heap.size) := ⟨Nat.le_trans Z8.it G9.it.size⟩
      have HZN : Kp (Z ≠ X + 1) := ⟨by have h1 := HZX.it; have h2 := HZ.it; omega⟩
      obtain ⟨k6, hk6⟩ : ∃ k, k = (KJ ka kb f LA LB (d + 1)).length := ⟨_, rfl⟩
      rw [← hk6] at O9 ⊢
      clear hk6 TX8 TY8 TZ8 B8 Z8 O8 G9 R8 N15
      obtain ⟨y0, y1, y2, y3, yl⟩ := TY9.it.opens
      obtain ⟨z0, z1, z2, z3, zl⟩ := TZ9.it.opens
      have hzn : ¬ Z = X + 1 := HZN.it
      go_upto_region 22 with fail
      refine wp_on (fun wx => Tk 0 0 X wx ∧ Tk (Q0 + D5) (Q1 + P5) (X + 1) wx ∧ OwnT wx (X + 2) (.slice A6 k6 c6) (KJ ka kb f LA LB (d + 1)) ∧ Below X w wx ∧ X + 2 ≤ wx.heap.size) ?_ (fun wa hx => ?_)
      · refine ⟨tk_far (tk_far TX9.it (by omega)) (by omega), ?_, (O9.it.far (by omega)).far (by omega), (B9.it.setCell (by show X ≤ X + 1; omega) _).setCell (by show X ≤ X + 1; omega) _, by rw [size_set, size_set]; exact Z9.it⟩
        have := tk_put (D' := Q0 + D5) (P' := Q1 + P5) TY9.it
        rw [Int.natCast_add, Int.natCast_add] at this
        exact this
      obtain ⟨hxa, hya, hoa, hba, hza⟩ := hx
      have TXa := Kp.mk hxa
      have TYa := Kp.mk hya
      have Oa := Kp.mk hoa
      have Ba := Kp.mk hba
      have Za := Kp.mk hza
      clear hxa hya hoa hba hza y0 y1 y2 y3 yl z0 z1 z2 z3 zl
      go_wp2
      go_roundw
      case rel => exact ⟨d + 1, A6, k6, c6, by omega, by go_num, rfl, Oa, TXa, ⟨by rw [HQ0.it, HQ1.it]; exact TYa.it⟩, Ba, Za⟩
      case measure => simp [intOf]; omega
    · obtain rfl : d = 16 := by omega
      have hd : decide (((16 : Nat) : Int) < 16) = false := by decide
      obtain ⟨x0, x1, x2, x3, xl⟩ := TX.it.opens
      obtain ⟨DN, hDN⟩ : ∃ q : Nat, q = 16 + DJ ka kb f LA LB 16 := ⟨_, rfl⟩
      obtain ⟨PN, hPN⟩ : ∃ q : Nat, q = PJ ka kb f LA LB 16 := ⟨_, rfl⟩
      rw [← hDN, ← hPN] at TY
      have HDN := Kp.mk hDN
      have HPN := Kp.mk hPN
      clear hDN hPN
      obtain ⟨y0, y1, y2, y3, yl⟩ := TY.it.opens
      go_wp2
      go_region
      all_goals
        obtain ⟨w9, hw9⟩ : ∃ x : World, x = ((wr.setCell ⟨X, 0, none⟩ (Value.int IntKind.i64 (DN : Int))).setCell ⟨X, 1, none⟩ (Value.int IntKind.i64 (PN : Int))).drew := ⟨_, rfl⟩
        rw [← hw9]
        have h9 : Tk DN PN X w9 := by rw [hw9]; exact tk_put TX.it
        obtain ⟨q0, q1⟩ := rend h9
        have B9 : Kp (Below w.heap.size w w9) := ⟨by rw [hw9]; exact below_drewN ((BW.it.setCell (by show w.heap.size ≤ X; have := HX.it; omega) _).setCell (by show w.heap.size ≤ X; have := HX.it; omega) _) 1⟩
        have HW9 := Kp.mk hw9
        clear hw9 h9
        go_wp2
        try simp only [Exit.inBlock, Exit.then]
        refine bodyPost_ret (v := .tuple #[.slice A3 k3 c3, .agg #[.int .i64 ((DN : Nat) : Int), .int .i64 ((PN : Nat) : Int)]]) ?_ rfl ?_
        · simp [results, go_sem, q0, q1]
        · refine ⟨A3, k3, c3, by rw [HD.it, HPP.it, ← HDN.it, ← HPN.it], ?_, B9.it⟩
          rw [HK.it, HW9.it]
          have hx2 : X < X + 2 := by omega
          have h1 := ((HO.it.far (o := 0) (u := .int .i64 (DN : Int)) hx2).far (o := 1) (u := .int .i64 (PN : Int)) hx2).relax (base' := w.heap.size) (by have := HX.it; omega)
          exact h1.below (below_drewN (Below.refl _ _) 1)
theorem runl_any (ka kb : BitVec 64) (S T : Nat → Prop) (s t : Nat) (la lb : List Pr) (hla : la.length ≤ 400) (hlb : lb.length ≤ 400) (hsa : ∀ p ∈ la, p.1.size + p.2.size ≤ 140737488351232) (hsb : ∀ p ∈ lb, p.1.size + p.2.size ≤ 140737488351232) (hra : Rise la) (hrb : Rise lb) : ∀ f, f ≤ 4 → RUnlOk ka kb S T s t la lb f
  | 0, _ => runl_zero ka kb S T s t la lb hla hlb hsa hsb hra hrb
  | f + 1, hf => runl_succ ka kb S T s t la lb hla hlb hsa hsb f (by omega) (runl_any ka kb S T s t la lb hla hlb hsa hsb hra hrb f (by omega))
end Go.Proofs.Ytcmkjoepndbicaa
