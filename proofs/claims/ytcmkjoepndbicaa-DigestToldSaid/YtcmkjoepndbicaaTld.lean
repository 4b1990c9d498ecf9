/-
  cmp.Less, slices.IsSorted, slices.Contains of strings; slices.ContainsFunc of events; what is told and what is hidden, plainly.
-/
import Derived.Test.YtcmkjoepndbicaaUnv
namespace Go.Proofs.Ytcmkjoepndbicaa
open Go Go.RowKit

set_option maxHeartbeats 1000000 in
theorem nan_any (x : ByteArray) (w : World) : Calls Try.prog 82 #[.string x] w fun e w' => e = .returned (.bool false) ∧ w' = w := by
  have hxx : (x.toList == x.toList) = true := by simp
  go_enter Try.func82, Try.ntmps82
  go_wp2
  go_ret
  exact ⟨rfl, rfl⟩
set_option maxHeartbeats 1000000 in
theorem less_any (x y : ByteArray) (w : World) : Calls Try.prog 68 #[.string x, .string y] w fun e w' => e = .returned (.bool (ltB x y)) ∧ w' = w := by
  obtain ⟨b, hb⟩ : ∃ b, b = ltB x y := ⟨_, rfl⟩
  have hb' : Op.bytesLess x.toList y.toList = b := hb.symm
  rw [← hb]
  clear hb
  cases b with
  | true =>
    go_enter Try.func68, Try.ntmps68
    go_wp2_with (go_at_call 82; refine (nan_any _ _).mono ?_; rintro e w' ⟨rfl, rfl⟩)
    go_ret
    exact ⟨rfl, rfl⟩
  | false =>
    go_enter Try.func68, Try.ntmps68
    go_wp2_with (go_at_call 82; refine (nan_any _ _).mono ?_; rintro e w' ⟨rfl, rfl⟩)
    go_ret
    exact ⟨rfl, rfl⟩
theorem wrap_small (k : Nat) (h : k < 4611686018427387904) : IntKind.i64.wrap (k : Int) = (k : Int) := by rw [IntKind.wrap_i64]; omega
set_option linter.unusedSimpArgs false in
set_option linter.unusedVariables false in
set_option maxRecDepth 100000 in
set_option maxHeartbeats 4000000 in
theorem sorted_any (A : Option Addr) (n c : Nat) (ss : List ByteArray) (w : World) (h : RT w A n ss) (hr : RiseK ss) (hn : n ≤ 100000000) :
    Calls Try.prog 39 #[.slice A n c] w fun e w' => e = .returned (.bool true) ∧ Below w.heap.size w w' := by
  have HL := Kp.mk h.len
  have H := Kp.mk h
  have HR := Kp.mk hr
  clear h hr
  go_enter Try.func39, Try.ntmps39
  go_wp2
  go_loopw [3] (fun i wr => ∃ k : Nat, k ≤ n ∧ i = .int .i64 ((k : Int) - 1) ∧ Kp (Below w.heap.size w wr)) (fun i _ => (intOf i + 1).toNat)
  case atStart => exact ⟨n, by omega, rfl, ⟨Below.refl _ _⟩⟩
  case round =>
    obtain ⟨q, hq, rfl, HB⟩ := hrel
    by_cases h2 : 2 ≤ q
    · obtain ⟨k, rfl⟩ : ∃ k, q = k + 2 := ⟨q - 2, by omega⟩
      have hi : (((k + 2 : Nat) : Int) - 1) = ((k + 1 : Nat) : Int) := by omega
      rw [hi]
      have hd : decide ((0 : Int) < ((k + 1 : Nat) : Int)) = true := by rw [decide_eq_true_eq]; omega
      obtain ⟨b1, o1, hA, hl1, hc⟩ := (H.it.below HB.it).row (by omega)
      obtain ⟨x, hx⟩ : ∃ x, ss[k + 1]? = some x := ⟨_, List.getElem?_eq_getElem (by rw [HL.it]; omega)⟩
      obtain ⟨y, hy⟩ : ∃ y, ss[k]? = some y := ⟨_, List.getElem?_eq_getElem (by rw [HL.it]; omega)⟩
      have f0 := hc (k + 1) x hx
      have f1 := hc k y hy
      subst hA
      have HLT : Kp (ltB x y = false) := ⟨by
        have h1 := HR.it
        unfold RiseK at h1
        obtain ⟨hx1, rfl⟩ := List.getElem?_eq_some_iff.1 hx
        obtain ⟨hy1, rfl⟩ := List.getElem?_eq_some_iff.1 hy
        have h3 := List.pairwise_iff_getElem.1 h1 k (k + 1) hy1 hx1 (by omega)
        rw [ltB_eq, tl_data, tl_data, decide_eq_false_iff_not]
        exact fun h4 => List.lt_irrefl _ (List.lt_trans h3 h4)⟩
      have hkn : k + 1 < n := by omega
      have hkz : ((k + 1 : Nat) : Int) < (n : Int) := by omega
      have hkz2 : (k : Int) < (n : Int) := by omega
      have hk62 : k < 4611686018427387904 := by omega
      clear hc hx hy
      go_wp2_with fail
      refine wp_region_sp [SpK.ex (.slice (some ⟨b1, o1, none⟩) n c), SpK.ex (.int .i64 ((k + 1 : Nat) : Int)), SpK.ex (.pointer (some ⟨b1, o1 + (k + 1), none⟩)), SpK.ex (.string x), SpK.ex (.slice (some ⟨b1, o1, none⟩) n c), SpK.ex (.int .i64 ((k + 1 : Nat) : Int)), SpK.ex (.int .i64 (k : Int)), SpK.ex (.pointer (some ⟨b1, o1 + k, none⟩)), SpK.ex (.string y), SpK.ex (.bool false)] (by kernel_rfl) (by kernel_rfl) ?_ ?_
      · intro i o ho a W hbW hG
        match i with
        | 0 =>
          have ho1 := ho
          cases ho
          have t0 : a.tmps.getD 0 undef = .slice (some ⟨b1, o1, none⟩) n c := hG.old 0 (by decide)
          exact op_value_g (w1 := W) ho1 (wanted_none rfl) (.slice (some ⟨b1, o1, none⟩) n c) (by simp [go_sem, Act.eval, -Array.getD_eq_getD_getElem?, t0]) (Gr.refl _) rfl
        | 1 =>
          have ho1 := ho
          cases ho
          have t3 : a.tmps.getD 3 undef = .int .i64 ((k + 1 : Nat) : Int) := hG.old 3 (by decide)
          exact op_value_g (w1 := W) ho1 (wanted_none rfl) (.int .i64 ((k + 1 : Nat) : Int)) (by simp [go_sem, Act.eval, -Array.getD_eq_getD_getElem?, t3]) (Gr.refl _) rfl
        | 2 =>
          have ho1 := ho
          cases ho
          have t11 : a.tmps.getD 11 undef = .slice (some ⟨b1, o1, none⟩) n c := hG.dep 0 (by decide) 11 rfl
          have t12 : a.tmps.getD 12 undef = .int .i64 ((k + 1 : Nat) : Int) := hG.dep 1 (by decide) 12 rfl
          exact op_value_g (w1 := W) ho1 (wanted_none rfl) (.pointer (some ⟨b1, o1 + (k + 1), none⟩)) (by simp [go_sem, Act.eval, -Array.getD_eq_getD_getElem?, t11, t12]; omega) (Gr.refl _) rfl
        | 3 =>
          have ho1 := ho
          cases ho
          have t13 : a.tmps.getD 13 undef = .pointer (some ⟨b1, o1 + (k + 1), none⟩) := hG.dep 2 (by decide) 13 rfl
          have q0 := (hbW.cell (p := ⟨b1, o1 + (k + 1), none⟩) hl1).trans f0
          have q1 := (hbW.cell (p := ⟨b1, o1 + k, none⟩) hl1).trans f1
          exact op_value_g (w1 := W) ho1 (wanted_none rfl) (.string x) (by simp [go_sem, Act.eval, -Array.getD_eq_getD_getElem?, t13, q0, q1]) (Gr.refl _) rfl
        | 4 =>
          have ho1 := ho
          cases ho
          have t0 : a.tmps.getD 0 undef = .slice (some ⟨b1, o1, none⟩) n c := hG.old 0 (by decide)
          exact op_value_g (w1 := W) ho1 (wanted_none rfl) (.slice (some ⟨b1, o1, none⟩) n c) (by simp [go_sem, Act.eval, -Array.getD_eq_getD_getElem?, t0]) (Gr.refl _) rfl
        | 5 =>
          have ho1 := ho
          cases ho
          have t3 : a.tmps.getD 3 undef = .int .i64 ((k + 1 : Nat) : Int) := hG.old 3 (by decide)
          exact op_value_g (w1 := W) ho1 (wanted_none rfl) (.int .i64 ((k + 1 : Nat) : Int)) (by simp [go_sem, Act.eval, -Array.getD_eq_getD_getElem?, t3]) (Gr.refl _) rfl
        | 6 =>
          have ho1 := ho
          cases ho
          have t16 : a.tmps.getD 16 undef = .int .i64 ((k + 1 : Nat) : Int) := hG.dep 5 (by decide) 16 rfl
          exact op_value_g (w1 := W) ho1 (wanted_none rfl) (.int .i64 (k : Int)) (by simp [go_sem, Act.eval, -Array.getD_eq_getD_getElem?, t16]; exact wrap_small k hk62) (Gr.refl _) rfl
        | 7 =>
          have ho1 := ho
          cases ho
          have t15 : a.tmps.getD 15 undef = .slice (some ⟨b1, o1, none⟩) n c := hG.dep 4 (by decide) 15 rfl
          have t17 : a.tmps.getD 17 undef = .int .i64 (k : Int) := hG.dep 6 (by decide) 17 rfl
          exact op_value_g (w1 := W) ho1 (wanted_none rfl) (.pointer (some ⟨b1, o1 + k, none⟩)) (by simp [go_sem, Act.eval, -Array.getD_eq_getD_getElem?, t15, t17]; omega) (Gr.refl _) rfl
        | 8 =>
          have ho1 := ho
          cases ho
          have t18 : a.tmps.getD 18 undef = .pointer (some ⟨b1, o1 + k, none⟩) := hG.dep 7 (by decide) 18 rfl
          have q0 := (hbW.cell (p := ⟨b1, o1 + (k + 1), none⟩) hl1).trans f0
          have q1 := (hbW.cell (p := ⟨b1, o1 + k, none⟩) hl1).trans f1
          exact op_value_g (w1 := W) ho1 (wanted_none rfl) (.string y) (by simp [go_sem, Act.eval, -Array.getD_eq_getD_getElem?, t18, q0, q1]) (Gr.refl _) rfl
        | 9 =>
          have ho1 := ho
          cases ho
          have t14 : a.tmps.getD 14 undef = .string x := hG.dep 3 (by decide) 14 rfl
          have t19 : a.tmps.getD 19 undef = .string y := hG.dep 8 (by decide) 19 rfl
          refine op_call_g ho1 (wanted_none rfl) 68 #[.string x, .string y] (by simp [go_sem, Act.eval, -Array.getD_eq_getD_getElem?, t14, t19]) ?_
          refine (less_any x y W).mono ?_
          rintro e W' ⟨rfl, rfl⟩
          exact ⟨_, rfl, Gr.refl _, by rw [HLT.it]; rfl⟩
        | q + 10 => cases ho
      · intro a W hbW hD
        have hfr := hD.frame [11, 12, 13, 14, 15, 16, 17, 18, 19, 20] (by kernel_rfl)
        have t11 : a.tmps.getD 11 undef = .slice (some ⟨b1, o1, none⟩) n c := hD.sp 0 (by decide) 11 rfl
        have t12 : a.tmps.getD 12 undef = .int .i64 ((k + 1 : Nat) : Int) := hD.sp 1 (by decide) 12 rfl
        have t13 : a.tmps.getD 13 undef = .pointer (some ⟨b1, o1 + (k + 1), none⟩) := hD.sp 2 (by decide) 13 rfl
        have t14 : a.tmps.getD 14 undef = .string x := hD.sp 3 (by decide) 14 rfl
        have t15 : a.tmps.getD 15 undef = .slice (some ⟨b1, o1, none⟩) n c := hD.sp 4 (by decide) 15 rfl
        have t16 : a.tmps.getD 16 undef = .int .i64 ((k + 1 : Nat) : Int) := hD.sp 5 (by decide) 16 rfl
        have t17 : a.tmps.getD 17 undef = .int .i64 (k : Int) := hD.sp 6 (by decide) 17 rfl
        have t18 : a.tmps.getD 18 undef = .pointer (some ⟨b1, o1 + k, none⟩) := hD.sp 7 (by decide) 18 rfl
        have t19 : a.tmps.getD 19 undef = .string y := hD.sp 8 (by decide) 19 rfl
        have t20 : a.tmps.getD 20 undef = .bool false := hD.sp 9 (by decide) 20 rfl
        simp only [List.foldl_cons, List.foldl_nil] at hfr
        rw [t11, t12, t13, t14, t15, t16, t17, t18, t19, t20] at hfr
        rw [hfr]
        clear hfr hD t11 t12 t13 t14 t15 t16 t17 t18 t19 t20
        have HBW := Kp.mk hbW
        clear hbW
        simp only [Act.put, List.setIfInBounds_toArray, List.set_cons_succ, List.set_cons_zero]
        have HB2 := Kp.mk (HB.it.trans (HBW.it.mono HB.it.size))
        clear HBW
        go_wp2
        go_roundw
        case rel => exact ⟨k + 1, by omega, by go_num, HB2⟩
        case measure => simp [intOf]; omega
    · have hd : decide ((0 : Int) < (q : Int) - 1) = false := by rw [decide_eq_false_iff_not]; omega
      go_wp2
      go_ret
      exact ⟨rfl, HB.it⟩
/-- Does a string stand in a list? -/
def memB (ss : List ByteArray) (s : ByteArray) : Bool := ss.any fun x => s.toList == x.toList
theorem str_beq (x y : ByteArray) : (x.toList == y.toList) = decide (x = y) := by
  rw [tl_data, tl_data, Bool.eq_iff_iff, beq_iff_eq, decide_eq_true_eq]
  exact ⟨str_ext, fun e => by rw [e]⟩
theorem memB_iff (ss : List ByteArray) (s : ByteArray) : memB ss s = true ↔ s ∈ ss := by
  unfold memB
  rw [List.any_eq_true]
  constructor
  · rintro ⟨x, hx, h⟩
    rw [str_beq] at h
    have : s = x := of_decide_eq_true h
    rw [this]
    exact hx
  · intro h
    exact ⟨s, h, by simp⟩
set_option maxRecDepth 100000 in
set_option maxHeartbeats 4000000 in
theorem indexs_any (A : Option Addr) (n c : Nat) (ss : List ByteArray) (s : ByteArray) (w : World) (h : RT w A n ss) (hn : n ≤ 100000000) :
    Calls Try.prog 70 #[.slice A n c, .string s] w fun e w' => ∃ k : Int, e = .returned (.int .i64 k) ∧ (decide (0 ≤ k) = memB ss s) ∧ Below w.heap.size w w' := by
  have HL := Kp.mk h.len
  have H := Kp.mk h
  clear h
  go_enter Try.func70, Try.ntmps70
  go_wp2
  go_loopw [8] (fun i wr => ∃ k : Nat, k ≤ n ∧ i = .int .i64 k ∧ Kp (∀ j x, j < k → ss[j]? = some x → x ≠ s) ∧ Kp (Below w.heap.size w wr)) (fun i _ => n - (intOf i).toNat)
  case atStart => exact ⟨0, by omega, rfl, ⟨fun j x h => by omega⟩, ⟨Below.refl _ _⟩⟩
  case round =>
    obtain ⟨k, hk, rfl, HNO, HB⟩ := hrel
    by_cases hkn : k < n
    · have hd : decide ((k : Int) < (n : Int)) = true := by simp; omega
      obtain ⟨b1, o1, hA, hl1, hc⟩ := (H.it.below HB.it).row (by omega)
      obtain ⟨x, hx⟩ : ∃ x, ss[k]? = some x := ⟨_, List.getElem?_eq_getElem (by rw [HL.it]; exact hkn)⟩
      have f0 := hc k x hx
      subst hA
      have HX := Kp.mk hx
      have HS := Kp.mk (str_beq s x)
      clear hc hx
      cases q1 : (s.toList == x.toList) with
      | true =>
        have HE : Kp (s = x) := ⟨by have h := HS.it; rw [q1] at h; exact of_decide_eq_true h.symm⟩
        go_wp2
        go_ret
        refine ⟨(k : Int), rfl, ?_, HB.it⟩
        rw [decide_eq_true (by omega), (memB_iff ss s).2 (by rw [HE.it]; exact List.mem_of_getElem? HX.it)]
      | false =>
        have HE : Kp (x ≠ s) := ⟨by have h := HS.it; rw [q1] at h; exact fun e => of_decide_eq_false h.symm e.symm⟩
        go_wp2
        go_roundw
        case rel => exact ⟨k + 1, by omega, by go_num, ⟨fun j y hj hy => by
          rcases Nat.lt_succ_iff_lt_or_eq.1 hj with h | rfl
          · exact HNO.it j y h hy
          · rw [HX.it] at hy; cases hy; exact HE.it⟩, HB⟩
        case measure => simp [intOf]; omega
    · obtain rfl : k = n := by omega
      have hd : decide ((k : Int) < (k : Int)) = false := by simp
      go_wp2
      go_ret
      refine ⟨-1, rfl, ?_, HB.it⟩
      rw [decide_eq_false (by omega)]
      cases hmb : memB ss s with
      | false => rfl
      | true =>
      have hm := (memB_iff ss s).1 hmb
      exfalso
      obtain ⟨j, hj⟩ := List.getElem?_of_mem hm
      exact HNO.it j s (by have := (List.getElem?_eq_some_iff.1 hj).1; rw [HL.it] at this; exact this) hj rfl
set_option maxHeartbeats 1000000 in
theorem containss_any (A : Option Addr) (n c : Nat) (ss : List ByteArray) (s : ByteArray) (w : World) (h : RT w A n ss) (hn : n ≤ 100000000) :
    Calls Try.prog 42 #[.slice A n c, .string s] w fun e w' => e = .returned (.bool (memB ss s)) ∧ Below w.heap.size w w' := by
  have HI := Kp.mk (indexs_any A n c ss s w h hn)
  clear h hn
  go_enter Try.func42, Try.ntmps42
  go_wp2_with fail
  go_at_call 70
  refine HI.it.mono ?_
  rintro e w1 ⟨k, rfl, hk, hb1⟩
  have HK := Kp.mk hk
  have B1 := Kp.mk hb1
  clear hk hb1
  obtain ⟨b, hb⟩ : ∃ b, b = decide (0 ≤ k) := ⟨_, rfl⟩
  rw [← hb] at HK
  have hb' := hb.symm
  clear hb
  cases b with
  | true =>
    go_wp2
    go_ret
    exact ⟨by rw [← HK.it]; rfl, B1.it⟩
  | false =>
    go_wp2
    go_ret
    exact ⟨by rw [← HK.it]; rfl, B1.it⟩
def evV (k : Ev) : Value := .agg #[.int .i64 k.pos, .string k.key, .bool k.had, .string k.old, .bool k.has, .string k.now]
set_option maxHeartbeats 1000000 in
theorem clo41 (x : Ev) (s : ByteArray) (b : Nat) (w : World) (hb : w.heap[b]? = some (.cells #[.string s] 9 (0, 0))) :
    Calls Try.prog 41 #[.agg #[.int .i64 x.pos, .string x.key, .bool x.had, .string x.old, .bool x.has, .string x.now], .pointer (some ⟨b, 0, none⟩)] w fun e w' => e = .returned (.bool (x.key.toList == s.toList)) ∧ Below w.heap.size w w' := by
  have hc : w.cell? ⟨b, 0, none⟩ = some (.string s) := blk_cell hb rfl
  have hlt := (Array.getElem?_eq_some_iff.1 hb).1
  clear hb
  go_enter Try.func41, Try.ntmps41
  go_wp2
  go_ret
  exact ⟨rfl, (Below.refl _ w).alloc (Nat.le_refl _) _⟩
set_option maxRecDepth 100000 in
set_option maxHeartbeats 4000000 in
theorem indexf_yes (A : Option Addr) (n c : Nat) (l : List Ev) (s : ByteArray) (b : Nat) (w : World) (h : RE w A n l) (hb : w.heap[b]? = some (.cells #[.string s] 9 (0, 0))) (hs : s ∈ l.map Ev.key) (hn : n ≤ 5000) :
    Calls Try.prog 69 #[.slice A n c, .func (.func 41) #[] #[.pointer (some ⟨b, 0, none⟩)]] w fun e w' => ∃ k : Nat, e = .returned (.int .i64 (k : Int)) ∧ Below w.heap.size w w' := by
  have HL := Kp.mk h.len
  have H := Kp.mk h
  have HBk := Kp.mk hb
  obtain ⟨z, hz, hzs⟩ := List.mem_map.1 hs
  obtain ⟨j, hj⟩ := List.getElem?_of_mem hz
  have HJ := Kp.mk hj
  have HZ := Kp.mk hzs
  have hjn : j < n := by have := (List.getElem?_eq_some_iff.1 hj).1; rw [h.len] at this; exact this
  clear h hb hs hz hj hzs
  go_enter Try.func69, Try.ntmps69
  go_wp2
  go_loopw [8] (fun i wr => ∃ k : Nat, k ≤ j ∧ i = .int .i64 k ∧ Kp (Below w.heap.size w wr)) (fun i _ => n - (intOf i).toNat)
  case atStart => exact ⟨0, by omega, rfl, ⟨Below.refl _ _⟩⟩
  case round =>
    obtain ⟨k, hk, rfl, HB⟩ := hrel
    have hkn : k < n := by omega
    have hd : decide ((k : Int) < (n : Int)) = true := by simp; omega
    obtain ⟨x, hx⟩ : ∃ x, l[k]? = some x := ⟨_, List.getElem?_eq_getElem (by rw [HL.it]; exact hkn)⟩
    obtain ⟨b1, o1, hA1, hl1, f0, f1, f2, f3, f4, f5⟩ := (H.it.below HB.it).get hx
    cases hA1
    have HB' : Kp (wr.heap[b]? = some (.cells #[.string s] 9 (0, 0))) := ⟨(HB.it.block b (Array.getElem?_eq_some_iff.1 HBk.it).1).trans HBk.it⟩
    have HKJ : Kp (k = j → (x.key.toList == s.toList) = true) := ⟨fun e => by
      have := HJ.it
      rw [← e, hx] at this
      cases this
      rw [HZ.it]
      simp⟩
    clear hx
    cases q1 : (x.key.toList == s.toList) with
    | true =>
      have HQ := Kp.mk q1
      clear q1
      go_wp2_with (go_at_call 41; refine (clo41 x s b _ HB'.it).mono ?_; rintro e w1 ⟨rfl, hb1⟩; rw [HQ.it]; have B1 := Kp.mk (HB.it.trans (hb1.mono HB.it.size)); clear hb1)
      go_ret
      exact ⟨k, rfl, B1.it⟩
    | false =>
      have hkj : k < j := by
        rcases Nat.lt_or_ge k j with h | h
        · exact h
        · have := HKJ.it (by omega)
          rw [q1] at this
          cases this
      have HQ := Kp.mk q1
      clear q1
      go_wp2_with (go_at_call 41; refine (clo41 x s b _ HB'.it).mono ?_; rintro e w1 ⟨rfl, hb1⟩; rw [HQ.it]; have B1 := Kp.mk (HB.it.trans (hb1.mono HB.it.size)); clear hb1)
      go_roundw
      case rel => exact ⟨k + 1, by omega, by go_num, B1⟩
      case measure => simp [intOf]; omega
set_option maxHeartbeats 1000000 in
theorem containsf_yes (A : Option Addr) (n c : Nat) (l : List Ev) (s : ByteArray) (b : Nat) (w : World) (h : RE w A n l) (hb : w.heap[b]? = some (.cells #[.string s] 9 (0, 0))) (hs : s ∈ l.map Ev.key) (hn : n ≤ 5000) :
    Calls Try.prog 40 #[.slice A n c, .func (.func 41) #[] #[.pointer (some ⟨b, 0, none⟩)]] w fun e w' => e = .returned (.bool true) ∧ Below w.heap.size w w' := by
  have HI := Kp.mk (indexf_yes A n c l s b w h hb hs hn)
  clear h hb hs hn
  go_enter Try.func40, Try.ntmps40
  go_wp2_with fail
  go_at_call 69
  refine HI.it.mono ?_
  rintro e w1 ⟨k, rfl, hb1⟩
  have B1 := Kp.mk hb1
  have hk0 : decide ((0 : Int) ≤ (k : Int)) = true := by simp
  clear hb1
  go_wp2
  go_ret
  exact ⟨rfl, B1.it⟩
theorem fnd_kid (ka kb : BitVec 64) (a i : Nat) (l : List Pr) (p : Pr) (h : dg ka kb a p = i) : fnd (kid ka kb a i l) p = fnd l p := by
  unfold fnd kid
  rw [List.find?_filter]
  congr 1
  funext x
  by_cases e : keyP x = keyP p
  · have : dg ka kb a x = i := by
      rw [← h]
      unfold dg
      have e1 : x.1.data.toList = p.1.data.toList := e
      rw [e1]
    simp [e, this]
  · simp [e]
theorem fnd_kid_no (ka kb : BitVec 64) (a i : Nat) (l : List Pr) (p : Pr) (h : dg ka kb a p ≠ i) : fnd (kid ka kb a i l) p = none := by
  refine fnd_none (fun y hy e => h ?_)
  have h1 : dg ka kb a y = i := by simpa using (List.mem_filter.1 hy).2
  rw [← h1]
  unfold dg
  have e1 : y.1.data.toList = p.1.data.toList := e
  rw [e1]
/-- What is told is unlike indeed. -/
theorem difK_sub (ka kb : BitVec 64) : ∀ (f : Nat) {a b : List Pr}, Rise a → Rise b → ∀ {s : ByteArray}, s ∈ difK ka kb f a b → s ∈ unl a b
  | 0, a, b, _, _, s, h => by
    unfold difK at h
    split at h
    · cases h
    · exact h
  | f + 1, a, b, ha, hb, s, h => by
    unfold difK at h
    split at h
    · cases h
    · obtain ⟨i, _, hi⟩ := List.mem_flatMap.1 h
      have h1 := difK_sub ka kb f (kid_rise ka kb (3 - f) i ha) (kid_rise ka kb (3 - f) i hb) hi
      rw [unl_mem _ _ (kid_rise ka kb (3 - f) i ha) (kid_rise ka kb (3 - f) i hb)] at h1
      rw [unl_mem a b ha hb]
      by_cases e : dg ka kb (3 - f) (kp s) = i
      · rw [fnd_kid ka kb _ i a _ e, fnd_kid ka kb _ i b _ e] at h1
        exact h1
      · rw [fnd_kid_no ka kb _ i a _ e, fnd_kid_no ka kb _ i b _ e] at h1
        exact absurd rfl h1
/-- One of the parts that have a key has one digest in both. -/
def hid (ka kb : BitVec 64) : Nat → ByteArray → List Pr → List Pr → Prop
  | 0, _, a, b => digU ka kb 0 a = digU ka kb 0 b
  | f + 1, s, a, b => digU ka kb (f + 1) a = digU ka kb (f + 1) b ∨ hid ka kb f s (kid ka kb (3 - f) (dg ka kb (3 - f) (kp s)) a) (kid ka kb (3 - f) (dg ka kb (3 - f) (kp s)) b)
theorem hid_of (ka kb : BitVec 64) : ∀ (f : Nat) {a b : List Pr}, Rise a → Rise b → ∀ {s : ByteArray}, s ∈ unl a b → s ∉ difK ka kb f a b → hid ka kb f s a b
  | 0, a, b, _, _, s, h, hn => by
    unfold difK at hn
    unfold hid
    split at hn
    · assumption
    · exact absurd h hn
  | f + 1, a, b, ha, hb, s, h, hn => by
    unfold difK at hn
    unfold hid
    split at hn
    · exact .inl (by assumption)
    · right
      refine hid_of ka kb f (kid_rise ka kb _ _ ha) (kid_rise ka kb _ _ hb) ?_ (fun hm => hn (List.mem_flatMap.2 ⟨_, List.mem_range.2 (dg_lt ka kb (3 - f) (kp s)), hm⟩))
      rw [unl_mem _ _ (kid_rise ka kb _ _ ha) (kid_rise ka kb _ _ hb), fnd_kid ka kb _ _ a _ rfl, fnd_kid ka kb _ _ b _ rfl]
      rw [unl_mem a b ha hb] at h
      exact h
end Go.Proofs.Ytcmkjoepndbicaa
