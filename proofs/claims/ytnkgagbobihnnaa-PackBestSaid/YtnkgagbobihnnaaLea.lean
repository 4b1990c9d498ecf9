/-
  The knot of least weight is taken out.
-/
import Derived.Test.YtnkgagbobihnnaaKnt
import Derived.IntWalk
namespace Go.Proofs.Ytnkgagbobihnnaa
open Go Go.RowKit
attribute [local go_sem ↓] Go.wp_at_zero Go.wp_at_succ

theorem minAt_first : ∀ (l : List Nat) (j : Nat), j < minAt l → l.getD (minAt l) 0 < l.getD j 0
  | [], j, h => by simp [minAt] at h
  | [_], j, h => by simp [minAt] at h
  | x :: y :: l, j, h => by
    have ih := minAt_first (y :: l)
    unfold minAt at h ⊢
    by_cases hc : (y :: l).getD (minAt (y :: l)) 0 < x
    · rw [if_pos hc] at h ⊢
      cases j with
      | zero => exact hc
      | succ j => exact ih j (by omega)
    · rw [if_neg hc] at h
      omega
theorem minAt_get {l : List Nat} {j : Nat} (h : j < l.length) : l.getD (minAt l) 0 ≤ l.getD j 0 := by
  refine minAt_le l _ ?_
  rw [List.getD_eq_getElem?_getD, List.getElem?_eq_getElem h]
  exact List.getElem_mem _
theorem minAt_is {l : List Nat} {p : Nat} (hp : p < l.length) (h1 : ∀ j, j < l.length → l.getD p 0 ≤ l.getD j 0) (h2 : ∀ j, j < p → l.getD p 0 < l.getD j 0) : minAt l = p := by
  have hne : l ≠ [] := by rintro rfl; simp at hp
  have hm := minAt_lt l hne
  rcases Nat.lt_trichotomy (minAt l) p with h | h | h
  · have := h2 _ h
    have := minAt_get hp
    omega
  · exact h
  · have := minAt_first l p h
    have := h1 _ hm
    omega
theorem getD_take {l : List Nat} {k j : Nat} (h : j < k) : (l.take k).getD j 0 = l.getD j 0 := by
  rw [List.getD_eq_getElem?_getD, List.getD_eq_getElem?_getD, List.getElem?_take, if_pos h]
theorem minAt_succ {l : List Nat} {k : Nat} (hk : k < l.length) : minAt (l.take (k + 1)) = if l.getD k 0 < l.getD (minAt (l.take k)) 0 then k else minAt (l.take k) := by
  have hlen : (l.take (k + 1)).length = k + 1 := by rw [List.length_take]; omega
  rcases Nat.eq_zero_or_pos k with h0 | h0
  · subst h0
    have : minAt (l.take 0) = 0 := by simp [minAt]
    rw [this, if_neg (by omega)]
    refine minAt_is (by omega) (fun j hj => ?_) (fun j hj => by omega)
    obtain rfl : j = 0 := by omega
    exact Nat.le_refl _
  · have hlen2 : (l.take k).length = k := by rw [List.length_take]; omega
    have hne : l.take k ≠ [] := by intro h9; rw [h9] at hlen2; simp at hlen2; omega
    have hm := minAt_lt _ hne
    rw [hlen2] at hm
    by_cases hc : l.getD k 0 < l.getD (minAt (l.take k)) 0
    · rw [if_pos hc]
      refine minAt_is (by omega) (fun j hj => ?_) (fun j hj => ?_)
      · rw [getD_take (by omega), getD_take (by omega)]
        rcases Nat.lt_or_ge j k with h | h
        · have := minAt_get (l := l.take k) (j := j) (by omega)
          rw [getD_take hm, getD_take h] at this
          omega
        · obtain rfl : j = k := by omega
          exact Nat.le_refl _
      · rw [getD_take (by omega), getD_take (by omega)]
        have := minAt_get (l := l.take k) (j := j) (by omega)
        rw [getD_take hm, getD_take hj] at this
        omega
    · rw [if_neg hc]
      refine minAt_is (by omega) (fun j hj => ?_) (fun j hj => ?_)
      · rw [getD_take (by omega), getD_take (by omega)]
        rcases Nat.lt_or_ge j k with h | h
        · have := minAt_get (l := l.take k) (j := j) (by omega)
          rw [getD_take hm, getD_take h] at this
          omega
        · obtain rfl : j = k := by omega
          omega
      · rw [getD_take (by omega), getD_take (by omega)]
        have := minAt_first (l.take k) j hj
        rw [getD_take hm, getD_take (by omega)] at this
        exact this
/-- The weights. -/
def wts (l : List Kt) : List Nat := l.map Kt.wt
theorem wts_len (l : List Kt) : (wts l).length = l.length := by simp [wts]
theorem wts_get {l : List Kt} {i : Nat} {x : Kt} (h : l[i]? = some x) : (wts l).getD i 0 = x.wt := by
  unfold wts
  rw [List.getD_eq_getElem?_getD, List.getElem?_map, h]
  rfl
def lm (l : List Kt) : Nat := minAt (wts l)
theorem lm_lt {l : List Kt} (h : 0 < l.length) : lm l < l.length := by
  have := minAt_lt (wts l) (by intro h9; have := wts_len l; rw [h9] at this; simp at this; omega)
  rwa [wts_len] at this
theorem lm_take_lt {l : List Kt} {k : Nat} (h : 0 < l.length) (hk : k ≤ l.length) : minAt ((wts l).take k) < l.length := by
  rcases Nat.eq_zero_or_pos k with h0 | h0
  · subst h0; simpa [minAt] using h
  · have hl : ((wts l).take k).length = k := by rw [List.length_take, wts_len]; omega
    have := minAt_lt ((wts l).take k) (by intro h9; rw [h9] at hl; simp at hl; omega)
    omega

theorem ne_block {g R n c : Nat} (h : g < R) : (Value.slice (some ⟨g, 0, none⟩) n c).ownBlock ≠ some R := by
  intro h8
  have h7 : g = R := by simpa [Value.ownBlock] using h8
  omega
theorem leastEnd {w : World} {R : Nat} {a b : Value} {t : TypeId} (h : w.heap[R]? = some (.cells #[a, b] t (0, 0))) (x y : Value) : ((w.setCell ⟨R, 0, none⟩ x).setCell ⟨R, 1, none⟩ y).heap[R]? = some (.cells #[x, y] t (0, 0)) := by
  rw [blk_set _ (blk_set _ h)]
  rfl
theorem grown_old {w wr : World} {r : Option Nat} (h : w.grownBy wr r) {b : Nat} (hb : w.heap.size ≤ b) {o : Nat} {v : Value} : w.grownBy (wr.setCell ⟨b, o, none⟩ v) r :=
  ⟨h.os, h.tape, h.output, by rw [size_set]; exact h.size, fun k hk hne => by
    rw [other_block _ _ _ (by show k ≠ b; omega)]
    exact h.block k hk hne⟩
set_option maxRecDepth 100000 in
set_option maxHeartbeats 4000000 in
theorem least_any {w : World} {g c base : Nat} {l : List Kt} {x : Kt} (h : OwnK w base (.slice (some ⟨g, 0, none⟩) l.length c) l) (hl0 : 0 < l.length) (hl : l.length ≤ 100000) (hx : l[lm l]? = some x) (hw : ∀ k, k ∈ l → k.wt ≤ 1099511627776) :
    Calls Try.prog 41 #[.slice (some ⟨g, 0, none⟩) l.length c] w fun e w' => e = .returned (.tuple #[.agg #[.int .i64 (x.wt : Int), .slice x.A x.ns.length x.c], .slice (some ⟨g, 0, none⟩) (l.length - 1) c]) ∧ OwnK w' base (.slice (some ⟨g, 0, none⟩) (l.length - 1) c) (l.eraseIdx (lm l)) ∧ w.grownBy w' (some g) := by
  have HO := Kp.mk h
  have HX := Kp.mk hx
  have HW := Kp.mk hw
  have hgl : g < w.heap.size := by
    obtain ⟨g', c', e, _, hlt, _⟩ := h.atl hl0
    cases e
    exact hlt
  have HGL := Kp.mk hgl
  obtain ⟨n, hn⟩ : ∃ n, n = l.length := ⟨_, rfl⟩
  have HN := Kp.mk hn
  rw [← hn] at hl0 hl ⊢
  have HD : Kp (∀ w1 : World, OwnK w1 base (.slice (some ⟨g, 0, none⟩) n c) l → Calls Try.prog 73 #[.slice (some ⟨g, 0, none⟩) n c, .int .i64 (lm l), .int .i64 ((lm l : Int) + 1)] w1 fun e w' => e = .returned (.slice (some ⟨g, 0, none⟩) (n - 1) c) ∧ OwnK w' base (.slice (some ⟨g, 0, none⟩) (n - 1) c) (l.eraseIdx (lm l)) ∧ w1.grownBy w' (some g)) := ⟨fun w1 h1 => by rw [hn] at h1 ⊢; exact del_k h1 (lm_lt (by omega)) (by omega)⟩
  have hlm := lm_lt (l := l) (by omega)
  rw [← hn] at hlm
  have HLM : Kp (lm l = minAt ((wts l).take n)) := ⟨by unfold lm; rw [List.take_of_length_le (by rw [wts_len, hn]; exact Nat.le_refl _)]⟩
  rw [← hn] at HO
  have HB0 : Kp (Below w.heap.size w (w.alloc (.cells #[.int .i64 0, .slice none 0 0] 46))) := ⟨(Below.refl _ _).alloc (Nat.le_refl _) _⟩
  have HR0 : Kp ((w.alloc (.cells #[.int .i64 0, .slice none 0 0] 46)).heap[w.heap.size]? = some (.cells #[.int .i64 0, .slice none 0 0] 46 (0, 0))) := ⟨blk_new _ _⟩
  clear h hx hw hn hgl
  obtain ⟨R, hR⟩ : ∃ R, R = w.heap.size := ⟨_, rfl⟩
  have HRW := Kp.mk hR
  rw [← hR] at HR0
  go_enter Try.func41, Try.ntmps41
  go_wp2
  rw [← hR]
  clear hR
  go_loopw [4, 10] (fun a i wr => ∃ k : Nat, k ≤ n ∧ i = .int .i64 k ∧ a = .int .i64 (minAt ((wts l).take k) : Nat) ∧ Kp (wr.heap[R]? = some (.cells #[.int .i64 0, .slice none 0 0] 46 (0, 0))) ∧ Kp (Below w.heap.size w wr)) (fun _ i _ => n - (intOf i).toNat)
  case atStart => exact ⟨0, by omega, rfl, by simp [minAt], HR0, HB0⟩
  case round =>
    obtain ⟨k, hk, rfl, rfl, HR, HB⟩ := hrel
    have hm : minAt ((wts l).take k) < n := by rw [HN.it]; exact lm_take_lt (by rw [← HN.it]; exact hl0) (by rw [← HN.it]; exact hk)
    have HO1 : Kp (OwnK wr base (.slice (some ⟨g, 0, none⟩) n c) l) := ⟨HO.it.below HB.it⟩
    have hg1 : g < wr.heap.size := Nat.lt_of_lt_of_le HGL.it HB.it.size
    by_cases hkn : k < n
    · have hd : decide ((k : Int) < (n : Int)) = true := by simp; omega
      obtain ⟨y, hy⟩ : ∃ y, l[k]? = some y := ⟨_, List.getElem?_eq_getElem (by rw [← HN.it]; exact hkn)⟩
      obtain ⟨z, hz⟩ : ∃ z, l[minAt ((wts l).take k)]? = some z := ⟨_, List.getElem?_eq_getElem (by rw [← HN.it]; exact hm)⟩
      obtain ⟨hy0, hy1⟩ := HO1.it.cells hy
      obtain ⟨hz0, hz1⟩ := HO1.it.cells hz
      have hyb := HW.it y (List.mem_of_getElem? hy)
      have hzb := HW.it z (List.mem_of_getElem? hz)
      have HS : Kp (minAt ((wts l).take (k + 1)) = if y.wt < z.wt then k else minAt ((wts l).take k)) := ⟨by
        rw [minAt_succ (by rw [wts_len, ← HN.it]; exact hkn), wts_get hy, wts_get hz]⟩
      have HB1 : Kp (Below w.heap.size w (wr.alloc (.cells #[.int .i64 (y.wt : Int), y.v] 46)).drew) := ⟨below_drew (HB.it.alloc HB.it.size _)⟩
      have HR1 : Kp ((wr.alloc (.cells #[.int .i64 (y.wt : Int), y.v] 46)).drew.heap[R]? = some (.cells #[.int .i64 0, .slice none 0 0] 46 (0, 0))) := ⟨blk_old _ HR.it⟩
      obtain ⟨M, hM⟩ : ∃ M, M = minAt ((wts l).take k) := ⟨_, rfl⟩
      rw [← hM] at hm hz0 hz1 HS ⊢
      obtain ⟨yw, hyw⟩ : ∃ yw, yw = y.wt := ⟨_, rfl⟩
      obtain ⟨zw, hzw⟩ : ∃ zw, zw = z.wt := ⟨_, rfl⟩
      have hy1' : wr.cell? ⟨g, k * 2 + 1, none⟩ = some (.slice y.A y.ns.length y.c) := hy1
      have HB1 : Kp (Below w.heap.size w (wr.alloc (.cells #[.int .i64 (y.wt : Int), .slice y.A y.ns.length y.c] 46)).drew) := HB1
      have HR1 : Kp ((wr.alloc (.cells #[.int .i64 (y.wt : Int), .slice y.A y.ns.length y.c] 46)).drew.heap[R]? = some (.cells #[.int .i64 0, .slice none 0 0] 46 (0, 0))) := HR1
      clear hy1
      generalize y.A = yA at hy1' HB1 HR1
      generalize y.ns.length = yn at hy1' HB1 HR1
      generalize y.c = yc at hy1' HB1 HR1
      rw [← hyw] at hy0 hyb HS HB1 HR1
      rw [← hzw] at hz0 hzb HS
      have hm2 : (M : Int) < (n : Int) := by omega
      clear hy hz hz1 hM hyw hzw
      by_cases hc : yw < zw
      · have hc2 : decide (yw < zw) = true := by simpa using hc
        rw [if_pos hc] at HS
        clear hc
        go_wp2
        go_region
        all_goals
          go_wp2
          go_roundw
          case rel => exact ⟨k + 1, by omega, by go_num, by rw [HS.it], HR1, HB1⟩
          case measure => simp [intOf]; omega
      · have hc2 : decide (yw < zw) = false := by simpa using hc
        rw [if_neg hc] at HS
        clear hc
        go_wp2
        go_region
        all_goals
          go_wp2
          go_roundw
          case rel => exact ⟨k + 1, by omega, by go_num, by rw [HS.it], HR1, HB1⟩
          case measure => simp [intOf]; omega
    · obtain rfl : n = k := by omega
      have hd : decide ((n : Int) < (n : Int)) = false := by simp
      rw [← HLM.it]
      obtain ⟨hx0, hx1⟩ := HO1.it.cells HX.it
      have hx1' : wr.cell? ⟨g, lm l * 2 + 1, none⟩ = some (.slice x.A x.ns.length x.c) := hx1
      have HRL : Kp (R < wr.heap.size) := ⟨by have := (Array.getElem?_eq_some_iff.1 HR.it).1; exact this⟩
      have HGR : Kp (g < R) := ⟨by rw [HRW.it]; exact HGL.it⟩
      obtain ⟨P, hP⟩ : ∃ P, P = wr.heap.size := ⟨_, rfl⟩
      have HB2 : Kp (Below w.heap.size w (wr.alloc (.cells #[.int .i64 (x.wt : Int), .slice x.A x.ns.length x.c] 46)).drew) := ⟨below_drew (HB.it.alloc HB.it.size _)⟩
      have HR2 : Kp ((wr.alloc (.cells #[.int .i64 (x.wt : Int), .slice x.A x.ns.length x.c] 46)).drew.heap[R]? = some (.cells #[.int .i64 0, .slice none 0 0] 46 (0, 0))) := ⟨blk_old _ HR.it⟩
      have HP2 : Kp ((wr.alloc (.cells #[.int .i64 (x.wt : Int), .slice x.A x.ns.length x.c] 46)).drew.heap[P]? = some (.cells #[.int .i64 (x.wt : Int), .slice x.A x.ns.length x.c] 46 (0, 0))) := ⟨by rw [hP]; exact blk_new _ _⟩
      clear hx1
      obtain ⟨L, hL⟩ : ∃ L, L = lm l := ⟨_, rfl⟩
      obtain ⟨xw, hxw⟩ : ∃ a, a = x.wt := ⟨_, rfl⟩
      obtain ⟨xA, hxA⟩ : ∃ a, a = x.A := ⟨_, rfl⟩
      obtain ⟨xn, hxn⟩ : ∃ a, a = x.ns.length := ⟨_, rfl⟩
      obtain ⟨xc, hxc⟩ : ∃ a, a = x.c := ⟨_, rfl⟩
      have HQ : Kp (L = lm l ∧ xw = x.wt ∧ xA = x.A ∧ xn = x.ns.length ∧ xc = x.c) := ⟨hL, hxw, hxA, hxn, hxc⟩
      rw [← hL] at hx0 hx1' hlm HD ⊢
      rw [← hxw] at hx0 HB2 HR2 HP2
      rw [← hxA, ← hxn, ← hxc] at hx1' HB2 HR2 HP2
      clear hL hxw hxA hxn hxc
      have HO2 : Kp (OwnK (wr.alloc (.cells #[.int .i64 (xw : Int), .slice xA xn xc] 46)).drew base (.slice (some ⟨g, 0, none⟩) n c) l) := ⟨HO1.it.below (below_drew ((Below.refl _ _).alloc (Nat.le_refl _) _))⟩
      have hPR : R < P := by rw [hP]; exact HRL.it
      have HZ2 : Kp (P + 1 = (wr.alloc (.cells #[.int .i64 (xw : Int), .slice xA xn xc] 46)).drew.heap.size) := ⟨by rw [hP]; simp⟩
      have hcp0 := blk_cell (o := 0) HP2.it rfl
      have hcp1 := blk_cell (o := 1) HP2.it rfl
      go_wp2
      rw [← hP]
      clear hP
      have HC := HD.it _ HO2.it
      have hwl : IntKind.i64.wrap ((L : Int) + 1) = (L : Int) + 1 := IntWalk.i64_in _ (by omega)
      go_region_with (go_at_call 73; refine HC.mono ?_; rintro e w3 ⟨rfl, ho3, hg3⟩; have O3 := Kp.mk ho3; have R3 : Kp (w3.heap[R]? = some (.cells #[.int .i64 0, .slice none 0 0] 46 (0, 0))) := ⟨(hg3.block R (by rw [← HZ2.it]; omega) (by have := HGR.it; simp; omega)).trans HR2.it⟩; have P3 : Kp (w3.heap[P]? = some (.cells #[.int .i64 (xw : Int), .slice xA xn xc] 46 (0, 0))) := ⟨(hg3.block P (by rw [← HZ2.it]; omega) (by have := HGR.it; simp; omega)).trans HP2.it⟩; have G3 : Kp (w.grownBy w3 (some g)) := ⟨(grows_below HB2.it (Nat.le_refl _) _).trans hg3⟩; have c0 := blk_cell (o := 0) R3.it rfl; have c1 := blk_cell (o := 1) R3.it rfl; have f0 : w3.frozen? ⟨R, 0, none⟩ = false := blk_free R3.it; have f1 : w3.frozen? ⟨R, 1, none⟩ = false := blk_free R3.it; have d0 := blk_cell (o := 0) P3.it rfl; have d1 := blk_cell (o := 1) P3.it rfl; clear ho3 hg3)
      all_goals
        go_wp2
        refine bodyPost_ret (v := .tuple #[.agg #[.int .i64 (xw : Int), .slice xA xn xc], .slice (some ⟨g, 0, none⟩) (n - 1) c]) ?_ rfl ?_
        · have e0 := blk_cell (o := 0) (leastEnd (R3.it) (.int .i64 (xw : Int)) (.slice xA xn xc)) rfl
          have e1 := blk_cell (o := 1) (leastEnd (R3.it) (.int .i64 (xw : Int)) (.slice xA xn xc)) rfl
          simp [results, Try.results41, go_sem, e0, e1]
        · obtain ⟨q1, q2, q3, q4, q5⟩ := HQ.it
          rw [← q1, ← q2, ← q3, ← q4, ← q5]
          exact ⟨rfl, O3.it.kept (r := some R) (grown_set (grown_set (World.grownBy.refl _ _) _ _) _ _) (.inl (ne_block HGR.it)), grown_old (grown_old G3.it (by rw [HRW.it]; exact Nat.le_refl _)) (by rw [HRW.it]; exact Nat.le_refl _)⟩
end Go.Proofs.Ytnkgagbobihnnaa
