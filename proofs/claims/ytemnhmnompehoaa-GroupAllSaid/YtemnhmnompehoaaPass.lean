/-
  Pass.
-/
import Derived.Test.YtemnhmnompehoaaEGap
namespace Go.Proofs.Ytemnhmnompehoaa
open Go Go.RowKit

/-- An event is of the part. -/
def isOf (p q : Int) (k : Ev) : Bool := decide (0 < p) && (partOf p k.key == q)
def passE (p q : Int) (ks : List Ev) : List Ev := ks.filter (isOf p q)
theorem heap_new (w : World) (o : Obj) : (w.alloc o).heap[w.heap.size]? = some o := by
  have e : (w.alloc o).heap = w.heap.push o := by
    first | rfl | simp [World.alloc_eq]
  rw [e, Array.getElem?_push, if_pos rfl]
theorem re_one (w : World) (x : Ev) (hs : x.key.size ≤ maxLen ∧ x.old.size ≤ maxLen ∧ x.now.size ≤ maxLen) :
    RE (w.alloc (.cells #[.int .i64 x.pos, .string x.key, .bool x.had, .string x.old, .bool x.has, .string x.now] 58)) (some ⟨w.heap.size, 0, none⟩) 1 [x] :=
  ⟨rfl, by decide, (fun k hk => by rw [List.mem_singleton.1 hk]; exact hs), fun _ => ⟨w.heap.size, 0, rfl, by rw [World.size_alloc]; omega, fun i k hk j u hu => by
    have hi : i = 0 := by have := (List.getElem?_eq_some_iff.1 hk).1; simp at this; exact this
    subst hi
    cases hk
    rw [Nat.zero_mul, Nat.zero_add, Nat.zero_add]
    refine blk_cell (heap_new w _) ?_
    rw [← hu]
    unfold Ev.cells
    simp⟩⟩
theorem passE_succ (p q : Int) (ks : List Ev) {i : Nat} {k : Ev} (hk : ks[i]? = some k) : passE p q (ks.take (i + 1)) = if isOf p q k then passE p q (ks.take i) ++ [k] else passE p q (ks.take i) := by
  obtain ⟨hi, rfl⟩ := List.getElem?_eq_some_iff.1 hk
  unfold passE
  rw [List.take_succ_eq_append_getElem hi, List.filter_append]
  cases h : isOf p q ks[i] <;> simp [h]
set_option maxHeartbeats 4000000 in
theorem pass_any (p q : Int) (hp : p ≤ 9223372036854775807) (A : Option Addr) (n c : Nat) (ks : List Ev) (w : World) (h : RE w A n ks) (hn : n ≤ 4096) (hz : ∀ k ∈ ks, k.key.size ≤ 140737488351232) :
    Calls Try.prog 39 #[.int .i64 p, .int .i64 q, .slice A n c] w fun e w' => ∃ v, e = .returned v ∧ OwnE w' w.heap.size v (passE p q ks) ∧ Below w.heap.size w w' := by
  have H := Kp.mk h
  have HZ := Kp.mk hz
  clear h hz
  go_enter Try.func39, Try.ntmps39
  go_wp2
  go_loopw [7, 12] (fun a i wr => ∃ (k : Nat) (A2 : Option Addr) (n2 c2 : Nat), k ≤ n ∧ i = .int .i64 k ∧ a = .slice A2 n2 c2 ∧ Kp (OwnE wr w.heap.size (.slice A2 n2 c2) (passE p q (ks.take k))) ∧ Kp (Below w.heap.size w wr)) (fun _ i _ => n - (intOf i).toNat)
  case atStart => exact ⟨0, none, 0, 0, by omega, rfl, rfl, ⟨⟨by rw [flatE_len], .inl ⟨rfl, rfl⟩⟩⟩, ⟨Below.refl _ _⟩⟩
  case round =>
    obtain ⟨k, A2, n2, c2, hk, rfl, rfl, HO, HB⟩ := hrel
    by_cases hkn : k < n
    · obtain ⟨x, hx⟩ : ∃ x, ks[k]? = some x := ⟨_, List.getElem?_eq_getElem (by rw [H.it.len]; exact hkn)⟩
      obtain ⟨b1, o1, hA, _, f0, f1, f2, f3, f4, f5⟩ := (H.it.below HB.it).get hx
      cases hA
      have HX := Kp.mk hx
      clear hx
      have hd : decide ((k : Int) < (n : Int)) = true := by simp; omega
      go_upto_region 5 with fail
      refine wp_on (fun wx => wx.heap[wr.heap.size]? = some (.cells #[.int .i64 x.pos, .string x.key, .bool x.had, .string x.old, .bool x.has, .string x.now] 58 (0, 0)) ∧ Below wr.heap.size wr wx) ⟨?_, ?_⟩ (fun w1 h1 => ?_)
      · rw [heap_new]
      · exact (Below.refl wr.heap.size wr).alloc (Nat.le_refl _) _
      obtain ⟨h1, hb1⟩ := h1
      have HE := Kp.mk h1
      have B1 := Kp.mk hb1
      clear h1 hb1 f0 f1 f2 f3 f4 f5
      have f1 : w1.cell? ⟨wr.heap.size, 1, none⟩ = some (.string x.key) := blk_cell HE.it rfl
      have hks : x.key.size ≤ 140737488351232 := HZ.it x (List.mem_of_getElem? HX.it)
      by_cases hp0 : 0 < p
      · have hdp : decide (0 < p) = true := by simp; omega
        have HP := Kp.mk hp0
        go_wp2_with fail
        go_at_call 36
        refine (part_any p hp x.key w1 hks).mono ?_
        rintro e w2 ⟨rfl, hb2⟩
        have B2 := Kp.mk (B1.it.trans (hb2.mono B1.it.size))
        have HE2 : Kp (w2.heap[wr.heap.size]? = some (.cells #[.int .i64 x.pos, .string x.key, .bool x.had, .string x.old, .bool x.has, .string x.now] 58 (0, 0))) := ⟨by rw [hb2.block _ (Array.getElem?_eq_some_iff.1 HE.it).1]; exact HE.it⟩
        clear hb2
        cases hq : (partOf p x.key == q) with
        | true =>
          have HS : Kp (passE p q (ks.take (k + 1)) = passE p q (ks.take k) ++ [x]) := ⟨by rw [passE_succ p q ks HX.it, if_pos (by unfold isOf; simp [hdp, hq])]⟩
          obtain ⟨g0, g1, g2, g3, g4, g5⟩ : w2.cell? ⟨wr.heap.size, 0, none⟩ = some (.int .i64 x.pos) ∧ w2.cell? ⟨wr.heap.size, 1, none⟩ = some (.string x.key) ∧ w2.cell? ⟨wr.heap.size, 2, none⟩ = some (.bool x.had) ∧ w2.cell? ⟨wr.heap.size, 3, none⟩ = some (.string x.old) ∧ w2.cell? ⟨wr.heap.size, 4, none⟩ = some (.bool x.has) ∧ w2.cell? ⟨wr.heap.size, 5, none⟩ = some (.string x.now) := ⟨blk_cell HE2.it rfl, blk_cell HE2.it rfl, blk_cell HE2.it rfl, blk_cell HE2.it rfl, blk_cell HE2.it rfl, blk_cell HE2.it rfl⟩
          have HS2 : Kp (x.key.size ≤ maxLen ∧ x.old.size ≤ maxLen ∧ x.now.size ≤ maxLen) := ⟨H.it.str x (List.mem_of_getElem? HX.it)⟩
          have O2 := Kp.mk (HO.it.below B2.it)
          have B3 : Kp (Below w.heap.size w w2) := ⟨HB.it.trans (B2.it.mono HB.it.size)⟩
          have L2 : Kp ((passE p q (ks.take k)).length ≤ k) := ⟨by unfold passE; have := List.length_filter_le (isOf p q) (ks.take k); rw [List.length_take] at this; omega⟩
          have B4 : Kp (Below w.heap.size w (w2.alloc (.cells #[.int .i64 x.pos, .string x.key, .bool x.had, .string x.old, .bool x.has, .string x.now] 58))) := ⟨B3.it.alloc B3.it.size _⟩
          go_wp2_with (at_builtin; refine app_e rfl (.tmp 26) (.tmp 28) rfl w.heap.size (.slice A2 n2 c2) (passE p q (ks.take k)) w2.heap.size 0 1 1 [x] rfl rfl (O2.it.alloc _) (re_one w2 x HS2.it) B4.it.size (by have := L2.it; simp; omega) ?_; intro v1 w3 ho1 hg1 _; have O3 := Kp.mk ho1; have B5 : Kp (Below w.heap.size w w3) := ⟨below_ownE B4.it B4.it.size (O2.it.alloc _) (Nat.le_refl _) hg1⟩; clear ho1 hg1)
          rw [← HS.it] at O3
          obtain ⟨A3, c3, rfl, _, _⟩ := O3.it.form (by unfold passE; have := List.length_filter_le (isOf p q) (ks.take (k + 1)); rw [List.length_take] at this; omega) (fun y hy => H.it.str y (List.mem_of_mem_take (List.mem_filter.1 hy).1))
          go_roundw
          case rel => exact ⟨k + 1, A3, _, c3, by omega, by go_num, rfl, O3, B5⟩
          case measure => simp [intOf]; omega
        | false =>
          have HS : Kp (passE p q (ks.take (k + 1)) = passE p q (ks.take k)) := ⟨by rw [passE_succ p q ks HX.it, if_neg (by unfold isOf; simp [hq])]⟩
          go_wp2
          go_roundw
          case rel => exact ⟨k + 1, A2, n2, c2, by omega, by go_num, rfl, ⟨by rw [HS.it]; exact HO.it.below B2.it⟩, ⟨HB.it.trans (B2.it.mono HB.it.size)⟩⟩
          case measure => simp [intOf]; omega
      · have hdp : decide (0 < p) = false := by simp; omega
        have HS : Kp (passE p q (ks.take (k + 1)) = passE p q (ks.take k)) := ⟨by rw [passE_succ p q ks HX.it, if_neg (by unfold isOf; simp [hdp])]⟩
        go_wp2
        go_roundw
        case rel => exact ⟨k + 1, A2, n2, c2, by omega, by go_num, rfl, ⟨by rw [HS.it]; exact HO.it.below B1.it⟩, ⟨HB.it.trans (B1.it.mono HB.it.size)⟩⟩
        case measure => simp [intOf]; omega
    · obtain rfl : k = n := by omega
      have HO' : Kp (OwnE wr w.heap.size (.slice A2 n2 c2) (passE p q ks)) := ⟨by have := HO.it; rwa [List.take_of_length_le (by rw [H.it.len]; omega)] at this⟩
      go_wp2
      go_ret
      exact ⟨_, rfl, HO'.it, HB.it⟩
set_option maxHeartbeats 4000000 in
theorem rpass_any (p q : Int) (hp : p ≤ 9223372036854775807) (A : Option Addr) (n c : Nat) (ks : List Ev) (w : World) (h : RE w A n ks) (hn : n ≤ 4096) (hz : ∀ k ∈ ks, k.key.size ≤ 140737488351232) :
    Calls Try.prog 40 #[.int .i64 p, .int .i64 q, .slice A n c] w fun e w' => ∃ v, e = .returned v ∧ OwnE w' w.heap.size v (passE p q ks) ∧ Below w.heap.size w w' := by
  have H := Kp.mk h
  have HZ := Kp.mk hz
  clear h hz
  go_enter Try.func40, Try.ntmps40
  go_wp2
  go_loopw [7, 12] (fun a i wr => ∃ (k : Nat) (A2 : Option Addr) (n2 c2 : Nat), k ≤ n ∧ i = .int .i64 k ∧ a = .slice A2 n2 c2 ∧ Kp (OwnE wr w.heap.size (.slice A2 n2 c2) (passE p q (ks.take k))) ∧ Kp (Below w.heap.size w wr)) (fun _ i _ => n - (intOf i).toNat)
  case atStart => exact ⟨0, none, 0, 0, by omega, rfl, rfl, ⟨⟨by rw [flatE_len], .inl ⟨rfl, rfl⟩⟩⟩, ⟨Below.refl _ _⟩⟩
  case round =>
    obtain ⟨k, A2, n2, c2, hk, rfl, rfl, HO, HB⟩ := hrel
    by_cases hkn : k < n
    · obtain ⟨x, hx⟩ : ∃ x, ks[k]? = some x := ⟨_, List.getElem?_eq_getElem (by rw [H.it.len]; exact hkn)⟩
      obtain ⟨b1, o1, hA, _, f0, f1, f2, f3, f4, f5⟩ := (H.it.below HB.it).get hx
      cases hA
      have HX := Kp.mk hx
      clear hx
      have hd : decide ((k : Int) < (n : Int)) = true := by simp; omega
      go_upto_region 5 with fail
      refine wp_on (fun wx => wx.heap[wr.heap.size]? = some (.cells #[.int .i64 x.pos, .string x.key, .bool x.had, .string x.old, .bool x.has, .string x.now] 58 (0, 0)) ∧ Below wr.heap.size wr wx) ⟨?_, ?_⟩ (fun w1 h1 => ?_)
      · rw [heap_new]
      · exact (Below.refl wr.heap.size wr).alloc (Nat.le_refl _) _
      obtain ⟨h1, hb1⟩ := h1
      have HE := Kp.mk h1
      have B1 := Kp.mk hb1
      clear h1 hb1 f0 f1 f2 f3 f4 f5
      have f1 : w1.cell? ⟨wr.heap.size, 1, none⟩ = some (.string x.key) := blk_cell HE.it rfl
      have hks : x.key.size ≤ 140737488351232 := HZ.it x (List.mem_of_getElem? HX.it)
      by_cases hp0 : 0 < p
      · have hdp : decide (0 < p) = true := by simp; omega
        have hdq : decide ((1 : Int) ≤ p) = true := by simp; omega
        have HP := Kp.mk hp0
        go_wp2_with fail
        go_at_call 37
        refine (rpart_any p hp x.key w1 hks).mono ?_
        rintro e w2 ⟨rfl, hb2⟩
        have B2 := Kp.mk (B1.it.trans (hb2.mono B1.it.size))
        have HE2 : Kp (w2.heap[wr.heap.size]? = some (.cells #[.int .i64 x.pos, .string x.key, .bool x.had, .string x.old, .bool x.has, .string x.now] 58 (0, 0))) := ⟨by rw [hb2.block _ (Array.getElem?_eq_some_iff.1 HE.it).1]; exact HE.it⟩
        clear hb2
        cases hq : (partOf p x.key == q) with
        | true =>
          have HS : Kp (passE p q (ks.take (k + 1)) = passE p q (ks.take k) ++ [x]) := ⟨by rw [passE_succ p q ks HX.it, if_pos (by unfold isOf; simp [hdp, hq])]⟩
          obtain ⟨g0, g1, g2, g3, g4, g5⟩ : w2.cell? ⟨wr.heap.size, 0, none⟩ = some (.int .i64 x.pos) ∧ w2.cell? ⟨wr.heap.size, 1, none⟩ = some (.string x.key) ∧ w2.cell? ⟨wr.heap.size, 2, none⟩ = some (.bool x.had) ∧ w2.cell? ⟨wr.heap.size, 3, none⟩ = some (.string x.old) ∧ w2.cell? ⟨wr.heap.size, 4, none⟩ = some (.bool x.has) ∧ w2.cell? ⟨wr.heap.size, 5, none⟩ = some (.string x.now) := ⟨blk_cell HE2.it rfl, blk_cell HE2.it rfl, blk_cell HE2.it rfl, blk_cell HE2.it rfl, blk_cell HE2.it rfl, blk_cell HE2.it rfl⟩
          have HS2 : Kp (x.key.size ≤ maxLen ∧ x.old.size ≤ maxLen ∧ x.now.size ≤ maxLen) := ⟨H.it.str x (List.mem_of_getElem? HX.it)⟩
          have O2 := Kp.mk (HO.it.below B2.it)
          have B3 : Kp (Below w.heap.size w w2) := ⟨HB.it.trans (B2.it.mono HB.it.size)⟩
          have L2 : Kp ((passE p q (ks.take k)).length ≤ k) := ⟨by unfold passE; have := List.length_filter_le (isOf p q) (ks.take k); rw [List.length_take] at this; omega⟩
          have B4 : Kp (Below w.heap.size w (w2.alloc (.cells #[.int .i64 x.pos, .string x.key, .bool x.had, .string x.old, .bool x.has, .string x.now] 58))) := ⟨B3.it.alloc B3.it.size _⟩
          go_wp2_with (at_builtin; refine app_e rfl (.tmp 26) (.tmp 28) rfl w.heap.size (.slice A2 n2 c2) (passE p q (ks.take k)) w2.heap.size 0 1 1 [x] rfl rfl (O2.it.alloc _) (re_one w2 x HS2.it) B4.it.size (by have := L2.it; simp; omega) ?_; intro v1 w3 ho1 hg1 _; have O3 := Kp.mk ho1; have B5 : Kp (Below w.heap.size w w3) := ⟨below_ownE B4.it B4.it.size (O2.it.alloc _) (Nat.le_refl _) hg1⟩; clear ho1 hg1)
          rw [← HS.it] at O3
          obtain ⟨A3, c3, rfl, _, _⟩ := O3.it.form (by unfold passE; have := List.length_filter_le (isOf p q) (ks.take (k + 1)); rw [List.length_take] at this; omega) (fun y hy => H.it.str y (List.mem_of_mem_take (List.mem_filter.1 hy).1))
          go_roundw
          case rel => exact ⟨k + 1, A3, _, c3, by omega, by go_num, rfl, O3, B5⟩
          case measure => simp [intOf]; omega
        | false =>
          have HS : Kp (passE p q (ks.take (k + 1)) = passE p q (ks.take k)) := ⟨by rw [passE_succ p q ks HX.it, if_neg (by unfold isOf; simp [hq])]⟩
          go_wp2
          go_roundw
          case rel => exact ⟨k + 1, A2, n2, c2, by omega, by go_num, rfl, ⟨by rw [HS.it]; exact HO.it.below B2.it⟩, ⟨HB.it.trans (B2.it.mono HB.it.size)⟩⟩
          case measure => simp [intOf]; omega
      · have hdp : decide (0 < p) = false := by simp; omega
        have hdq : decide ((1 : Int) ≤ p) = false := by rw [decide_eq_false_iff_not]; omega
        have HS : Kp (passE p q (ks.take (k + 1)) = passE p q (ks.take k)) := ⟨by rw [passE_succ p q ks HX.it, if_neg (by unfold isOf; simp [hdp])]⟩
        go_wp2
        go_roundw
        case rel => exact ⟨k + 1, A2, n2, c2, by omega, by go_num, rfl, ⟨by rw [HS.it]; exact HO.it.below B1.it⟩, ⟨HB.it.trans (B1.it.mono HB.it.size)⟩⟩
        case measure => simp [intOf]; omega
    · obtain rfl : k = n := by omega
      have HO' : Kp (OwnE wr w.heap.size (.slice A2 n2 c2) (passE p q ks)) := ⟨by have := HO.it; rwa [List.take_of_length_le (by rw [H.it.len]; omega)] at this⟩
      go_wp2
      go_ret
      exact ⟨_, rfl, HO'.it, HB.it⟩
end Go.Proofs.Ytemnhmnompehoaa
