/-
  slices.Grow of nil, slices.Concat of two lists, slices.Clone of a list of numbers.
-/
import Derived.Test.YtnkgagbobihnnaaBas
import Derived.Lib.AppendZerosOnto
import Derived.Laws.AppendOwnNone
import Derived.Lib.RowBridge
namespace Go.Proofs.Ytnkgagbobihnnaa
open Go Go.RowKit

set_option maxHeartbeats 1000000 in
theorem grow_any (n : Nat) (w : World) (hn : n * 8 ≤ 140737488355328) : Calls Try.prog 74 #[.slice none 0 0, .int .i64 n] w fun e w' =>
    ∃ v, e = .returned v ∧ Own w' w.heap.size v [] ∧ Below w.heap.size w w' := by
  rcases Nat.eq_zero_or_pos n with h0 | h0
  · have hn0 : n ≤ 0 := by omega
    have h1 : ¬ ((n : Int) > 0) := by omega
    clear h0
    go_enter Try.func74, Try.ntmps74
    go_wp2
    go_ret
    exact ⟨_, rfl, Own.nil _ _, Below.refl _ _⟩
  · obtain ⟨i0, hi, hz0, hz1, hz2⟩ := info_parts Try.info3'
    have hrz : ∀ ty, (Builtin.append_ #[22, 3] ty #[.slice none 0 0, .int .i64 (n : Int)]).run Try.prog w =
        .ok (.slice (some ⟨w.heap.size, 0, none⟩) n (grownCap w n 0 3)) (w.drew.alloc (.cells ((#[] : Array Value) ++ Builtin.zeroCells (Value.int .i64 0).cells n ++ Builtin.zeroCells (Value.int .i64 0).cells (grownCap w n 0 3 - n)) 3)) := fun ty => by
      have h := Lib.run_append_grow_zeros w 22 3 ty 3 i0 (.int .i64 0) .i64 .i64 Try.underlying22 Try.underlying3 hi hz0 none 0 0 [] (run_firstCells_none w.drew i0.size 0 0 0) n h0 (by omega) (by omega) (by omega) (by rw [hz2]; omega) (growslice_fits (by omega) (by rw [hz2]; omega))
      simpa using h
    have hGn := grownCap_ge w n 0 3
    have hGm := grownCap_le_maxLen w n 0 3 (by unfold maxLen; omega)
    obtain ⟨G, hG⟩ : ∃ G, G = grownCap w n 0 3 := ⟨_, rfl⟩
    rw [← hG] at hrz hGn hGm
    unfold maxLen at hGm
    have hRZ := Kp.mk hrz
    have h1 : (n : Int) > 0 := by omega
    clear hG hrz hi hz0 hz1 hz2
    go_enter Try.func74, Try.ntmps74
    go_wp2_with (at_builtin; refine Lib.wpList_append_run _ rfl _ _ _ _ rfl _ _ rfl rfl _ _ (hRZ.it _) ?_)
    go_ret
    refine ⟨_, rfl, ⟨by simp, .inr ⟨_, G, _, rfl, Nat.le_refl _, blk_new _ _, by simp, by unfold maxLen; omega, ?_, by simp⟩⟩, (below_drewN (Below.refl _ _) 1).alloc (Nat.le_refl _) _⟩
    simp [Builtin.zeroCells]
    omega

set_option maxHeartbeats 1000000 in
theorem concat_any (b c : Nat) (A1 A2 : Option Addr) (n1 c1 n2 c2 : Nat) (xs ys : List Int) (w : World) (hb : b < w.heap.size) (z1 : w.cell? ⟨b, 0, none⟩ = some (.slice A1 n1 c1)) (z2 : w.cell? ⟨b, 1, none⟩ = some (.slice A2 n2 c2))
    (h1 : Rd w A1 n1 xs) (h2 : Rd w A2 n2 ys) (e1 : A1 = none → c1 = 0) (e2 : A2 = none → c2 = 0) (hl : n1 + n2 ≤ 1000000000) : Calls Try.prog 42 #[.slice (some ⟨b, 0, none⟩) 2 c] w fun e w' =>
    ∃ v, e = .returned v ∧ Own w' w.heap.size v (xs ++ ys) ∧ Below w.heap.size w w' := by
  have hl1 := h1.len
  have hl2 := h2.len
  obtain ⟨L, hL0, hL1, hL2⟩ : ∃ L : Nat → List Int, L 0 = [] ∧ L 1 = xs ∧ L 2 = xs ++ ys := ⟨fun i => match i with | 0 => [] | 1 => xs | _ => xs ++ ys, rfl, rfl, rfl⟩
  have KEY : Kp (∀ i, i < 2 → ∃ A n c us, Kp (w.cell? ⟨b, i, none⟩ = some (.slice A n c)) ∧ Kp (Rd w A n us) ∧ Kp (A = none → c = 0) ∧ Kp (L (i + 1) = L i ++ us) ∧ Kp (us.length = n) ∧ n ≤ 1000000000) := ⟨by
    intro i hi
    match i, hi with
    | 0, _ => exact ⟨A1, n1, c1, xs, ⟨z1⟩, ⟨h1⟩, ⟨e1⟩, ⟨by rw [hL1, hL0]; rfl⟩, ⟨hl1⟩, by omega⟩
    | 1, _ => exact ⟨A2, n2, c2, ys, ⟨z2⟩, ⟨h2⟩, ⟨e2⟩, ⟨by rw [hL2, hL1]⟩, ⟨hl2⟩, by omega⟩⟩
  have HM : Kp (∀ i, i ≤ 2 → (L i).length ≤ 1000000000) := ⟨by
    intro i hi
    rcases (by omega : i = 0 ∨ i = 1 ∨ i = 2) with rfl | rfl | rfl
    · rw [hL0]; simp
    · rw [hL1, hl1]; omega
    · rw [hL2, List.length_append, hl1, hl2]; omega⟩
  have HL0 := Kp.mk hL0
  have HL2 := Kp.mk hL2
  clear hL0 hL1 hL2 h1 h2 e1 e2 z1 z2 hl hl1 hl2
  go_enter Try.func42, Try.ntmps42
  go_wp2
  go_loop [3, 11] (fun s i => ∃ k : Nat, k ≤ 2 ∧ i = .int .i64 k ∧ s = .int .i64 ((L k).length : Nat)) (fun _ i => 2 - (intOf i).toNat)
  case atStart => exact ⟨0, by omega, rfl, by rw [HL0.it]; rfl⟩
  case round =>
    obtain ⟨k, hk, rfl, rfl⟩ := hrel
    have hm := HM.it k hk
    by_cases hk2 : k < 2
    · have hd : decide ((k : Int) < 2) = true := by simp; omega
      obtain ⟨A, n, c, us, hcell, hR, hE, hLL, hLen, hnb⟩ := KEY.it k hk2
      have hcell := hcell.it
      have HLL : Kp ((L (k + 1)).length = (L k).length + n) := ⟨by rw [hLL.it, List.length_append, hLen.it]⟩
      go_wp2
      go_round
      case rel => exact ⟨k + 1, by omega, by go_num, by rw [HLL.it]; go_num⟩
      case measure => simp [intOf]; omega
    · obtain rfl : k = 2 := by omega
      go_wp2_with fail
      refine (grow_any _ w (by omega)).mono ?_
      rintro e w1 ⟨v, rfl, ho, hb1⟩
      have HO := Kp.mk ho
      have HB := Kp.mk hb1
      clear ho hb1
      go_wp2
      go_loopw [6, 27] (fun u i wr => ∃ k : Nat, k ≤ 2 ∧ i = .int .i64 k ∧ Own wr w.heap.size u (L k) ∧ Kp (Below w.heap.size w wr)) (fun _ i _ => 2 - (intOf i).toNat)
      case atStart => exact ⟨0, by omega, rfl, by rw [HL0.it]; exact HO.it, HB⟩
      case round =>
        obtain ⟨j, hj, rfl, ho, hW⟩ := hrel
        have HJ := Kp.mk ho
        clear ho
        by_cases hj2 : j < 2
        · have hd : decide ((j : Int) < 2) = true := by simp; omega
          obtain ⟨A, n, c, us, hcell, hR, hE, hLL, hLen, hnb⟩ := KEY.it j hj2
          have hcell := (hW.it.cell (p := ⟨b, j, none⟩) hb).trans hcell.it
          have hR' := Kp.mk (hR.it.below hW.it)
          have HB1 := Kp.mk (show (L j).length + us.length ≤ 17592186044416 by have := HM.it j hj; rw [hLen.it]; omega)
          go_wp2_with (refine app_rd rfl (.tmp 31) (.tmp 32) rfl w.heap.size _ (L j) A n c us rfl rfl HJ.it hR'.it hE.it hW.it.size HB1.it ?_; intro v1 w2 hn1 hg1 _; have N1 := Kp.mk hn1; have W1 := Kp.mk (below_own hW.it hW.it.size HJ.it (Nat.le_refl _) hg1); clear hn1 hg1)
          go_roundw
          case rel => exact ⟨j + 1, by omega, by go_num, by rw [hLL.it]; exact N1.it, W1⟩
          case measure => simp [intOf]; omega
        · obtain rfl : j = 2 := by omega
          go_wp2
          go_ret
          exact ⟨_, rfl, by rw [← HL2.it]; exact HJ.it, hW.it⟩


set_option maxHeartbeats 1000000 in
theorem clone_any (A : Option Addr) (n c : Nat) (xs : List Int) (w : World) (h : Rd w A n xs) (e : A = none → c = 0) : Calls Try.prog 32 #[.slice A n c] w fun e w' =>
    ∃ v, e = .returned v ∧ Own w' w.heap.size v xs ∧ Below w.heap.size w w' := by
  have q22 : ∀ (w : World) (a : Option Addr) (n c n' c' : Nat), (binOp .eql 22 (.slice a n c) (.slice none n' c')).run Try.prog w = .ok (.bool a.isNone) w := fun w a n c n' c' => Lib.run_eql_slice_nil w _ _ a n c n' c' Try.underlying22
  cases A with
  | none =>
    have hc := e rfl
    have hn : n = 0 := by
      rcases Nat.eq_zero_or_pos n with h0 | h0
      · exact h0
      · obtain ⟨b, o', e, _⟩ := h.cells h0
        cases e
    subst hc
    subst hn
    have hx : xs = [] := List.eq_nil_of_length_eq_zero h.len
    subst hx
    clear h e
    go_enter Try.func32, Try.ntmps32
    go_wp2
    go_ret
    exact ⟨_, rfl, Own.nil _ _, Below.refl _ _⟩
  | some ad =>
    have H := Kp.mk h
    have E := Kp.mk e
    have hbd := h.bd
    have HL : Kp (([] : List Int).length + xs.length ≤ 17592186044416) := ⟨by have := h.len; simp; omega⟩
    have HR := Kp.mk (h.below ((Below.refl w.heap.size w).alloc (Nat.le_refl _) (.cells #[] 3)))
    have HO := Kp.mk (own_empty w)
    clear h e
    go_enter Try.func32, Try.ntmps32
    go_wp2_with (refine app_rd rfl (.tmp 5) (.tmp 6) rfl w.heap.size _ [] (some ad) n c xs rfl rfl HO.it HR.it E.it (by simp) HL.it ?_; intro v1 w2 hn1 hg1 _; have N1 := Kp.mk hn1; have W1 := Kp.mk (below_own ((Below.refl w.heap.size w).alloc (Nat.le_refl _) (.cells #[] 3)) (by simp) HO.it (Nat.le_refl _) hg1); clear hn1 hg1)
    go_ret
    exact ⟨_, rfl, N1.it, W1.it⟩

end Go.Proofs.Ytnkgagbobihnnaa
