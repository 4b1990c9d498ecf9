/-
  slices.Clone at []int.
-/
import Derived.Test.YtbfpdahbmdaenaaCat
namespace Go.Proofs.Ytbfpdahbmdaenaa
open Go.RowKit

theorem own_empty (W : World) : Own (W.alloc (.cells #[] 3)) W.heap.size (.slice (some ⟨W.heap.size, 0, none⟩) 0 0) [] := by
  have hh : (W.alloc (.cells #[] 3)).heap[W.heap.size]? = some (.cells #[] 3) := by
    show (W.heap.push _)[W.heap.size]? = _
    simp
  exact ⟨by simp, .inr ⟨_, 0, #[], rfl, Nat.le_refl _, hh, by simp, by unfold maxLen; omega, by simp, by simp⟩⟩

set_option maxHeartbeats 1000000 in
theorem clone_any (A : Option Addr) (n c : Nat) (xs : List Int) (w : World) (h : Rd w A n xs) (e : A = none → c = 0) : Calls Try.prog 30 #[.slice A n c] w fun e w' =>
    ∃ v, e = .returned v ∧ Own w' w.heap.size v xs ∧ Below w.heap.size w w' := by
  have q22 : ∀ (w : World) (a : Option Addr) (n c n' c' : Nat), (binOp .eql 22 (.slice a n c) (.slice none n' c')).run Try.prog w = .ok (.bool a.isNone) w := fun w a n c n' c' => Lib.run_eql_slice_nil w _ _ a n c n' c' Try.underlying22
  cases A with
  | none =>
    have hc := e rfl
    have hn : n = 0 := by
      rcases Nat.eq_zero_or_pos n with h0 | h0
      · exact h0
      · obtain ⟨b, o', e, _⟩ := h.cells h0
        cases e
    subst hc
    subst hn
    have hx : xs = [] := List.eq_nil_of_length_eq_zero h.len
    subst hx
    clear h e
    go_enter Try.func30, Try.ntmps30
    go_wp2
    go_ret
    exact ⟨_, rfl, Own.nil _ _, Below.refl _ _⟩
  | some ad =>
    have H := Kp.mk h
    have E := Kp.mk e
    have hbd := h.bd
    have HL : Kp (([] : List Int).length + xs.length ≤ 17592186044416) := ⟨by have := h.len; simp; omega⟩
    have HR := Kp.mk (h.below ((Below.refl w.heap.size w).alloc (Nat.le_refl _) (.cells #[] 3)))
    have HO := Kp.mk (own_empty w)
    clear h e
    go_enter Try.func30, Try.ntmps30
    go_wp2_with (refine app_rd rfl (.tmp 5) (.tmp 6) rfl w.heap.size _ [] (some ad) n c xs rfl rfl HO.it HR.it E.it (by simp) HL.it ?_; intro v1 w2 hn1 hg1 _; have N1 := Kp.mk hn1; have W1 := Kp.mk (below_own ((Below.refl w.heap.size w).alloc (Nat.le_refl _) (.cells #[] 3)) (by simp) HO.it (Nat.le_refl _) hg1); clear hn1 hg1)
    go_ret
    exact ⟨_, rfl, N1.it, W1.it⟩

end Go.Proofs.Ytbfpdahbmdaenaa
