/-
  append of a slice to an owned row; slices.Grow of nil, slices.Concat of two lists, slices.Clone.
-/
import Derived.Test.YtbfpdahbmdaenaaApp
import Derived.Lib.AppendZerosOnto
import Derived.Laws.AppendOwnNone
namespace Go.Proofs.Ytbfpdahbmdaenaa
open Go.RowKit

theorem app_rd {ops : Array Oper} {rest : List Oper} {o : Oper} {a : Act} {Q : Exit → Act → World → Prop} {W : World} (hgd : o.guard = none) (s x : Operand)
    (ho : o.op = .call { callee := .builtin .append, args := #[s, x], argTypes := #[22, 22] })
    (base : Nat) (v : Value) (xs : List Int) (A : Option Addr) (n c : Nat) (ys : List Int) (hs : a.eval s = v) (hx : a.eval x = .slice A n c)
    (HO : Own W base v xs) (HR : Rd W A n ys) (hnil : A = none → c = 0) (hbase : base ≤ W.heap.size) (hl : xs.length + ys.length ≤ 17592186044416)
    (h : ∀ v1 w1, Own w1 base v1 (xs ++ ys) → W.grownBy w1 v.ownBlock → (v1.ownBlock = v.ownBlock ∨ ∃ b, v1.ownBlock = some b ∧ W.heap.size ≤ b) → wpList Try.prog ops Q rest (a.put o.dst v1) w1) :
    wpList Try.prog ops Q (o :: rest) a W := by
  obtain ⟨i0, hi, hz0, hz1, hz2⟩ := info_parts Try.info3'
  have hyl := HR.len
  cases A with
  | none =>
    obtain rfl := hnil rfl
    have hn : n = 0 := by
      rcases Nat.eq_zero_or_pos n with h0 | h0
      · exact h0
      · obtain ⟨b, o', e, _⟩ := HR.cells h0
        cases e
    subst hn
    have hy : ys = [] := List.eq_nil_of_length_eq_zero hyl
    subst hy
    refine wpList_append_own_none hgd s x 22 ho base 3 i0 1 Try.underlying22 hi v xs.length _ hs HO hx ?_
    have := h v W (by simpa using HO) (World.grownBy.refl _ _) (.inl rfl)
    exact this
  | some ad =>
    refine wpList_append_own_at W hgd s x 22 ho base 3 i0 (.int .i64 0) 1 8 Try.underlying22 hi hz0 hz1 hz2 rfl (by omega) v xs.length _ hs HO ad n c (ys.map (Value.int .i64)) hx (by simp [hyl]) ?_ (by intro u hu; simp at hu; obtain ⟨y, _, rfl⟩ := hu; rfl) (by unfold maxLen; omega) (by omega) hbase ?_
    · intro j u hj
      have hjl : j < ys.length := by
        have := (List.getElem?_eq_some_iff.1 hj).1
        simpa using this
      obtain ⟨b, o', e, hlt, hc⟩ := HR.get (k := j) (by omega)
      cases e
      have e2 : (⟨b, o', none⟩ : Addr).add j = ⟨b, o' + j, none⟩ := by unfold Addr.add; split <;> simp_all
      rw [e2, hc, rd_lt hjl]
      rw [List.getElem?_map, List.getElem?_eq_getElem hjl] at hj
      simpa using hj
    · intro v1 w1 hown hg _ hat
      refine h v1 w1 ?_ hg ?_
      · unfold Own
        rw [List.length_append, List.map_append, hyl]
        exact hown
      · rcases hat with hat | hat
        · exact .inl hat
        · exact .inr ⟨_, hat, Nat.le_refl _⟩

set_option maxHeartbeats 1000000 in
theorem grow_any (n : Nat) (w : World) (hn : n * 8 ≤ 140737488355328) : Calls Try.prog 48 #[.slice none 0 0, .int .i64 n] w fun e w' =>
    ∃ v, e = .returned v ∧ Own w' w.heap.size v [] ∧ Below w.heap.size w w' := by
  rcases Nat.eq_zero_or_pos n with h0 | h0
  · have hn0 : n ≤ 0 := by omega
    have h1 : ¬ ((n : Int) > 0) := by omega
    clear h0
    go_enter Try.func48, Try.ntmps48
    go_wp2
    go_ret
    exact ⟨_, rfl, Own.nil _ _, Below.refl _ _⟩
  · obtain ⟨i0, hi, hz0, hz1, hz2⟩ := info_parts Try.info3'
    have hrz : ∀ ty, (Builtin.append_ #[22, 3] ty #[.slice none 0 0, .int .i64 (n : Int)]).run Try.prog w =
        .ok (.slice (some ⟨w.heap.size, 0, none⟩) n (grownCap w n 0 3)) (w.drew.alloc (.cells ((#[] : Array Value) ++ Builtin.zeroCells (Value.int .i64 0).cells n ++ Builtin.zeroCells (Value.int .i64 0).cells (grownCap w n 0 3 - n)) 3)) := fun ty => by
      have h := Lib.run_append_grow_zeros w 22 3 ty 3 i0 (.int .i64 0) .i64 .i64 Try.underlying22 Try.underlying3 hi hz0 none 0 0 [] (run_firstCells_none w.drew i0.size 0 0 0) n h0 (by omega) (by omega) (by omega) (by rw [hz2]; omega) (growslice_fits (by omega) (by rw [hz2]; omega))
      simpa using h
    have hGn := grownCap_ge w n 0 3
    have hGm := grownCap_le_maxLen w n 0 3 (by unfold maxLen; omega)
    obtain ⟨G, hG⟩ : ∃ G, G = grownCap w n 0 3 := ⟨_, rfl⟩
    rw [← hG] at hrz hGn hGm
    unfold maxLen at hGm
    have hRZ := Kp.mk hrz
    have h1 : (n : Int) > 0 := by omega
    clear hG hrz hi hz0 hz1 hz2
    go_enter Try.func48, Try.ntmps48
    go_wp2_with (at_builtin; refine Lib.wpList_append_run _ rfl _ _ _ _ rfl _ _ rfl rfl _ _ (hRZ.it _) ?_)
    go_ret
    refine ⟨_, rfl, ⟨by simp, .inr ⟨_, G, _, rfl, Nat.le_refl _, blk_new _ _, by simp, by unfold maxLen; omega, ?_, by simp⟩⟩, (below_drewN (Below.refl _ _) 1).alloc (Nat.le_refl _) _⟩
    simp [Builtin.zeroCells]
    omega

end Go.Proofs.Ytbfpdahbmdaenaa
