/-
  append of one int to an owned row.
-/
import Derived.Test.YtbfpdahbmdaenaaAgree
import Derived.Maps.AppendAt
namespace Go.Proofs.Ytbfpdahbmdaenaa
open Go.RowKit

/-- Two rows do not lie in one block. -/
def Dj (a b : Value) : Prop := a.ownBlock = none ∨ b.ownBlock = none ∨ a.ownBlock ≠ b.ownBlock
theorem Own.lt {W : World} {base : Nat} {v : Value} {xs : List Int} (h : Own W base v xs) (k : Nat) (hk : v.ownBlock = some k) : k < W.heap.size := by
  unfold Own at h
  rcases h.2 with ⟨rfl, _⟩ | ⟨g, cap, cur, rfl, hb, hh, _⟩
  · simp [Value.ownBlock] at hk
  · have : g = k := by simpa [Value.ownBlock] using hk
    subst this
    exact (Array.getElem?_eq_some_iff.1 hh).1
theorem Own.grow {W W' : World} {base : Nat} {v u : Value} {xs : List Int} (h : Own W base v xs) (hg : W.grownBy W' u.ownBlock) (hd : Dj v u) : Own W' base v xs := by
  refine World.ownsRow.kept h hg ?_
  rcases hd with h1 | h1 | h1
  · rw [h1]; simp
  · rw [h1]; cases v.ownBlock <;> simp
  · cases hu : u.ownBlock with
    | none => cases v.ownBlock <;> simp
    | some b => cases hv : v.ownBlock with
      | none => simp
      | some c => simp; rintro rfl; exact h1 (by rw [hv, hu])
theorem Dj.next {W : World} {base : Nat} {v u u' : Value} {xs : List Int} (h : Own W base v xs) (hd : Dj v u) (hu : u'.ownBlock = u.ownBlock ∨ ∃ b, u'.ownBlock = some b ∧ W.heap.size ≤ b) : Dj v u' := by
  rcases hu with hu | ⟨b, hu, hb⟩
  · unfold Dj; rw [hu]; exact hd
  · unfold Dj
    cases hv : v.ownBlock with
    | none => exact .inl rfl
    | some c =>
      right; right
      rw [hu]
      have := h.lt c hv
      intro e
      injection e
      omega
theorem Dj.symm {a b : Value} (h : Dj a b) : Dj b a := by
  rcases h with h | h | h
  · exact .inr (.inl h)
  · exact .inl h
  · exact .inr (.inr fun e => h e.symm)

theorem app_own {ops : Array Oper} {rest : List Oper} {o : Oper} {a : Act} {Q : Exit → Act → World → Prop} {W : World} (hgd : o.guard = none) (s x : Operand)
    (ho : o.op = .call { callee := .builtin .append, args := #[s, x], argTypes := #[22, 22] })
    (base : Nat) (v : Value) (xs : List Int) (y : Int) (hs : a.eval s = v) (hx : a.eval x = .slice (some ⟨W.heap.size, 0, none⟩) 1 1)
    (HO : Own W base v xs) (hbase : base ≤ W.heap.size) (hl : xs.length + 1 ≤ 17592186044416)
    (h : ∀ v1 w1, Own w1 base v1 (xs ++ [y]) → W.grownBy w1 v.ownBlock → (v1.ownBlock = v.ownBlock ∨ ∃ b, v1.ownBlock = some b ∧ W.heap.size ≤ b) → wpList Try.prog ops Q rest (a.put o.dst v1) w1) :
    wpList Try.prog ops Q (o :: rest) a (W.alloc (.cells #[.int .i64 y] 3)) := by
  obtain ⟨i0, hi, hz0, hz1, hz2⟩ := info_parts Try.info3'
  refine wpList_append_own_at (W.alloc (.cells #[.int .i64 y] 3)) hgd s x 22 ho base 3 i0 (.int .i64 0) 1 8 Try.underlying22 hi hz0 hz1 hz2 rfl (by omega) v xs.length _ hs (World.ownsRow.alloc HO _) ⟨W.heap.size, 0, none⟩ 1 1 [.int .i64 y] hx rfl
    ?_ (by intro u hu; simp at hu; subst hu; rfl) (by unfold maxLen; omega) (by omega) (by simp; omega) ?_
  · intro j u hj
    match j, hj with
    | 0, hj => simp at hj; subst hj; simp [Addr.add]
  · intro v1 w1 hown hg _ hat
    refine h v1 w1 ?_ (World.grownBy.trans (World.grownBy_alloc W _ _) hg) ?_
    · unfold Own; simpa using hown
    · rcases hat with hat | hat
      · exact .inl hat
      · exact .inr ⟨_, hat, by simp⟩
theorem below_own {B base : Nat} {w0 wr w1 : World} {v : Value} {xs : List Int} (hW : Below B w0 wr) (hsz : B ≤ wr.heap.size) (hown : Own wr base v xs) (hbase : B ≤ base) (hg : wr.grownBy w1 v.ownBlock) : Below B w0 w1 :=
  hW.grown hg hsz (fun k hk => Nat.le_trans hbase (hown.base_le k hk))

end Go.Proofs.Ytbfpdahbmdaenaa
