/-
  Rosters in plain numbers, on: the reference's counts; what one roster may come behind.
-/
import Derived.Test.YtbfpdahbmdaenaaPlain
namespace Go.Proofs.Ytbfpdahbmdaenaa
open Go.RowKit

/-- How often a node stands in a roster. -/
def cOf (vs ls : List Int) (m : Int) : Nat := vs.countP (· == m) + ls.countP (· == m)
/-- How often the first k nodes stand there. -/
def tot (vs ls : List Int) : Nat → Nat | 0 => 0 | k + 1 => tot vs ls k + cOf vs ls k

theorem tot_eq (vs ls : List Int) (k : Nat) : tot vs ls k = (vs ++ ls).countP (fun x => decide (0 ≤ x ∧ x < (k : Int))) := by
  induction k with
  | zero =>
    rw [tot, eq_comm, List.countP_eq_zero]
    intro x _
    simp
  | succ k ih =>
    have : ∀ L : List Int, L.countP (fun x => decide (0 ≤ x ∧ x < ((k + 1 : Nat) : Int))) = L.countP (fun x => decide (0 ≤ x ∧ x < (k : Int))) + L.countP (· == (k : Int)) := by
      intro L
      induction L with
      | nil => rfl
      | cons y L ihL =>
        simp only [List.countP_cons]
        rw [ihL]
        by_cases h : y = (k : Int)
        · rw [if_pos (decide_eq_true (by omega)), if_neg (by rw [decide_eq_true_eq]; omega), if_pos (by rw [h]; simp)]; omega
        · have e1 : ¬ (y == (k : Int)) = true := by simpa using h
          by_cases h2 : 0 ≤ y ∧ y < (k : Int)
          · rw [if_pos (decide_eq_true (by omega)), if_pos (decide_eq_true h2), if_neg e1]; omega
          · rw [if_neg (by rw [decide_eq_true_eq]; omega), if_neg (by rw [decide_eq_true_eq]; exact h2), if_neg e1]; omega
    rw [tot, ih, this]
    simp only [cOf, List.countP_append]
theorem tot_le (vs ls : List Int) (k : Nat) : tot vs ls k ≤ vs.length + ls.length := by
  rw [tot_eq]
  exact Nat.le_trans List.countP_le_length (by simp)

theorem well_iff (vs ls : List Int) : well (prs vs ls) ↔ (vs ++ ls).Nodup ∧ ∀ x ∈ vs ++ ls, 0 ≤ x ∧ x < 5 := by
  unfold well
  rw [show (prs vs ls).map (·.1) = vs ++ ls by simp [prs, Function.comp_def]]
  constructor
  · rintro ⟨h1, h2⟩
    refine ⟨h1, fun x hx => ?_⟩
    rw [List.mem_append] at hx
    rcases hx with hx | hx
    · exact h2 (x, 2) (by simp [prs, hx])
    · exact h2 (x, 1) (by simp [prs, hx])
  · rintro ⟨h1, h2⟩
    refine ⟨h1, fun q hq => ?_⟩
    unfold prs at hq
    rw [List.mem_append, List.mem_map, List.mem_map] at hq
    rcases hq with ⟨x, hx, rfl⟩ | ⟨x, hx, rfl⟩
    · exact h2 x (List.mem_append.2 (.inl hx))
    · exact h2 x (List.mem_append.2 (.inr hx))

theorem good_many {vs ls : List Int} {m : Int} (h : 1 < cOf vs ls m) : goodB vs ls = false := by
  unfold goodB wellB
  rw [decide_eq_false]
  · rfl
  · rw [well_iff]
    rintro ⟨hn, _⟩
    have := hn.count (a := m)
    unfold List.count at this
    rw [List.countP_append] at this
    unfold cOf at h
    split at this <;> omega

theorem good_fin {vs ls : List Int} (h : ∀ m : Nat, m < 5 → cOf vs ls m ≤ 1) : goodB vs ls = (decide (tot vs ls 5 = vs.length + ls.length) && decide (0 < vs.length)) := by
  unfold goodB wellB
  congr 1
  rw [Bool.eq_iff_iff, decide_eq_true_eq, decide_eq_true_eq, well_iff, tot_eq, ← List.length_append, List.countP_eq_length]
  simp only [decide_eq_true_eq]
  constructor
  · exact fun ⟨_, h2⟩ x hx => h2 x hx
  · intro h2
    refine ⟨?_, h2⟩
    rw [List.nodup_iff_count]
    intro x
    by_cases hx : x ∈ vs ++ ls
    · obtain ⟨a, b⟩ := h2 x hx
      have := h x.toNat (by omega)
      unfold cOf at this
      rw [show ((x.toNat : Nat) : Int) = x by omega] at this
      unfold List.count
      rw [List.countP_append]
      exact this
    · rw [List.count_eq_zero.2 hx]; omega

/-- At how many of the first k nodes f and g part. -/
def dif (f g : Int → Int) : Nat → Nat | 0 => 0 | k + 1 => dif f g k + if f k = g k then 0 else 1
theorem dif_le (f g : Int → Int) (k : Nat) : dif f g k ≤ k := by
  induction k with
  | zero => exact Nat.le_refl _
  | succ k ih => rw [dif]; split <;> omega
/-- Does one of the first k nodes vote that was neither? -/
def jump (f g : Int → Int) (k : Nat) : Prop := ∃ m : Nat, m < k ∧ f m = 0 ∧ g m = 2
instance (f g : Int → Int) (k : Nat) : Decidable (jump f g k) := inferInstanceAs (Decidable (∃ m, m < k ∧ f m = 0 ∧ g m = 2))
theorem jump_succ {f g : Int → Int} {k : Nat} (h : ¬ jump f g k) (hk : ¬ (f k = 0 ∧ g k = 2)) : ¬ jump f g (k + 1) := by
  rintro ⟨m, hm, h1, h2⟩
  rcases Nat.lt_succ_iff_lt_or_eq.1 hm with h3 | rfl
  · exact h ⟨m, h3, h1, h2⟩
  · exact hk ⟨h1, h2⟩
/-- What May answers of two rosters that may be. -/
def mayOf (f g : Int → Int) : Int := if jump f g 5 then 111 else if dif f g 5 = 1 then 0 else 111
theorem mayOf_jump {f g : Int → Int} {k : Nat} (h : k < 5) (h1 : f k = 0) (h2 : g k = 2) : mayOf f g = 111 := by
  unfold mayOf
  rw [if_pos ⟨k, h, h1, h2⟩]
theorem mayOf_else {f g : Int → Int} (h : ¬ jump f g 5) : mayOf f g = if dif f g 5 = 1 then 0 else 111 := by
  unfold mayOf
  rw [if_neg h]
def errM (vs ls vs' ls' : List Int) : Int := if goodB vs ls && goodB vs' ls' then mayOf (val (prs vs ls)) (val (prs vs' ls')) else 110

end Go.Proofs.Ytbfpdahbmdaenaa
