/-
  What is agreed, in plain numbers.
-/
import Derived.Test.YtbfpdahbmdaenaaAgree
namespace Go.Proofs.Ytbfpdahbmdaenaa
open Go.RowKit

/-- More than half of vs have reached z. -/
def Half (r : Int → Int) (vs : List Int) (z : Int) : Prop := vs.length < 2 * vs.countP (fun w => decide (z ≤ r w))

theorem agr_out {r : Int → Int} {vs : List Int} {v : Int} (hv : v ∈ vs) (h : inR v = false) : agr r vs = 0 := by
  unfold agr
  rw [if_pos]
  right
  unfold gat
  rw [List.length_map, ← List.countP_eq_length_filter]
  rcases Nat.lt_or_ge (vs.countP inR) vs.length with h1 | h1
  · exact h1
  · have : vs.countP inR = vs.length := Nat.le_antisymm List.countP_le_length h1
    rw [List.countP_eq_length] at this
    rw [this v hv] at h
    cases h

theorem gat_all {r : Int → Int} {vs : List Int} (h : ∀ v ∈ vs, inR v = true) : gat r vs = vs.map r := by
  unfold gat
  rw [List.filter_eq_self.2 h]

theorem sorted_split (xs : List Int) (m : Nat) (hm : m < xs.length) : xs.length - m ≤ xs.countP (fun w => decide (rd (sorted xs) m ≤ w)) ∧ ∀ z, rd (sorted xs) m < z → xs.countP (fun w => decide (z ≤ w)) ≤ xs.length - 1 - m := by
  have hp := sorted_perm xs
  have hs := sorted_pair xs
  have hl := sorted_length xs
  have hml : m < (sorted xs).length := by omega
  rw [← hp.countP_eq]
  have e1 : ∀ p : Int → Bool, (sorted xs).countP p = ((sorted xs).take m).countP p + ((sorted xs).drop m).countP p := fun p => by rw [← List.countP_append, List.take_append_drop]
  have e2 : ∀ p : Int → Bool, (sorted xs).countP p = ((sorted xs).take (m + 1)).countP p + ((sorted xs).drop (m + 1)).countP p := fun p => by rw [← List.countP_append, List.take_append_drop]
  constructor
  · rw [e1]
    have : ((sorted xs).drop m).countP (fun w => decide (rd (sorted xs) m ≤ w)) = ((sorted xs).drop m).length := by
      rw [List.countP_eq_length]
      intro a ha
      rw [decide_eq_true_eq]
      obtain ⟨i, hi, rfl⟩ := List.getElem_of_mem ha
      rw [List.getElem_drop, rd_lt hml]
      rcases Nat.eq_zero_or_pos i with rfl | h0
      · exact Int.le_refl _
      · exact List.pairwise_iff_getElem.1 hs m (m + i) hml (by simp at hi; omega) (by omega)
    rw [this, List.length_drop]
    omega
  · intro z hz
    rw [← hp.countP_eq, e2]
    have : ((sorted xs).take (m + 1)).countP (fun w => decide (z ≤ w)) = 0 := by
      rw [List.countP_eq_zero]
      intro a ha
      rw [decide_eq_true_eq]
      obtain ⟨i, hi, rfl⟩ := List.getElem_of_mem ha
      rw [List.getElem_take]
      have hi' : i < m + 1 := by simp at hi; omega
      rw [rd_lt hml] at hz
      rcases Nat.lt_or_ge i m with h0 | h0
      · have := List.pairwise_iff_getElem.1 hs i m (by omega) hml h0
        omega
      · obtain rfl : i = m := by omega
        omega
    rw [this]
    refine Nat.le_trans (Nat.add_le_add_left List.countP_le_length _) ?_
    rw [List.length_drop]
    omega

theorem half_map (r : Int → Int) (vs : List Int) (z : Int) : Half r vs z ↔ (vs.map r).length < 2 * (vs.map r).countP (fun w => decide (z ≤ w)) := by
  unfold Half
  rw [List.countP_map, List.length_map]
  rfl

theorem agr_half {r : Int → Int} {vs : List Int} (h : ∀ v ∈ vs, inR v = true) (hn : vs ≠ []) : Half r vs (agr r vs) ∧ (∀ z, agr r vs < z → ¬ Half r vs z) ∧ ∃ v ∈ vs, r v = agr r vs := by
  have hl : 0 < vs.length := List.length_pos_iff.2 hn
  have e : agr r vs = rd (sorted (vs.map r)) ((vs.length - 1) / 2) := by
    unfold agr
    rw [gat_all h, List.length_map, if_neg (by omega)]
  rw [e]
  have hm : (vs.length - 1) / 2 < (vs.map r).length := by rw [List.length_map]; omega
  obtain ⟨h1, h2⟩ := sorted_split (vs.map r) ((vs.length - 1) / 2) hm
  rw [List.length_map] at h1 h2
  refine ⟨?_, ?_, ?_⟩
  · rw [half_map, List.length_map]; omega
  · intro z hz
    rw [half_map, List.length_map]
    have := h2 z hz
    omega
  · have hml : (vs.length - 1) / 2 < (sorted (vs.map r)).length := by rw [sorted_length]; exact hm
    have : rd (sorted (vs.map r)) ((vs.length - 1) / 2) ∈ vs.map r := by
      rw [rd_lt hml]
      exact (sorted_perm _).mem_iff.1 (List.getElem_mem _)
    rw [List.mem_map] at this
    obtain ⟨v, hv, hr⟩ := this
    exact ⟨v, hv, hr⟩

/-- What the search holds behind some of the voters. -/
def Seen (r : Int → Int) (vs us : List Int) (best : Int) (found : Bool) : Prop :=
  (found = false ∧ best = 0 ∧ ∀ v ∈ us, ¬ Half r vs (r v)) ∨ (found = true ∧ (∃ v ∈ us, best = r v) ∧ Half r vs best ∧ ∀ v ∈ us, Half r vs (r v) → r v ≤ best)

theorem seen_nil (r : Int → Int) (vs : List Int) : Seen r vs [] 0 false := .inl ⟨rfl, rfl, fun v hv => by cases hv⟩
theorem seen_no {r : Int → Int} {vs us : List Int} {best : Int} {found : Bool} {v : Int} (h : Seen r vs us best found) (hn : ¬ (Half r vs (r v) ∧ (found = false ∨ best < r v))) : Seen r vs (us ++ [v]) best found := by
  rcases h with ⟨rfl, rfl, h⟩ | ⟨rfl, ⟨u, hu, rfl⟩, h2, h3⟩
  · refine .inl ⟨rfl, rfl, fun x hx => ?_⟩
    rw [List.mem_append, List.mem_singleton] at hx
    rcases hx with hx | rfl
    · exact h x hx
    · exact fun hh => hn ⟨hh, .inl rfl⟩
  · refine .inr ⟨rfl, ⟨u, List.mem_append.2 (.inl hu), rfl⟩, h2, fun x hx hh => ?_⟩
    rw [List.mem_append, List.mem_singleton] at hx
    rcases hx with hx | rfl
    · exact h3 x hx hh
    · rcases Int.lt_or_le (r u) (r x) with h4 | h4
      · exact absurd ⟨hh, .inr h4⟩ hn
      · exact h4
theorem seen_yes {r : Int → Int} {vs us : List Int} {best : Int} {found : Bool} {v : Int} (h : Seen r vs us best found) (hh : Half r vs (r v)) (hy : found = false ∨ best < r v) : Seen r vs (us ++ [v]) (r v) true := by
  refine .inr ⟨rfl, ⟨v, by simp, rfl⟩, hh, fun x hx hx2 => ?_⟩
  rw [List.mem_append, List.mem_singleton] at hx
  rcases hx with hx | rfl
  · rcases h with ⟨rfl, rfl, h⟩ | ⟨rfl, _, _, h3⟩
    · exact absurd hx2 (h x hx)
    · have := h3 x hx hx2
      rcases hy with hy | hy
      · cases hy
      · omega
  · exact Int.le_refl _
theorem seen_all {r : Int → Int} {vs : List Int} {best : Int} {found : Bool} (hin : ∀ v ∈ vs, inR v = true) (h : Seen r vs vs best found) : agr r vs = best := by
  by_cases hn : vs = []
  · subst hn
    rcases h with ⟨_, rfl, _⟩ | ⟨_, ⟨u, hu, _⟩, _⟩
    · rfl
    · cases hu
  · obtain ⟨h1, h2, v, hv, h3⟩ := agr_half (r := r) hin hn
    rcases h with ⟨_, rfl, h⟩ | ⟨_, ⟨u, hu, rfl⟩, h4, h5⟩
    · exact absurd (by rw [h3]; exact h1) (h v hv)
    · have := h5 v hv (by rw [h3]; exact h1)
      rcases Int.lt_or_le (agr r vs) (r u) with h6 | h6
      · exact absurd h4 (h2 _ h6)
      · omega

end Go.Proofs.Ytbfpdahbmdaenaa
