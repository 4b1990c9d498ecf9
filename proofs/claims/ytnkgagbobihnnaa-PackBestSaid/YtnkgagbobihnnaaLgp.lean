/-
  How long codes are, by weights, plainly.
-/
import Derived.Test.YtnkgagbobihnnaaLea
namespace Go.Proofs.Ytnkgagbobihnnaa
open Go Go.RowKit

/-- The sum of the first k weights, as long as none is below 0 and all together are at most 2^40. -/
def sumOK (ws : List Int) : Nat → Option Nat
  | 0 => some 0
  | k + 1 => match sumOK ws k with
    | none => none
    | some s => if rd ws k < 0 ∨ 1099511627776 < rd ws k ∨ 1099511627776 - rd ws k < (s : Int) then none else some (s + (rd ws k).toNat)
theorem sumOK_none {ws : List Int} {k : Nat} (h : sumOK ws k = none) : ∀ m, k ≤ m → sumOK ws m = none := by
  intro m hm
  induction m with
  | zero => obtain rfl : k = 0 := by omega
            exact h
  | succ m ih =>
    rcases Nat.lt_or_ge k (m + 1) with h1 | h1
    · show (match sumOK ws m with | none => none | some s => _) = none
      rw [ih (by omega)]
    · obtain rfl : k = m + 1 := by omega
      exact h
theorem sumOK_le {ws : List Int} : ∀ {k s : Nat}, sumOK ws k = some s → s ≤ 1099511627776
  | 0, s, h => by
    have : s = 0 := by simpa [sumOK] using h.symm
    omega
  | k + 1, s, h => by
    unfold sumOK at h
    cases h1 : sumOK ws k with
    | none => rw [h1] at h; cases h
    | some t =>
      rw [h1] at h
      simp only at h
      split at h
      · cases h
      · rename_i h2
        injection h with h
        omega
/-- A knot for each weight above 0 of the first k. -/
def knots (ws : List Int) : Nat → List Knot
  | 0 => []
  | k + 1 => if 0 < rd ws k then knots ws k ++ [((rd ws k).toNat, [k])] else knots ws k
theorem knots_len (ws : List Int) : ∀ k, (knots ws k).length ≤ k
  | 0 => Nat.le_refl _
  | k + 1 => by
    have ih := knots_len ws k
    unfold knots
    split
    · rw [List.length_append, List.length_singleton]; omega
    · omega
theorem flat_app (a b : List Knot) : flat (a ++ b) = flat a ++ flat b := by unfold flat; rw [List.flatMap_append]
theorem knots_lt (ws : List Int) : ∀ k, ∀ i, i ∈ flat (knots ws k) → i < k
  | 0, i, h => by cases h
  | k + 1, i, h => by
    unfold knots at h
    split at h
    · rw [flat_app] at h
      rcases List.mem_append.1 h with h | h
      · have := knots_lt ws k i h; omega
      · have : i = k := by simpa [flat] using h
        omega
    · have := knots_lt ws k i h; omega
theorem knots_nodup (ws : List Int) : ∀ k, (flat (knots ws k)).Nodup
  | 0 => List.nodup_nil
  | k + 1 => by
    unfold knots
    split
    · rw [flat_app]
      refine List.nodup_append.2 ⟨knots_nodup ws k, by simp [flat], fun a ha b hb => ?_⟩
      have := knots_lt ws k a ha
      have : b = k := by simpa [flat] using hb
      omega
    · exact knots_nodup ws k
def wsum (l : List Knot) : Nat := (l.map Prod.fst).sum
theorem wsum_app (a b : List Knot) : wsum (a ++ b) = wsum a + wsum b := by unfold wsum; rw [List.map_append, List.sum_append]
theorem knots_sum {ws : List Int} : ∀ {k s : Nat}, sumOK ws k = some s → wsum (knots ws k) = s
  | 0, s, h => by
    have : 0 = s := by simpa [sumOK] using h
    simpa [knots, wsum] using this
  | k + 1, s, h => by
    unfold sumOK at h
    cases h1 : sumOK ws k with
    | none => rw [h1] at h; cases h
    | some t =>
      rw [h1] at h
      simp only at h
      split at h
      · cases h
      · rename_i h2
        injection h with h
        have ih := knots_sum h1
        unfold knots
        split
        · rw [wsum_app, ih]
          show t + wsum [((rd ws k).toNat, [k])] = s
          simp [wsum, h]
        · rename_i h3
          rw [ih]
          have : (rd ws k).toNat = 0 := by omega
          omega
theorem flat_perm {l m : List Knot} (h : l.Perm m) : (flat l).Perm (flat m) := h.flatMap_right _
theorem wsum_perm {l m : List Knot} (h : l.Perm m) : wsum l = wsum m := (h.map Prod.fst).sum_nat
theorem stepK_flat {l : List Knot} (h : 2 ≤ l.length) : (flat (stepK l).1).Perm (flat l) ∧ wsum (stepK l).1 = wsum l ∧ ∃ r, (flat l).Perm ((stepK l).2 ++ r) := by
  obtain ⟨a, b, r, hp, _, _, he⟩ := stepK_two l h
  have e1 : flat (a :: b :: r) = (a.2 ++ b.2) ++ flat r := by simp [flat]
  have e2 : flat (r ++ [(a.1 + b.1, a.2 ++ b.2)]) = flat r ++ (a.2 ++ b.2) := by simp [flat]
  refine ⟨?_, ?_, flat r, ?_⟩
  · rw [he]
    show (flat (r ++ [(a.1 + b.1, a.2 ++ b.2)])).Perm _
    rw [e2]
    exact List.perm_append_comm.trans ((List.Perm.of_eq e1.symm).trans (flat_perm hp).symm)
  · rw [he, wsum_perm hp]
    show wsum (r ++ [(a.1 + b.1, a.2 ++ b.2)]) = _
    rw [wsum_app]
    simp [wsum]
    omega
  · rw [he]
    exact (flat_perm hp).trans (List.Perm.of_eq e1)
/-- How long each sign's code is. -/
def growN (ks : List Knot) : Nat → Nat := if ks.length = 1 then (fun i => if i ∈ flat ks then 1 else 0) else grow (ks.length - 1) ks (fun _ => 0)
def lengthsN (ws : List Int) : List Int := tab ws.length (growN (knots ws ws.length))
def lengthsP (ws : List Int) : Int × List Int := match sumOK ws ws.length with
  | none => (5, [])
  | some _ => if (lengthsN ws).any (fun x => decide (31 < x)) then (4, []) else (0, lengthsN ws)
theorem more_take {o : Nat → Nat} {b : List Nat} {j : Nat} (hj : j < b.length) (hn : b.Nodup) (i : Nat) : more o (b.take (j + 1)) i = if i = b.getD j 0 then more o (b.take j) i + 1 else more o (b.take j) i := by
  have e : b.take (j + 1) = b.take j ++ [b.getD j 0] := by rw [List.take_succ_eq_append_getElem hj, List.getD_eq_getElem?_getD, List.getElem?_eq_getElem hj]; rfl
  have hx : b.getD j 0 ∉ b.take j := by
    have h1 : (b.take (j + 1)).Nodup := hn.sublist (List.take_sublist _ _)
    rw [e] at h1
    intro h9
    exact (List.nodup_append.1 h1).2.2 _ h9 _ (List.mem_singleton.2 rfl) rfl
  rw [e]
  unfold more
  by_cases hi : i = b.getD j 0
  · subst hi
    rw [if_pos rfl, if_pos (List.mem_append_right _ (List.mem_singleton.2 rfl)), if_neg hx]
  · rw [if_neg hi]
    by_cases h1 : i ∈ b.take j
    · rw [if_pos (List.mem_append_left _ h1), if_pos h1]
    · rw [if_neg (fun h9 => by rcases List.mem_append.1 h9 with h | h; exact h1 h; exact hi (List.mem_singleton.1 h)), if_neg h1]
theorem more_le {o : Nat → Nat} {m : Nat} (h : ∀ i, o i ≤ m) (b : List Nat) : ∀ i, more o b i ≤ m + 1 := fun i => by
  have := h i
  unfold more
  split <;> omega
end Go.Proofs.Ytnkgagbobihnnaa
