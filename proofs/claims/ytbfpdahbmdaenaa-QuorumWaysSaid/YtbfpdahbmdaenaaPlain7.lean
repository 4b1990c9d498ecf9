/-
  All, in plain numbers: the sorted list made compact is what insertion gives.
-/
import Derived.Test.YtbfpdahbmdaenaaIns
namespace Go.Proofs.Ytbfpdahbmdaenaa
open Go.RowKit

theorem bang_rd (s : List Int) (j : Nat) : s.toArray[j]! = rd s j := by
  unfold rd
  rw [List.getD_eq_getElem?_getD]
  simp only [getElem!_def, List.getElem?_toArray]
  cases s[j]? <;> rfl

theorem sorted_mono {s : List Int} (h : s.Pairwise (· ≤ ·)) {i j : Nat} (hij : i ≤ j) (hj : j < s.length) : rd s i ≤ rd s j := by
  rw [rd_lt (by omega), rd_lt hj]
  rcases Nat.lt_or_eq_of_le hij with h1 | rfl
  · exact List.pairwise_iff_getElem.1 h i j (by omega) hj h1
  · exact Int.le_refl _

theorem compactUpTo_what {s : List Int} (h : s.Pairwise (· ≤ ·)) : ∀ m, m ≤ s.length → (∀ x, x ∈ Lib.compactUpTo s.toArray m ↔ ∃ j, j < m ∧ rd s j = x) ∧ (Lib.compactUpTo s.toArray m).Pairwise (· < ·) := by
  intro m
  induction m with
  | zero => intro _; simp [Lib.compactUpTo]
  | succ m ih =>
    intro hm
    obtain ⟨i1, i2⟩ := ih (by omega)
    rw [Lib.compactUpTo_succ]
    cases hk : Lib.keeps s.toArray m with
    | false =>
      have hm0 : 0 < m := by
        rcases Nat.eq_zero_or_pos m with h0 | h0
        · subst h0; rw [Lib.keeps_lt_one _ 0 (by omega)] at hk; cases hk
        · exact h0
      have he : rd s m = rd s (m - 1) := by
        apply Classical.byContradiction
        intro hne
        rw [Lib.keeps_pos (by rw [bang_rd, bang_rd]; exact hne)] at hk
        cases hk
      simp only [Bool.false_eq_true, if_false, List.append_nil]
      refine ⟨fun x => ?_, i2⟩
      rw [i1]
      constructor
      · rintro ⟨j, hj, rfl⟩; exact ⟨j, by omega, rfl⟩
      · rintro ⟨j, hj, rfl⟩
        rcases Nat.lt_succ_iff_lt_or_eq.1 hj with h1 | rfl
        · exact ⟨j, h1, rfl⟩
        · exact ⟨j - 1, by omega, he.symm⟩
    | true =>
      simp only [if_true]
      rw [bang_rd]
      refine ⟨fun x => ?_, ?_⟩
      · rw [List.mem_append, i1, List.mem_singleton]
        constructor
        · rintro (⟨j, hj, rfl⟩ | rfl)
          · exact ⟨j, by omega, rfl⟩
          · exact ⟨m, by omega, rfl⟩
        · rintro ⟨j, hj, rfl⟩
          rcases Nat.lt_succ_iff_lt_or_eq.1 hj with h1 | rfl
          · exact .inl ⟨j, h1, rfl⟩
          · exact .inr rfl
      · rw [List.pairwise_append]
        refine ⟨i2, by simp, fun a ha b hb => ?_⟩
        rw [List.mem_singleton] at hb
        subst hb
        obtain ⟨j, hj, rfl⟩ := (i1 a).1 ha
        have h1 := sorted_mono h (i := j) (j := m - 1) (by omega) (by omega)
        have h2 := sorted_mono h (i := m - 1) (j := m) (by omega) (by omega)
        have h3 : rd s m ≠ rd s (m - 1) := by
          intro he
          rw [Lib.keeps_neg (by omega) (by rw [bang_rd, bang_rd]; exact he)] at hk
          cases hk
        omega

theorem same_rising {a b : List Int} (ha : a.Pairwise (· < ·)) (hb : b.Pairwise (· < ·)) (h : ∀ x, x ∈ a ↔ x ∈ b) : a = b := by
  induction a generalizing b with
  | nil =>
    cases b with
    | nil => rfl
    | cons y b => exact absurd ((h y).2 (by simp)) (by simp)
  | cons x a ih =>
    cases b with
    | nil => exact absurd ((h x).1 (by simp)) (by simp)
    | cons y b =>
      rw [List.pairwise_cons] at ha hb
      have hxy : x = y := by
        have h1 := (h x).1 (by simp)
        have h2 := (h y).2 (by simp)
        rw [List.mem_cons] at h1 h2
        rcases h1 with h1 | h1
        · exact h1
        · rcases h2 with h2 | h2
          · exact h2.symm
          · have := hb.1 x h1; have := ha.1 y h2; omega
      subst hxy
      rw [ih ha.2 hb.2 (fun z => by
        have := h z
        rw [List.mem_cons, List.mem_cons] at this
        constructor
        · intro hz
          rcases this.1 (.inr hz) with e | e
          · have := ha.1 z hz; omega
          · exact e
        · intro hz
          rcases this.2 (.inr hz) with e | e
          · have := hb.1 z hz; omega
          · exact e)]

theorem mem_while {p : Int → Bool} {l : List Int} {x : Int} (h : x ∈ l.takeWhile p) : p x = true := by
  induction l with
  | nil => cases h
  | cons a l ih =>
    rw [List.takeWhile_cons] at h
    split at h
    · rename_i ha
      rcases List.mem_cons.1 h with rfl | h
      · exact ha
      · exact ih h
    · cases h
theorem ins_what {out : List Int} (h : out.Pairwise (· < ·)) (n : Int) : (ins out n).Pairwise (· < ·) ∧ ∀ x, x ∈ ins out n ↔ x = n ∨ x ∈ out := by
  obtain ⟨k, hk⟩ : ∃ k, k = (out.takeWhile (fun x => decide (x < n))).length := ⟨_, rfl⟩
  have htw : out.takeWhile (fun x => decide (x < n)) = out.take k := by
    rw [hk]; exact List.prefix_iff_eq_take.1 (List.takeWhile_prefix _)
  have hlow : ∀ x ∈ out.take k, x < n := fun x hx => by rw [← htw] at hx; simpa using mem_while hx
  have hhigh : ∀ x ∈ out.drop k, n ≤ x := by
    have hdw : out.drop k = out.dropWhile (fun x => decide (x < n)) := by
      have e := List.takeWhile_append_dropWhile (p := fun x => decide (x < n)) (l := out)
      have e2 := List.take_append_drop k out
      rw [htw] at e
      exact List.append_cancel_left (e2.trans e.symm)
    intro x hx
    cases hd : out.drop k with
    | nil => rw [hd] at hx; cases hx
    | cons y l =>
      have hy : ¬ y < n := by
        have hne : out.dropWhile (fun x => decide (x < n)) ≠ [] := by rw [← hdw, hd]; simp
        have := List.head_dropWhile_not (fun x => decide (x < n)) hne
        have e3 : (out.dropWhile (fun x => decide (x < n))).head hne = y := by
          have : out.dropWhile (fun x => decide (x < n)) = y :: l := by rw [← hdw, hd]
          simp [this]
        rw [e3] at this
        simpa using this
      have hp : (y :: l).Pairwise (· < ·) := by rw [← hd]; exact h.sublist (List.drop_sublist _ _)
      rw [hd] at hx
      rcases List.mem_cons.1 hx with rfl | hx
      · omega
      · have := (List.pairwise_cons.1 hp).1 x hx; omega
  unfold ins
  simp only
  rw [← hk]
  split
  · rename_i hc
    refine ⟨h, fun x => ⟨fun hx => .inr hx, ?_⟩⟩
    rintro (rfl | hx)
    · rw [← hc.2, rd_lt hc.1]; exact List.getElem_mem _
    · exact hx
  · rename_i hc
    have hgt : ∀ x ∈ out.drop k, n < x := by
      intro x hx
      have h1 := hhigh x hx
      rcases Int.lt_or_eq_of_le h1 with h2 | h2
      · exact h2
      · exfalso
        apply hc
        obtain ⟨j, hj, he⟩ := List.mem_iff_getElem.1 hx
        rw [List.length_drop] at hj
        refine ⟨by omega, ?_⟩
        have h0 : rd out k ∈ out.drop k := by
          rw [rd_lt (by omega)]
          exact List.mem_iff_getElem.2 ⟨0, by rw [List.length_drop]; omega, by simp⟩
        have h3 := hhigh _ h0
        rcases Nat.eq_zero_or_pos j with h4 | h4
        · subst h4
          rw [List.getElem_drop] at he
          rw [rd_lt (by omega)]
          simpa [h2] using he
        · have := List.pairwise_iff_getElem.1 h k (k + j) (by omega) (by omega) (by omega)
          rw [List.getElem_drop] at he
          rw [rd_lt (by omega)] at h3 ⊢
          omega
    refine ⟨?_, fun x => ?_⟩
    · rw [List.append_assoc, List.pairwise_append]
      refine ⟨h.sublist (List.take_sublist _ _), ?_, ?_⟩
      · rw [List.singleton_append, List.pairwise_cons]
        exact ⟨hgt, h.sublist (List.drop_sublist _ _)⟩
      · intro a ha b hb
        have h1 := hlow a ha
        rw [List.singleton_append, List.mem_cons] at hb
        rcases hb with rfl | hb
        · exact h1
        · have := hgt b hb; omega
    · have e : x ∈ out ↔ x ∈ out.take k ∨ x ∈ out.drop k := by
        rw [← List.mem_append, List.take_append_drop]
      rw [e]
      simp only [List.mem_append, List.mem_singleton]
      constructor
      · rintro ((h1 | h1) | h1)
        · exact .inr (.inl h1)
        · exact .inl h1
        · exact .inr (.inr h1)
      · rintro (h1 | h1 | h1)
        · exact .inl (.inr h1)
        · exact .inl (.inl h1)
        · exact .inr h1

theorem insAll_what (xs : List Int) : (insAll xs).Pairwise (· < ·) ∧ ∀ x, x ∈ insAll xs ↔ x ∈ xs := by
  have : ∀ (ys acc : List Int), acc.Pairwise (· < ·) → (ys.foldl ins acc).Pairwise (· < ·) ∧ ∀ x, x ∈ ys.foldl ins acc ↔ x ∈ acc ∨ x ∈ ys := by
    intro ys
    induction ys with
    | nil => intro acc h; exact ⟨h, by simp⟩
    | cons a l ih =>
      intro acc h
      obtain ⟨h1, h2⟩ := ins_what h a
      obtain ⟨h3, h4⟩ := ih (ins acc a) h1
      refine ⟨h3, fun x => ?_⟩
      rw [List.foldl_cons, h4, h2, List.mem_cons]
      constructor
      · rintro ((h | h) | h)
        · exact .inr (.inl h)
        · exact .inl h
        · exact .inr (.inr h)
      · rintro (h | h | h)
        · exact .inl (.inr h)
        · exact .inl (.inl h)
        · exact .inr h
  obtain ⟨h1, h2⟩ := this xs [] List.Pairwise.nil
  exact ⟨h1, fun x => by rw [show insAll xs = xs.foldl ins [] from rfl, h2]; simp⟩

theorem allL_insAll (vs ls : List Int) : allL vs ls = insAll (vs ++ ls) := by
  obtain ⟨h1, h2⟩ := insAll_what (vs ++ ls)
  obtain ⟨h3, h4⟩ := compactUpTo_what (sorted_pair (vs ++ ls)) (sorted (vs ++ ls)).length (Nat.le_refl _)
  have e : allL vs ls = Lib.compactUpTo (sorted (vs ++ ls)).toArray (sorted (vs ++ ls)).length := by
    unfold allL Lib.compact; simp
  rw [e]
  refine same_rising h4 h1 (fun x => ?_)
  rw [h3, h2, ← (sorted_perm (vs ++ ls)).mem_iff]
  constructor
  · rintro ⟨j, hj, rfl⟩; rw [rd_lt hj]; exact List.getElem_mem _
  · intro hx
    obtain ⟨j, hj, he⟩ := List.mem_iff_getElem.1 hx
    exact ⟨j, hj, by rw [rd_lt hj]; exact he⟩

end Go.Proofs.Ytbfpdahbmdaenaa
