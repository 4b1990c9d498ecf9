/-
  All voters, none, all nodes: in plain numbers.
-/
import Derived.Test.YtbfpdahbmdaenaaAll
import Derived.Test.YtbfpdahbmdaenaaPlain5
namespace Go.Proofs.Ytbfpdahbmdaenaa
open Go.RowKit

theorem good_all {vs ls : List Int} (h : goodB vs ls = true) : (vs ++ ls).Nodup ∧ 0 < vs.length := by
  unfold goodB wellB at h
  rw [Bool.and_eq_true, decide_eq_true_eq, decide_eq_true_eq, well_iff] at h
  exact ⟨h.1.1, h.2⟩
theorem major_all {vs ls : List Int} (h : goodB vs ls = true) : major vs vs = true := by
  have := (good_all h).2
  unfold major
  rw [decide_eq_true_eq]
  have e : vs.countP (fun v => inB vs v) = vs.length := by
    rw [List.countP_eq_length]
    exact fun v hv => inB_iff.2 hv
  omega
theorem major_none (vs : List Int) : major vs [] = false := by
  unfold major
  rw [decide_eq_false_iff_not]
  have e : vs.countP (fun v => inB [] v) = 0 := by
    rw [List.countP_eq_zero]
    intro v _
    simp [inB]
  omega
theorem major_learn {vs ls xs : List Int} (h : goodB vs ls = true) : major vs (xs ++ ls) = major vs xs := by
  have hn := (good_all h).1
  rw [List.nodup_append] at hn
  unfold major
  rw [List.countP_congr (p := fun v => inB (xs ++ ls) v) (q := fun v => inB xs v)]
  intro v hv
  rw [inB_iff, inB_iff, List.mem_append]
  constructor
  · rintro (h | h)
    · exact h
    · exact absurd rfl (hn.2.2 v hv v h)
  · exact .inl
theorem sorted_nodup {xs : List Int} (h : xs.Nodup) : Lib.compact (sorted xs) = sorted xs := by
  refine Lib.compact_all _ (fun j hj => ?_)
  rcases Nat.eq_zero_or_pos j with rfl | h0
  · exact Lib.keeps_lt_one _ 0 (by omega)
  · refine Lib.keeps_pos ?_
    have hn : (sorted xs).Nodup := (sorted_perm xs).nodup_iff.2 h
    rw [getElem!_pos _ j (by simpa using hj), getElem!_pos _ (j - 1) (by simp; omega)]
    intro e
    exact List.pairwise_iff_getElem.1 hn (j - 1) j (by omega) hj (by omega) (by simpa using e.symm)
theorem all_length {vs ls : List Int} (h : goodB vs ls = true) : (allL vs ls).length = vs.length + ls.length := by
  unfold allL
  rw [sorted_nodup (good_all h).1, sorted_length, List.length_append]

end Go.Proofs.Ytbfpdahbmdaenaa
