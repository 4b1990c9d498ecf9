/-
  No code is the beginning of another one: plainly.
-/
import Derived.Test.YtnkgagbobihnnaaKft
import Derived.Test.YtnkgagbobihnnaaLgt
namespace Go.Proofs.Ytnkgagbobihnnaa
open Go Go.RowKit

/-- j has its code when place k of length n is next. -/
def Asg (ls : List Int) (n k j : Nat) : Prop := j < ls.length ∧ 1 ≤ rd ls j ∧ (rd ls j < n ∨ (rd ls j = n ∧ j < k))
structure PfI (ls : List Int) (n k : Nat) (s : Nat × List Int) : Prop where
  len : s.2.length = ls.length
  top : ∀ j, Asg ls n k j → ∃ c : Nat, rd s.2 j = c ∧ (c + 1) * 2 ^ (n - ln ls j) ≤ s.1
  dis : ∀ i j, Asg ls n k i → Asg ls n k j → i ≠ j → ln ls i ≤ ln ls j → rd s.2 j / (2 : Int) ^ (ln ls j - ln ls i) ≠ rd s.2 i
theorem PfI.step {ls : List Int} {n k : Nat} {s t : Nat × List Int} (h : PfI ls n k s) (hk : k < ls.length) (hs : stepC ls n s k = .ok t) : PfI ls n (k + 1) t := by
  unfold stepC at hs
  split at hs
  · cases hs
  · rename_i hr
    split at hs
    · rename_i hn
      split at hs
      · cases hs
      · cases hs
        have hln : ln ls k = n := by unfold ln; omega
        have old : ∀ j, j ≠ k → Asg ls n (k + 1) j → Asg ls n k j := fun j hj ⟨a, b, c⟩ => ⟨a, b, by omega⟩
        have hle : ∀ j, Asg ls n k j → ln ls j ≤ n := fun j ⟨a, b, c⟩ => by unfold ln; omega
        have hset : rd (s.2.set k (s.1 : Int)) k = (s.1 : Int) := rd_set (by rw [h.len]; exact hk)
        refine ⟨by simp [h.len], fun j hj => ?_, fun i j hi hj hij hlij => ?_⟩
        · by_cases hjk : j = k
          · subst hjk
            exact ⟨s.1, hset, by rw [hln]; simp⟩
          · obtain ⟨c, e, hc⟩ := h.top j (old j hjk hj)
            exact ⟨c, by rw [rdset_ne (Ne.symm hjk)]; exact e, by show _ ≤ s.1 + 1; omega⟩
        · by_cases hjk : j = k
          · subst hjk
            have hi' := old i hij hi
            obtain ⟨c, e, hc⟩ := h.top i hi'
            show rd (s.2.set j (s.1 : Int)) j / _ ≠ rd (s.2.set j (s.1 : Int)) i
            rw [hset, rdset_ne (Ne.symm hij), e, hln]
            have hp : 0 < 2 ^ (n - ln ls i) := Nat.two_pow_pos _
            have h9 := (Nat.le_div_iff_mul_le hp).2 hc
            have e2 : (s.1 : Int) / (2 : Int) ^ (n - ln ls i) = ((s.1 / 2 ^ (n - ln ls i) : Nat) : Int) := by simp
            rw [e2]
            omega
          · by_cases hik : i = k
            · subst hik
              have hj' := old j hjk hj
              have hlj := hle j hj'
              obtain ⟨c, e, hc⟩ := h.top j hj'
              have hz : ln ls j = n := by omega
              show rd (s.2.set i (s.1 : Int)) j / _ ≠ rd (s.2.set i (s.1 : Int)) i
              rw [hset, rdset_ne (Ne.symm hjk), e, hln, hz, Nat.sub_self]
              rw [hz, Nat.sub_self] at hc
              simp at hc ⊢
              omega
            · show rd (s.2.set k (s.1 : Int)) j / _ ≠ rd (s.2.set k (s.1 : Int)) i
              rw [rdset_ne (Ne.symm hjk), rdset_ne (Ne.symm hik)]
              exact h.dis i j (old i hik hi) (old j hjk hj) hij hlij
    · rename_i hn
      cases hs
      have old : ∀ j, Asg ls n (k + 1) j → Asg ls n k j := fun j ⟨a, b, c⟩ => ⟨a, b, by
        rcases c with c | ⟨c, d⟩
        · exact .inl c
        · refine .inr ⟨c, ?_⟩
          rcases Nat.lt_succ_iff_lt_or_eq.1 d with d | rfl
          · exact d
          · exact absurd c hn⟩
      exact ⟨h.len, fun j hj => h.top j (old j hj), fun i j hi hj => h.dis i j (old i hi) (old j hj)⟩
theorem PfI.row {ls : List Int} {n : Nat} {s : Nat × List Int} (h : PfI ls n 0 s) : ∀ (k : Nat) {t : Nat × List Int}, k ≤ ls.length → rowC ls n s k = .ok t → PfI ls n k t
  | 0, t, _, e => by cases e; exact h
  | k + 1, t, hk, e => by
    unfold rowC at e
    rw [foldlM_range_succ] at e
    cases e2 : (List.range k).foldlM (stepC ls n) s with
    | error x => rw [e2] at e; cases e
    | ok u =>
      rw [e2] at e
      exact (h.row k (by omega) e2).step (by omega) e
theorem PfI.next {ls : List Int} {n : Nat} {s : Nat × List Int} (h : PfI ls n ls.length s) : PfI ls (n + 1) 0 (2 * s.1, s.2) := by
  have old : ∀ j, Asg ls (n + 1) 0 j → Asg ls n ls.length j := fun j ⟨a, b, c⟩ => ⟨a, b, by omega⟩
  have hle : ∀ j, Asg ls n ls.length j → ln ls j ≤ n := fun j ⟨a, b, c⟩ => by unfold ln; omega
  refine ⟨h.len, fun j hj => ?_, fun i j hi hj => h.dis i j (old i hi) (old j hj)⟩
  obtain ⟨c, e, hc⟩ := h.top j (old j hj)
  refine ⟨c, e, ?_⟩
  have := hle j (old j hj)
  rw [show n + 1 - ln ls j = (n - ln ls j) + 1 by omega, Nat.pow_succ, ← Nat.mul_assoc]
  show _ ≤ 2 * s.1
  omega
theorem pfI_all {ls : List Int} : ∀ (m : Nat) {s : Nat × List Int}, allC ls m = .ok s → PfI ls (m + 1) 0 (2 * s.1, s.2)
  | 0, s, e => by
    cases e
    exact ⟨by simp, fun j ⟨a, b, c⟩ => by omega, fun i j ⟨a, b, c⟩ => by omega⟩
  | m + 1, s, e => by
    unfold allC at e
    rw [foldlM_range_succ] at e
    cases e2 : allC ls m with
    | error x => unfold allC at e2; rw [e2] at e; cases e
    | ok u =>
      have h := pfI_all m e2
      unfold allC at e2
      rw [e2] at e
      exact (h.row ls.length (Nat.le_refl _) e).next
theorem row_rng {ls : List Int} {n : Nat} {s : Nat × List Int} : ∀ (k : Nat) {t : Nat × List Int}, rowC ls n s k = .ok t → ∀ j, j < k → 0 ≤ rd ls j ∧ rd ls j ≤ 31
  | 0, t, e => fun j hj => by omega
  | k + 1, t, e => by
    unfold rowC at e
    rw [foldlM_range_succ] at e
    cases e2 : (List.range k).foldlM (stepC ls n) s with
    | error x => rw [e2] at e; cases e
    | ok u =>
      rw [e2] at e
      intro j hj
      rcases Nat.lt_succ_iff_lt_or_eq.1 hj with hj | rfl
      · exact row_rng k e2 j hj
      · have e3 : stepC ls n u j = .ok t := e
        unfold stepC at e3
        split at e3
        · cases e3
        · omega
theorem step_err {ls : List Int} {n k : Nat} {s : Nat × List Int} {x : Int} (h : stepC ls n s k = .error x) : x ≠ 0 := by
  unfold stepC at h
  split at h
  · cases h; decide
  · split at h
    · split at h
      · cases h; decide
      · cases h
    · cases h
theorem row_err {ls : List Int} {n : Nat} {s : Nat × List Int} {x : Int} : ∀ k : Nat, rowC ls n s k = .error x → x ≠ 0
  | 0, e => by cases e
  | k + 1, e => by
    unfold rowC at e
    rw [foldlM_range_succ] at e
    cases e2 : (List.range k).foldlM (stepC ls n) s with
    | error y =>
      rw [e2] at e
      cases e
      exact row_err k e2
    | ok u =>
      rw [e2] at e
      exact step_err (show stepC ls n u k = .error x from e)
theorem all_err {ls : List Int} {x : Int} : ∀ m : Nat, allC ls m = .error x → x ≠ 0
  | 0, e => by cases e
  | m + 1, e => by
    unfold allC at e
    rw [foldlM_range_succ] at e
    cases e2 : allC ls m with
    | error y =>
      have e3 := e2
      unfold allC at e2
      rw [e2] at e
      cases e
      exact all_err m e3
    | ok u =>
      unfold allC at e2
      rw [e2] at e
      exact row_err ls.length (show rowC ls (m + 1) (2 * u.1, u.2) ls.length = .error x from e)
theorem count_le {ws : List Int} (h : (knots ws ws.length).length < 2) : AS (fun j => if 1 ≤ ln (lengthsN ws) j then 1 else 0) ws.length ≤ 1 := by
  have hln : ∀ j, j < ws.length → ln (lengthsN ws) j = growN (knots ws ws.length) j := fun j hj => by
    unfold ln lengthsN
    rw [tab_rd _ hj]; omega
  have e1 : AS (fun j => if 1 ≤ ln (lengthsN ws) j then 1 else 0) ws.length = AS (fun j => if 1 ≤ growN (knots ws ws.length) j then 1 else 0) ws.length := AS_congr fun j hj => by rw [hln j hj]
  rw [e1]
  rcases Nat.eq_zero_or_pos (knots ws ws.length).length with h0 | h0
  · have : ∀ j, growN (knots ws ws.length) j = 0 := fun j => by
      unfold growN
      rw [if_neg (by omega), h0]
      rfl
    have e2 : AS (fun j => if 1 ≤ growN (knots ws ws.length) j then 1 else 0) ws.length = AS (fun j => if j ∈ ([] : List Nat) then 1 else 0) ws.length := AS_congr fun j _ => by rw [this j]; simp
    rw [e2, AS_flat _ _ List.nodup_nil _ (fun i hi => by cases hi)]
    exact Nat.zero_le _
  · have hl1 : (knots ws ws.length).length = 1 := by omega
    obtain ⟨k, hk⟩ : ∃ k, flat (knots ws ws.length) = [k] := List.length_eq_one_iff.1 (by
      have h9 : (flat (knots ws ws.length)).length = (knots ws ws.length).length := knots_flat ws _
      omega)
    have e3 : ∀ j, growN (knots ws ws.length) j = if j ∈ [k] then 1 else 0 := fun j => by
      unfold growN
      rw [if_pos hl1, hk]
    have e2 : AS (fun j => if 1 ≤ growN (knots ws ws.length) j then 1 else 0) ws.length = AS (fun j => if j ∈ [k] then 1 else 0) ws.length := AS_congr fun j _ => by
      rw [e3 j]
      by_cases h : j ∈ [k]
      · simp only [if_pos h]; rfl
      · simp only [if_neg h]; rfl
    rw [e2, AS_flat _ _ (by simp) _ (fun i hi => by
      have := knots_lt ws ws.length i (by rw [hk]; exact hi)
      exact this)]
    simp
/-- What codes are, where there are any. -/
theorem codes_pre {ls O : List Int} (h : codesP ls = (0, O)) : O.length = ls.length ∧ (∀ j, j < ls.length → 0 ≤ rd ls j ∧ rd ls j ≤ 31) ∧
    ∀ i j, i < ls.length → j < ls.length → i ≠ j → 0 < rd ls i → rd ls i ≤ rd ls j → rd O j / (2 : Int) ^ ((rd ls j).toNat - (rd ls i).toNat) ≠ rd O i := by
  unfold codesP at h
  cases e : allC ls 31 with
  | error x =>
    rw [e] at h
    simp only [Prod.mk.injEq] at h
    exact absurd h.1 (all_err 31 e)
  | ok s =>
    rw [e] at h
    simp only [Prod.mk.injEq, true_and] at h
    subst h
    have hP := pfI_all 31 e
    have hR : ∀ j, j < ls.length → 0 ≤ rd ls j ∧ rd ls j ≤ 31 := by
      unfold allC at e
      rw [foldlM_range_succ] at e
      cases e2 : (List.range 30).foldlM (fun s n => rowC ls (n + 1) (2 * s.1, s.2) ls.length) (0, List.replicate ls.length 0) with
      | error x => rw [e2] at e; cases e
      | ok u =>
        rw [e2] at e
        exact row_rng ls.length e
    refine ⟨hP.len, hR, fun i j hi hj hij h1 h2 => ?_⟩
    exact hP.dis i j ⟨hi, by omega, by have := hR i hi; omega⟩ ⟨hj, by omega, by have := hR j hj; omega⟩ hij (by unfold ln; omega)
theorem growN_out {ws : List Int} {i : Nat} (h : i ∉ flat (knots ws ws.length)) : growN (knots ws ws.length) i = 0 := by
  unfold growN
  split
  · exact if_neg h
  · rcases Nat.eq_zero_or_pos (knots ws ws.length).length with h0 | h0
    · rw [h0]; rfl
    · exact grow_zero ((knots ws ws.length).length - 1) _ _ (by omega) i h
theorem lengths_ok31 {ws L : List Int} (h : lengthsP ws = (0, L)) : L = lengthsN ws ∧ ∀ i, growN (knots ws ws.length) i ≤ 31 := by
  unfold lengthsP at h
  split at h
  · cases h
  · split at h
    · cases h
    · rename_i h1
      simp only [Prod.mk.injEq, true_and] at h
      refine ⟨h.symm, fun i => ?_⟩
      rcases Nat.lt_or_ge i ws.length with hi | hi
      · rcases Nat.lt_or_ge 31 (growN (knots ws ws.length) i) with h9 | h9
        · exfalso
          apply h1
          have hl : i < (lengthsN ws).length := by unfold lengthsN; rw [tab_len]; exact hi
          refine List.any_eq_true.2 ⟨(lengthsN ws)[i], List.getElem_mem _, ?_⟩
          have e : rd (lengthsN ws) i = (growN (knots ws ws.length) i : Int) := by unfold lengthsN; exact tab_rd _ hi
          rw [rd_lt hl] at e
          rw [e]
          simp; omega
        · exact h9
      · rw [growN_out (fun h9 => by have := knots_lt ws ws.length i h9; omega)]; omega
/-- What lengths by weights are. -/
theorem lengths_full {ws L : List Int} (h : lengthsP ws = (0, L)) : L.length = ws.length ∧ (∀ j, j < L.length → 0 ≤ rd L j ∧ rd L j ≤ 31) ∧ kft L 31 ≤ 2147483648 ∧ (∃ O, codesP L = (0, O)) ∧ (AS (fun j => if 1 ≤ ln L j then 1 else 0) L.length < 2 ∨ kft L 31 = 2147483648) := by
  obtain ⟨rfl, h31⟩ := lengths_ok31 h
  have hlen : (lengthsN ws).length = ws.length := by unfold lengthsN; rw [tab_len]
  have hr : ∀ j, j < (lengthsN ws).length → 0 ≤ rd (lengthsN ws) j ∧ rd (lengthsN ws) j ≤ 31 := fun j hj => by
    rw [hlen] at hj
    have e : rd (lengthsN ws) j = (growN (knots ws ws.length) j : Int) := by unfold lengthsN; exact tab_rd _ hj
    have := h31 j
    rw [e]
    omega
  obtain ⟨hk1, hk2⟩ := growN_kft h31
  obtain ⟨O, hO, _⟩ := codes_fit hr hk1
  refine ⟨hlen, hr, hk1, ⟨O, hO⟩, ?_⟩
  rcases Nat.lt_or_ge (knots ws ws.length).length 2 with h9 | h9
  · left
    rw [hlen]
    have := count_le h9
    omega
  · exact .inr (hk2 h9)
end Go.Proofs.Ytnkgagbobihnnaa
