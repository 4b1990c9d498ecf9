/-
  By no other lengths do weights need fewer bits: plainly.
-/
import Derived.Test.YtnkgagbobihnnaaPfx
namespace Go.Proofs.Ytnkgagbobihnnaa
open Go Go.RowKit

theorem knots_mem (ws : List Int) : ∀ k i, i ∈ flat (knots ws k) ↔ i < k ∧ 0 < rd ws i
  | 0, i => by simp [knots, flat]
  | k + 1, i => by
    have ih := knots_mem ws k i
    unfold knots
    split
    · rename_i h
      rw [flat_app, List.mem_append, ih]
      have : i ∈ flat [((rd ws k).toNat, [k])] ↔ i = k := by simp [flat]
      rw [this]
      constructor
      · rintro (⟨a, b⟩ | rfl)
        · exact ⟨by omega, b⟩
        · exact ⟨by omega, h⟩
      · rintro ⟨a, b⟩
        by_cases hik : i = k
        · exact .inr hik
        · exact .inl ⟨by omega, b⟩
    · rename_i h
      rw [ih]
      constructor
      · rintro ⟨a, b⟩; exact ⟨by omega, b⟩
      · rintro ⟨a, b⟩
        refine ⟨?_, b⟩
        by_cases hik : i = k
        · subst hik; exact absurd b h
        · omega
theorem knots_fst (ws : List Int) : ∀ k, (knots ws k).map Prod.fst = (flat (knots ws k)).map fun i => (rd ws i).toNat
  | 0 => rfl
  | k + 1 => by
    have ih := knots_fst ws k
    unfold knots
    split
    · rw [List.map_append, ih, flat_app, List.map_append]; simp [flat]
    · exact ih
theorem cost_map (w o : Nat → Nat) : ∀ l : List Nat, cost (l.map fun i => (w i, o i)) = costF w o l
  | [] => rfl
  | i :: l => by
    show w i * o i + cost (l.map fun i => (w i, o i)) = w i * o i + costF w o l
    rw [cost_map w o l]
theorem kr_map (w o : Nat → Nat) (D : Nat) : ∀ l : List Nat, kr D (l.map fun i => (w i, o i)) = (l.map fun i => 2 ^ (D - o i)).sum
  | [] => rfl
  | i :: l => by
    show 2 ^ (D - o i) + kr D (l.map fun i => (w i, o i)) = _
    rw [kr_map w o D l, List.map_cons, List.sum_cons]
theorem costF_sum (w o : Nat → Nat) : ∀ l : List Nat, costF w o l = (l.map fun i => w i * o i).sum
  | [] => rfl
  | i :: l => by
    show w i * o i + costF w o l = _
    rw [costF_sum w o l, List.map_cons, List.sum_cons]
theorem costF_zero (w : Nat → Nat) : ∀ l : List Nat, costF w (fun _ => 0) l = 0
  | [] => rfl
  | i :: l => by
    show w i * 0 + costF w (fun _ => 0) l = 0
    rw [costF_zero w l]; rfl
theorem AS_knots (ws : List Int) (f : Nat → Nat) : AS (fun i => if 0 < rd ws i then f i else 0) ws.length = ((flat (knots ws ws.length)).map f).sum := by
  rw [← AS_flat f _ (knots_nodup ws _) ws.length (knots_lt ws _)]
  refine AS_congr fun j hj => ?_
  by_cases h : 0 < rd ws j
  · rw [if_pos h, if_pos ((knots_mem ws _ j).2 ⟨hj, h⟩)]
  · rw [if_neg h, if_neg (fun h9 => h ((knots_mem ws _ j).1 h9).2)]
/-- The law. -/
theorem best_law {ws os L : List Int} (h : lengthsP ws = (0, L)) (ho : ∀ i, i < ws.length → 0 < rd ws i → 1 ≤ ln os i ∧ ln os i ≤ 40) (hr : AS (fun i => if 0 < rd ws i then 2 ^ (40 - ln os i) else 0) ws.length ≤ 2 ^ 40) :
    AS (fun i => if 0 < rd ws i then (rd ws i).toNat * ln L i else 0) ws.length ≤ AS (fun i => if 0 < rd ws i then (rd ws i).toNat * ln os i else 0) ws.length := by
  obtain ⟨rfl, _⟩ := lengths_ok31 h
  have hln : ∀ j, j < ws.length → ln (lengthsN ws) j = growN (knots ws ws.length) j := fun j hj => by
    unfold ln lengthsN
    rw [tab_rd _ hj]; omega
  have e1 : AS (fun i => if 0 < rd ws i then (rd ws i).toNat * ln (lengthsN ws) i else 0) ws.length = AS (fun i => if 0 < rd ws i then (rd ws i).toNat * growN (knots ws ws.length) i else 0) ws.length := AS_congr fun j hj => by rw [hln j hj]
  rw [e1, AS_knots ws (fun i => (rd ws i).toNat * growN (knots ws ws.length) i), AS_knots ws (fun i => (rd ws i).toNat * ln os i), ← costF_sum, ← costF_sum]
  rw [AS_knots ws (fun i => 2 ^ (40 - ln os i)), ← kr_map (fun i => (rd ws i).toNat)] at hr
  have hfl := knots_flat ws ws.length
  have hof : ∀ i, i ∈ flat (knots ws ws.length) → 1 ≤ ln os i ∧ ln os i ≤ 40 := fun i hi => by
    obtain ⟨a, b⟩ := (knots_mem ws _ i).1 hi
    exact ho i a b
  rcases Nat.eq_zero_or_pos (knots ws ws.length).length with h0 | h0
  · have : flat (knots ws ws.length) = [] := List.eq_nil_of_length_eq_zero (by omega)
    rw [this]
    exact Nat.le_refl _
  · by_cases h1 : (knots ws ws.length).length = 1
    · obtain ⟨k, hk⟩ : ∃ k, flat (knots ws ws.length) = [k] := List.length_eq_one_iff.1 (by omega)
      have hok := hof k (by rw [hk]; simp)
      rw [hk]
      have hg : growN (knots ws ws.length) k = 1 := by
        unfold growN
        rw [if_pos h1, hk]
        simp
      show (rd ws k).toNat * growN (knots ws ws.length) k + 0 ≤ (rd ws k).toNat * ln os k + 0
      rw [hg]
      exact Nat.add_le_add_right (Nat.mul_le_mul_left _ hok.1) 0
    · obtain ⟨n, hn⟩ : ∃ n, (knots ws ws.length).length = n + 1 := ⟨(knots ws ws.length).length - 1, by omega⟩
      obtain ⟨c, hc, hcost, _⟩ := grow_all (fun i => (rd ws i).toNat) n (knots ws ws.length) (fun _ => 0) hn (growN_kft.knots_inv ws _)
      have hgo : growN (knots ws ws.length) = grow n (knots ws ws.length) (fun _ => 0) := by
        unfold growN
        rw [if_neg h1, hn, Nat.add_sub_cancel]
      rw [← hgo, costF_zero, Nat.zero_add] at hcost
      rw [hcost, ← cost_map]
      refine huff_le hc 40 _ ?_ ?_ hr
      · rw [knots_fst, List.map_map]
        exact List.Perm.refl _
      · intro p hp
        obtain ⟨i, hi, rfl⟩ := List.mem_map.1 hp
        exact (hof i hi).2
end Go.Proofs.Ytnkgagbobihnnaa
