/-
  Of: the tree of pairs.
-/
import Derived.Test.YtcmkjoepndbicaaSrt
namespace Go.Proofs.Ytcmkjoepndbicaa
open Go Go.RowKit

def keysP (l : List Pr) : List (List UInt8) := l.map keyP
/-- A pair put among others: in the place of its key, or behind. -/
def putP (ps : List Pr) (p : Pr) : List Pr := if keyP p ∈ keysP ps then ps.set ((keysP ps).idxOf (keyP p)) p else ps ++ [p]
def ofU (l : List Pr) : List Pr := l.foldl putP []
/-- The pairs of a map, by rising keys; of one key the last one. -/
def ofP (l : List Pr) : List Pr := (ofU l).mergeSort leP
theorem ofU_succ (l : List Pr) {k : Nat} {x : Pr} (hx : l[k]? = some x) : ofU (l.take (k + 1)) = putP (ofU (l.take k)) x := by
  unfold ofU
  rw [List.take_add_one, hx, List.foldl_append]
  rfl
theorem keys_put (ps : List Pr) (p : Pr) : keysP (putP ps p) = if keyP p ∈ keysP ps then keysP ps else keysP ps ++ [keyP p] := by
  unfold putP
  by_cases h : keyP p ∈ keysP ps
  · rw [if_pos h, if_pos h]
    unfold keysP
    rw [List.map_set]
    apply List.ext_getElem (by simp)
    intro i h1 h2
    rw [List.getElem_set]
    by_cases hi : (List.map keyP ps).idxOf (keyP p) = i
    · subst hi
      rw [if_pos rfl]
      exact (List.getElem_idxOf h2).symm
    · rw [if_neg hi]
  · rw [if_neg h, if_neg h]
    simp [keysP]
theorem nodup_put (ps : List Pr) (p : Pr) (h : (keysP ps).Nodup) : (keysP (putP ps p)).Nodup := by
  rw [keys_put]
  by_cases hm : keyP p ∈ keysP ps
  · rw [if_pos hm]; exact h
  · rw [if_neg hm]
    exact List.nodup_append.2 ⟨h, by simp, fun a ha b hb => by simp at hb; subst hb; exact fun e => hm (e ▸ ha)⟩
theorem len_put (ps : List Pr) (p : Pr) : (putP ps p).length ≤ ps.length + 1 := by
  unfold putP
  split <;> simp
theorem mem_put (ps : List Pr) (p q : Pr) (h : q ∈ putP ps p) : q ∈ ps ∨ q = p := by
  unfold putP at h
  split at h
  · exact List.mem_or_eq_of_mem_set h
  · simpa using h
theorem ofU_len (l : List Pr) : ∀ k, k ≤ l.length → (ofU (l.take k)).length ≤ k := by
  intro k
  induction k with
  | zero => intro _; simp [ofU]
  | succ k ih =>
    intro hk
    rw [ofU_succ l (List.getElem?_eq_getElem (show k < l.length by omega))]
    have := len_put (ofU (l.take k)) l[k]
    have := ih (by omega)
    omega
theorem ofU_nodup (l : List Pr) : ∀ k, k ≤ l.length → (keysP (ofU (l.take k))).Nodup := by
  intro k
  induction k with
  | zero => intro _; simp [ofU, keysP]
  | succ k ih =>
    intro hk
    rw [ofU_succ l (List.getElem?_eq_getElem (show k < l.length by omega))]
    exact nodup_put _ _ (ih (by omega))
theorem ofU_mem (l : List Pr) : ∀ k, k ≤ l.length → ∀ q ∈ ofU (l.take k), q ∈ l := by
  intro k
  induction k with
  | zero => intro _ q hq; simp [ofU] at hq
  | succ k ih =>
    intro hk q hq
    rw [ofU_succ l (List.getElem?_eq_getElem (show k < l.length by omega))] at hq
    rcases mem_put _ _ _ hq with h | rfl
    · exact ih (by omega) q h
    · exact List.getElem_mem _
/-- A pair stored over another one. -/
theorem OwnP.set {w : World} {base g n c i : Nat} {l : List Pr} (h : OwnP w base (.slice (some ⟨g, 0, none⟩) n c) l) (hi : i < l.length) (p : Pr) :
    OwnP ((w.setCell ⟨g, i * 2, none⟩ (.string p.1)).setCell ⟨g, i * 2 + 1, none⟩ (.string p.2)) base (.slice (some ⟨g, 0, none⟩) n c) (l.set i p) := by
  unfold OwnP at *
  rw [List.length_set]
  refine ⟨by rw [pvs_len, List.length_set], ?_⟩
  rcases h.2 with ⟨e, _⟩ | ⟨g', cap, cur, hv, hb, hh, h1, h2, h3, h4⟩
  · cases e
  · cases hv
    refine .inr ⟨g, c, _, rfl, hb, blk_set _ (blk_set _ hh), h1, h2, by simp [h3], ?_⟩
    apply List.ext_getElem?
    intro t
    have h5 : (cur.toList.take (l.length * 2))[t]? = (pvs l)[t]? := by rw [h4]
    by_cases ht : t < l.length * 2
    · rw [List.getElem?_take_of_lt ht, Array.getElem?_toList, Array.getElem?_setIfInBounds, Array.getElem?_setIfInBounds]
      rw [List.getElem?_take_of_lt ht, Array.getElem?_toList] at h5
      obtain ⟨y, hy⟩ : ∃ y, (l.set i p)[t / 2]? = some y := ⟨_, List.getElem?_eq_getElem (by rw [List.length_set]; omega)⟩
      obtain ⟨e1, e2⟩ := pvs_get hy
      obtain ⟨x, hx⟩ : ∃ x, l[t / 2]? = some x := ⟨_, List.getElem?_eq_getElem (by omega)⟩
      obtain ⟨d1, d2⟩ := pvs_get hx
      rw [List.getElem?_set] at hy
      rcases Nat.mod_two_eq_zero_or_one t with hm | hm
      · rw [show t = t / 2 * 2 by omega] at h5 ⊢
        rw [e1, if_neg (by omega)]
        by_cases hit : i = t / 2
        · rw [if_pos hit, if_pos (by omega)] at hy
          cases hy
          rw [if_pos (by omega), if_pos (by omega)]
        · rw [if_neg hit, hx] at hy
          cases hy
          rw [if_neg (by omega), h5, d1]
      · rw [show t = t / 2 * 2 + 1 by omega] at h5 ⊢
        rw [e2]
        by_cases hit : i = t / 2
        · rw [if_pos hit, if_pos (by omega)] at hy
          cases hy
          rw [if_pos (by omega), if_pos (by simp; omega)]
        · rw [if_neg hit, hx] at hy
          cases hy
          rw [if_neg (by omega), if_neg (by omega), h5, d2]
    · rw [List.getElem?_take_eq_none (by omega), List.getElem?_eq_none (by rw [pvs_len, List.length_set]; omega)]
end Go.Proofs.Ytcmkjoepndbicaa
