/-
  What may come behind a roster, in plain numbers, on.
-/
import Derived.Test.YtbfpdahbmdaenaaPlain2
import Derived.Test.YtbfpdahbmdaenaaFind
namespace Go.Proofs.Ytbfpdahbmdaenaa
open Go.RowKit

theorem val_two (vs ls : List Int) (m : Int) : val (prs vs ls) m = 2 ↔ m ∈ vs := by
  unfold val prs
  rw [List.find?_append]
  cases h : (vs.map (fun x => (x, (2 : Int)))).find? (fun q => q.1 == m) with
  | some q =>
    have hm := List.mem_of_find?_eq_some h
    have he := List.find?_some h
    rw [List.mem_map] at hm
    obtain ⟨x, hx, rfl⟩ := hm
    have : x = m := by simpa using he
    subst this
    simp [hx]
  | none =>
    rw [List.find?_eq_none] at h
    have hn : m ∉ vs := fun hm => h (m, 2) (List.mem_map.2 ⟨m, hm, rfl⟩) (by simp)
    simp only [hn, iff_false, Option.none_or]
    cases h2 : (ls.map (fun x => (x, (1 : Int)))).find? (fun q => q.1 == m) with
    | none => simp
    | some q =>
      have hm := List.mem_of_find?_eq_some h2
      rw [List.mem_map] at hm
      obtain ⟨x, hx, rfl⟩ := hm
      simp

/-- 1 for a voter. -/
def vot (vs : List Int) (m : Int) : Int := if inB vs m then 1 else 0
theorem vot_ne {vs vs' : List Int} {m : Int} : vot vs m = vot vs' m ↔ inB vs m = inB vs' m := by
  unfold vot
  cases inB vs m <;> cases inB vs' m <;> simp
theorem vot_val {vs ls vs' ls' : List Int} {m : Int} (h : val (prs vs ls) m = val (prs vs' ls') m) : vot vs m = vot vs' m := by
  rw [vot_ne, Bool.eq_iff_iff, inB_iff, inB_iff, ← val_two vs ls, ← val_two vs' ls', h]
theorem dif_mono {f g F G : Int → Int} (h : ∀ m, f m = g m → F m = G m) (k : Nat) : dif F G k ≤ dif f g k := by
  induction k with
  | zero => exact Nat.le_refl _
  | succ k ih =>
    rw [dif, dif]
    by_cases hk : f k = g k
    · rw [if_pos hk, if_pos (h _ hk)]; exact ih
    · rw [if_neg hk]; split <;> omega

theorem errM_ok {vs ls vs' ls' : List Int} (h : errM vs ls vs' ls' = 0) : goodB vs ls = true ∧ goodB vs' ls' = true ∧ dif (val (prs vs ls)) (val (prs vs' ls')) 5 = 1 ∧ ¬ jump (val (prs vs ls)) (val (prs vs' ls')) 5 := by
  unfold errM at h
  cases h1 : goodB vs ls <;> cases h2 : goodB vs' ls' <;> simp [h1, h2] at h
  unfold mayOf at h
  split at h
  · cases h
  · rename_i hj
    split at h
    · rename_i hd; exact ⟨rfl, rfl, hd, hj⟩
    · cases h
theorem one_le {vs ls vs' ls' : List Int} (h : errM vs ls vs' ls' = 0) : dif (vot vs) (vot vs') 5 ≤ 1 := by
  obtain ⟨_, _, h3, _⟩ := errM_ok h
  have := dif_mono (F := vot vs) (G := vot vs') (fun m hm => vot_val hm : ∀ m, val (prs vs ls) m = val (prs vs' ls') m → vot vs m = vot vs' m) 5
  omega
theorem dif_self (f : Int → Int) (k : Nat) : dif f f k = 0 := by
  induction k with
  | zero => rfl
  | succ k ih => rw [dif, ih, if_pos rfl]
theorem errM_self {vs ls : List Int} (h : goodB vs ls = true) : errM vs ls vs ls = 111 := by
  unfold errM mayOf
  rw [h]
  simp only [Bool.and_self, if_true]
  split
  · rfl
  · rw [dif_self]; rfl

end Go.Proofs.Ytbfpdahbmdaenaa
