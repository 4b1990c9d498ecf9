/-
  Rosters in plain numbers: no program, no memory.
-/
import Derived.Test.YtbfpdahbmdaenaaLib
namespace Go.Proofs.Ytbfpdahbmdaenaa
open Go.RowKit

/-- The nodes of a roster in order, each with what it is: 2 votes, 1 learns. -/
def prs (vs ls : List Int) : List (Int × Int) := vs.map (fun x => (x, 2)) ++ ls.map (fun x => (x, 1))
/-- What a node is; 0: neither. -/
def val (Q : List (Int × Int)) (m : Int) : Int := match Q.find? (fun q => q.1 == m) with | some q => q.2 | none => 0
/-- All unlike, each 0 to 4. -/
def well (Q : List (Int × Int)) : Prop := (Q.map (·.1)).Nodup ∧ ∀ q ∈ Q, 0 ≤ q.1 ∧ q.1 < 5
instance (Q : List (Int × Int)) : Decidable (well Q) := by unfold well; exact inferInstance
def wellB (Q : List (Int × Int)) : Bool := decide (well Q)

theorem prs_pos {vs ls : List Int} {q : Int × Int} (h : q ∈ prs vs ls) : q.2 = 1 ∨ q.2 = 2 := by
  unfold prs at h
  rw [List.mem_append, List.mem_map, List.mem_map] at h
  rcases h with ⟨x, _, rfl⟩ | ⟨x, _, rfl⟩
  · exact .inr rfl
  · exact .inl rfl
theorem prs_length (vs ls : List Int) : (prs vs ls).length = vs.length + ls.length := by simp [prs]

theorem val_zero {Q : List (Int × Int)} (hp : ∀ q ∈ Q, q.2 = 1 ∨ q.2 = 2) (m : Int) : val Q m = 0 ↔ m ∉ Q.map (·.1) := by
  unfold val
  cases h : Q.find? (fun q => q.1 == m) with
  | none =>
    rw [List.find?_eq_none] at h
    simp only [true_iff, List.mem_map, not_exists, not_and]
    intro q hq e
    exact h q hq (by simpa using e)
  | some q =>
    have hm := List.mem_of_find?_eq_some h
    have he := List.find?_some h
    have := hp q hm
    simp only
    constructor
    · intro hz; omega
    · intro hn; exact absurd (List.mem_map.2 ⟨q, hm, by simpa using he⟩) hn

theorem val_snoc {Q : List (Int × Int)} (x v m : Int) (hx : x ∉ Q.map (·.1)) : val (Q ++ [(x, v)]) m = if m = x then v else val Q m := by
  unfold val
  rw [List.find?_append]
  by_cases h : m = x
  · subst h
    have : Q.find? (fun q => q.1 == m) = none := by
      rw [List.find?_eq_none]
      intro q hq e
      exact hx (List.mem_map.2 ⟨q, hq, by simpa using e⟩)
    rw [this]
    simp
  · rw [if_neg h]
    have : [(x, v)].find? (fun q => q.1 == m) = none := by simp; omega
    rw [this]
    simp

theorem val_three (Q : List (Int × Int)) (hp : ∀ q ∈ Q, q.2 = 1 ∨ q.2 = 2) (m : Int) : val Q m = 0 ∨ val Q m = 1 ∨ val Q m = 2 := by
  unfold val
  cases h : Q.find? (fun q => q.1 == m) with
  | none => exact .inl rfl
  | some q => rcases hp q (List.mem_of_find?_eq_some h) with e | e <;> simp [e]

theorem well_nil : well [] := by simp [well]
theorem well_snoc {Q : List (Int × Int)} {x v : Int} : well (Q ++ [(x, v)]) ↔ well Q ∧ 0 ≤ x ∧ x < 5 ∧ x ∉ Q.map (·.1) := by
  unfold well
  rw [List.map_append, List.nodup_append]
  simp only [List.map_cons, List.map_nil, List.mem_append, List.mem_singleton]
  constructor
  · rintro ⟨⟨h1, _, h3⟩, h4⟩
    exact ⟨⟨h1, fun q hq => h4 q (.inl hq)⟩, (h4 _ (.inr rfl)).1, (h4 _ (.inr rfl)).2, fun hm => h3 x hm x rfl rfl⟩
  · rintro ⟨⟨h1, h2⟩, h3, h4, h5⟩
    refine ⟨⟨h1, by simp, ?_⟩, ?_⟩
    · rintro a ha b rfl rfl
      exact h5 ha
    · rintro q (hq | rfl)
      · exact h2 q hq
      · exact ⟨h3, h4⟩
theorem well_append {Q R : List (Int × Int)} (h : well (Q ++ R)) : well Q := by
  unfold well at *
  rw [List.map_append, List.nodup_append] at h
  exact ⟨h.1.1, fun q hq => h.2 q (List.mem_append.2 (.inl hq))⟩
/-- The next one does not fit: all of it can't be. -/
theorem well_stop {P : List (Int × Int)} {t : Nat} {x v : Int} (hx : P[t]? = some (x, v)) (h : ¬ (0 ≤ x ∧ x < 5 ∧ x ∉ (P.take t).map (·.1))) : wellB P = false := by
  unfold wellB
  rw [decide_eq_false_iff_not]
  intro hw
  have ht : t < P.length := (List.getElem?_eq_some_iff.1 hx).1
  rw [← List.take_append_drop (t + 1) P, List.take_succ_eq_append_getElem ht] at hw
  have he : P[t] = (x, v) := (List.getElem?_eq_some_iff.1 hx).2
  rw [he] at hw
  exact h (well_snoc.1 (well_append hw)).2
theorem well_next {P : List (Int × Int)} {t : Nat} {x v : Int} (hx : P[t]? = some (x, v)) (hw : well (P.take t)) (h : 0 ≤ x ∧ x < 5 ∧ x ∉ (P.take t).map (·.1)) : well (P.take (t + 1)) := by
  have ht : t < P.length := (List.getElem?_eq_some_iff.1 hx).1
  have he : P[t] = (x, v) := (List.getElem?_eq_some_iff.1 hx).2
  rw [List.take_succ_eq_append_getElem ht, he]
  exact well_snoc.2 ⟨hw, h⟩
theorem val_next {P : List (Int × Int)} {t : Nat} {x v : Int} (hx : P[t]? = some (x, v)) (h : x ∉ (P.take t).map (·.1)) (m : Int) : val (P.take (t + 1)) m = if m = x then v else val (P.take t) m := by
  have ht : t < P.length := (List.getElem?_eq_some_iff.1 hx).1
  have he : P[t] = (x, v) := (List.getElem?_eq_some_iff.1 hx).2
  rw [List.take_succ_eq_append_getElem ht, he]
  exact val_snoc _ _ _ h

/-- May the roster be? -/
def goodB (vs ls : List Int) : Bool := wellB (prs vs ls) && decide (0 < vs.length)

/-- Five cells. -/
def arr5 (f : Int → Int) : Array Value := #[.int .i64 (f 0), .int .i64 (f 1), .int .i64 (f 2), .int .i64 (f 3), .int .i64 (f 4)]
theorem arr5_get (f : Int → Int) (m : Nat) (h : m < 5) : (arr5 f)[m]? = some (.int .i64 (f m)) := by
  match m, h with
  | 0, _ => rfl
  | 1, _ => rfl
  | 2, _ => rfl
  | 3, _ => rfl
  | 4, _ => rfl
theorem arr5_set (f : Int → Int) (m : Nat) (h : m < 5) (v : Int) : (arr5 f).setIfInBounds m (.int .i64 v) = arr5 (fun i => if i = m then v else f i) := by
  match m, h with
  | 0, _ => rfl
  | 1, _ => rfl
  | 2, _ => rfl
  | 3, _ => rfl
  | 4, _ => rfl
theorem arr5_congr {f g : Int → Int} (h : ∀ m, f m = g m) : arr5 f = arr5 g := by rw [show f = g from funext h]

theorem val_count {vs ls : List Int} (h : well (prs vs ls)) (m : Int) : val (prs vs ls) m = 2 * vs.countP (· == m) + ls.countP (· == m) := by
  have hn : (vs ++ ls).Nodup := by
    have := h.1
    rw [show (prs vs ls).map (·.1) = vs ++ ls by simp [prs, Function.comp_def]] at this
    exact this
  rw [List.nodup_append] at hn
  obtain ⟨n1, n2, n3⟩ := hn
  have c1 : vs.countP (· == m) = if m ∈ vs then 1 else 0 := by
    have := n1.count (a := m)
    unfold List.count at this
    exact this
  have c2 : ls.countP (· == m) = if m ∈ ls then 1 else 0 := by
    have := n2.count (a := m)
    unfold List.count at this
    exact this
  rw [c1, c2]
  unfold val prs
  rw [List.find?_append]
  by_cases h1 : m ∈ vs
  · have : (vs.map (fun x => (x, (2 : Int)))).find? (fun q => q.1 == m) = some (m, 2) := by
      rw [List.find?_map]
      have : vs.find? ((fun q : Int × Int => q.1 == m) ∘ fun x => (x, 2)) = some m := by
        cases hf : vs.find? ((fun q : Int × Int => q.1 == m) ∘ fun x => (x, 2)) with
        | none => rw [List.find?_eq_none] at hf; exact absurd (by simp) (hf m h1)
        | some q => have := List.find?_some hf; simp at this; rw [this]
      rw [this]; rfl
    rw [this]
    have h2 : m ∉ ls := fun h2 => n3 m h1 m h2 rfl
    simp [h1, h2]
  · have : (vs.map (fun x => (x, (2 : Int)))).find? (fun q => q.1 == m) = none := by
      rw [List.find?_eq_none]
      intro q hq
      rw [List.mem_map] at hq
      obtain ⟨x, hx, rfl⟩ := hq
      simp
      rintro rfl
      exact h1 hx
    rw [this]
    by_cases h2 : m ∈ ls
    · have : (ls.map (fun x => (x, (1 : Int)))).find? (fun q => q.1 == m) = some (m, 1) := by
        rw [List.find?_map]
        have : ls.find? ((fun q : Int × Int => q.1 == m) ∘ fun x => (x, 1)) = some m := by
          cases hf : ls.find? ((fun q : Int × Int => q.1 == m) ∘ fun x => (x, 1)) with
          | none => rw [List.find?_eq_none] at hf; exact absurd (by simp) (hf m h2)
          | some q => have := List.find?_some hf; simp at this; rw [this]
        rw [this]; rfl
      rw [this]
      simp [h1, h2]
    · have : (ls.map (fun x => (x, (1 : Int)))).find? (fun q => q.1 == m) = none := by
        rw [List.find?_eq_none]
        intro q hq
        rw [List.mem_map] at hq
        obtain ⟨x, hx, rfl⟩ := hq
        simp
        rintro rfl
        exact h2 hx
      rw [this]
      simp [h1, h2]

end Go.Proofs.Ytbfpdahbmdaenaa
