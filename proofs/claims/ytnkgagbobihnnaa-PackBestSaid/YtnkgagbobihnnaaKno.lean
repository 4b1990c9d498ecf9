/-
  Knots, plainly: what the bringing together of the two least ones does to lengths.
-/
import Derived.Test.YtnkgagbobihnnaaHuf
namespace Go.Proofs.Ytnkgagbobihnnaa

theorem huff_perm {l m : List Nat} {c : Nat} (h : l.Perm m) (hc : Huff l c) : Huff m c := by
  cases hc with
  | one w => rw [List.perm_singleton.1 h.symm]; exact Huff.one w
  | step h1 h2 h3 h4 => exact Huff.step (h.symm.trans h1) h2 h3 h4
/-- The place of the first least one. -/
def minAt : List Nat → Nat
  | [] => 0
  | [_] => 0
  | x :: y :: l => if (y :: l).getD (minAt (y :: l)) 0 < x then minAt (y :: l) + 1 else 0
theorem minAt_lt : ∀ (l : List Nat), l ≠ [] → minAt l < l.length
  | [], h => absurd rfl h
  | [_], _ => by simp [minAt]
  | x :: y :: l, _ => by
    have ih := minAt_lt (y :: l) (by simp)
    unfold minAt
    split
    · rw [List.length_cons]; omega
    · simp
theorem minAt_le : ∀ (l : List Nat) (x : Nat), x ∈ l → l.getD (minAt l) 0 ≤ x
  | [], _, h => by cases h
  | [a], x, h => by rw [List.mem_singleton.1 h]; simp [minAt]
  | a :: y :: l, x, h => by
    have ih := minAt_le (y :: l)
    unfold minAt
    by_cases hc : (y :: l).getD (minAt (y :: l)) 0 < a
    · rw [if_pos hc]
      show (y :: l).getD (minAt (y :: l)) 0 ≤ x
      rcases List.mem_cons.1 h with e | e
      · rw [e]; omega
      · exact ih x e
    · rw [if_neg hc]
      show a ≤ x
      rcases List.mem_cons.1 h with e | e
      · rw [e]; exact Nat.le_refl _
      · have := ih x e; omega
/-- Lengths whose codes can be told apart and use up all there is, of one knot. -/
def krF (o : Nat → Nat) (D : Nat) : List Nat → Nat
  | [] => 0
  | i :: l => 2 ^ (D - o i) + krF o D l
theorem krF_app (o : Nat → Nat) (D : Nat) : ∀ (l m : List Nat), krF o D (l ++ m) = krF o D l + krF o D m
  | [], m => by simp [krF]
  | i :: l, m => by
    show 2 ^ (D - o i) + krF o D (l ++ m) = 2 ^ (D - o i) + krF o D l + krF o D m
    rw [krF_app o D l m]; omega
theorem krF_congr {o o' : Nat → Nat} (D : Nat) : ∀ {l : List Nat}, (∀ i, i ∈ l → o i = o' i) → krF o D l = krF o' D l
  | [], _ => rfl
  | i :: l, h => by
    show 2 ^ (D - o i) + krF o D l = 2 ^ (D - o' i) + krF o' D l
    rw [h i List.mem_cons_self, krF_congr D fun j hj => h j (List.mem_cons_of_mem _ hj)]
/-- One more for each. -/
theorem krF_more {o o' : Nat → Nat} (D : Nat) : ∀ {l : List Nat}, (∀ i, i ∈ l → o' i = o i + 1) → krF o' (D + 1) l = krF o D l
  | [], _ => rfl
  | i :: l, h => by
    show 2 ^ (D + 1 - o' i) + krF o' (D + 1) l = 2 ^ (D - o i) + krF o D l
    rw [h i List.mem_cons_self, krF_more D fun j hj => h j (List.mem_cons_of_mem _ hj)]
    congr 2
    omega
/-- A knot that is whole: for each D that reaches, its lengths take all of 2^D. -/
def Full (o : Nat → Nat) (l : List Nat) : Prop := ∀ D, (∀ i, i ∈ l → o i ≤ D) → krF o D l = 2 ^ D
theorem full_one (o : Nat → Nat) (i : Nat) (h : o i = 0) : Full o [i] := by
  intro D _
  show 2 ^ (D - o i) + 0 = 2 ^ D
  rw [h]; rfl
theorem full_both {o o' : Nat → Nat} {l m : List Nat} (hl : Full o l) (hm : Full o m) (hne : l ≠ []) (h : ∀ i, i ∈ l ++ m → o' i = o i + 1) : Full o' (l ++ m) := by
  intro D hD
  have hD1 : 1 ≤ D := by
    cases l with
    | nil => exact absurd rfl hne
    | cons i l => have h1 := hD i (by simp); have h2 := h i (by simp); omega
  obtain ⟨E, rfl⟩ : ∃ E, D = E + 1 := ⟨D - 1, by omega⟩
  rw [krF_more E h, krF_app, hl E (fun i hi => by have h1 := hD i (List.mem_append_left _ hi); have h2 := h i (List.mem_append_left _ hi); omega), hm E (fun i hi => by have h1 := hD i (List.mem_append_right _ hi); have h2 := h i (List.mem_append_right _ hi); omega), Nat.pow_succ]
  omega
abbrev Knot := Nat × List Nat
/-- Takes the two least, the first of several, and puts both behind as one: what is left, and their signs. -/
def stepK (l : List Knot) : List Knot × List Nat :=
  let i := minAt (l.map Prod.fst)
  let a := l.getD i (0, [])
  let l1 := l.eraseIdx i
  let j := minAt (l1.map Prod.fst)
  let b := l1.getD j (0, [])
  (l1.eraseIdx j ++ [(a.1 + b.1, a.2 ++ b.2)], a.2 ++ b.2)
theorem erase_perm {α : Type} {l : List α} {i : Nat} (h : i < l.length) : l.Perm (l[i] :: l.eraseIdx i) := by
  rw [List.eraseIdx_eq_take_drop_succ]
  have e : l = l.take i ++ l[i] :: l.drop (i + 1) := by rw [← List.drop_eq_getElem_cons h, List.take_append_drop]
  exact (List.Perm.of_eq e).trans List.perm_middle
theorem take_least (l : List Knot) (h : l ≠ []) : ∃ a r, l.getD (minAt (l.map Prod.fst)) (0, []) = a ∧ l.eraseIdx (minAt (l.map Prod.fst)) = r ∧ l.Perm (a :: r) ∧ ∀ x, x ∈ l → a.1 ≤ x.1 := by
  have hm := minAt_lt (l.map Prod.fst) (by simpa using h)
  rw [List.length_map] at hm
  refine ⟨_, _, rfl, rfl, ?_, fun x hx => ?_⟩
  · rw [List.getD_eq_getElem?_getD, List.getElem?_eq_getElem hm]
    exact erase_perm hm
  · have h1 := minAt_le (l.map Prod.fst) x.1 (List.mem_map.2 ⟨x, hx, rfl⟩)
    rw [List.getD_eq_getElem?_getD, List.getElem?_map, List.getElem?_eq_getElem hm] at h1
    rw [List.getD_eq_getElem?_getD, List.getElem?_eq_getElem hm]
    exact h1
theorem stepK_two (l : List Knot) (h : 2 ≤ l.length) : ∃ a b r, l.Perm (a :: b :: r) ∧ a.1 ≤ b.1 ∧ (∀ x, x ∈ r → b.1 ≤ x.1) ∧ stepK l = (r ++ [(a.1 + b.1, a.2 ++ b.2)], a.2 ++ b.2) := by
  obtain ⟨a, l1, ha, hl1, hp, hle⟩ := take_least l (by rintro rfl; simp at h)
  have hlen := hp.length_eq
  rw [List.length_cons] at hlen
  obtain ⟨b, r, hb, hr, hp2, hle2⟩ := take_least l1 (by rintro rfl; simp at hlen; omega)
  refine ⟨a, b, r, hp.trans (hp2.cons a), hle b (hp.mem_iff.2 (List.mem_cons_of_mem _ (hp2.mem_iff.2 List.mem_cons_self))), fun x hx => hle2 x (hp2.mem_iff.2 (List.mem_cons_of_mem _ hx)), ?_⟩
  unfold stepK
  simp only [ha, hl1, hb, hr]
theorem stepK_len (l : List Knot) (h : 2 ≤ l.length) : (stepK l).1.length + 1 = l.length := by
  obtain ⟨a, b, r, hp, _, _, he⟩ := stepK_two l h
  rw [he, hp.length_eq]
  simp
/-- The weights: what it costs. -/
theorem stepK_huff (l : List Knot) (h : 2 ≤ l.length) (c : Nat) (hc : Huff ((stepK l).1.map Prod.fst) c) : ∃ a b r, l.Perm (a :: b :: r) ∧ stepK l = (r ++ [(a.1 + b.1, a.2 ++ b.2)], a.2 ++ b.2) ∧ Huff (l.map Prod.fst) (a.1 + b.1 + c) := by
  obtain ⟨a, b, r, hp, h1, h2, he⟩ := stepK_two l h
  refine ⟨a, b, r, hp, he, ?_⟩
  rw [he] at hc
  refine Huff.step (r := r.map Prod.fst) (hp.map Prod.fst) h1 (fun x hx => ?_) (huff_perm ?_ hc)
  · obtain ⟨y, hy, rfl⟩ := List.mem_map.1 hx; exact h2 y hy
  · show ((r ++ [(a.1 + b.1, a.2 ++ b.2)]).map Prod.fst).Perm ((a.1 + b.1) :: r.map Prod.fst)
    rw [List.map_append]
    exact List.perm_append_comm
end Go.Proofs.Ytnkgagbobihnnaa
