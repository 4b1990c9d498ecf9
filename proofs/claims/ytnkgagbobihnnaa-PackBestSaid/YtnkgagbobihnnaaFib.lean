/-
  A long code wants a great weight, plainly.
-/
import Derived.Test.YtnkgagbobihnnaaLgp
namespace Go.Proofs.Ytnkgagbobihnnaa

def fib : Nat → Nat
  | 0 => 0
  | 1 => 1
  | n + 2 => fib n + fib (n + 1)
theorem fib_mono (n : Nat) : fib n ≤ fib (n + 1) := by
  cases n with
  | zero => decide
  | succ n => show fib (n + 1) ≤ fib n + fib (n + 1); omega
theorem fib_le {m n : Nat} (h : m ≤ n) : fib m ≤ fib n := by
  induction n with
  | zero => obtain rfl : m = 0 := by omega
            exact Nat.le_refl _
  | succ n ih =>
    rcases Nat.eq_or_lt_of_le h with e | e
    · rw [e]; exact Nat.le_refl _
    · exact Nat.le_trans (ih (by omega)) (fib_mono n)
/-- Each knot with the greater weight of the two that it was made of. -/
structure FI (o : Nat → Nat) (cs : List (Knot × Nat)) : Prop where
  pw : cs.Pairwise (fun x y => x.2 ≤ y.1.1 ∧ y.2 ≤ x.1.1)
  pos : ∀ x, x ∈ cs → 1 ≤ x.1.1
  at_ : ∀ x, x ∈ cs → ∀ i, i ∈ x.1.2 → fib (o i + 2) ≤ x.1.1 ∧ (1 ≤ o i → fib (o i + 1) ≤ x.2)
theorem FI.perm {o : Nat → Nat} {cs ds : List (Knot × Nat)} (h : FI o cs) (hp : cs.Perm ds) : FI o ds :=
  ⟨(hp.pairwise_iff (fun {_ _} h9 => ⟨h9.2, h9.1⟩)).1 h.pw, fun x hx => h.pos x (hp.mem_iff.2 hx), fun x hx => h.at_ x (hp.mem_iff.2 hx)⟩
/-- The same of knots. -/
def FK (o : Nat → Nat) (l : List Knot) : Prop := ∃ cs, FI o cs ∧ (cs.map Prod.fst).Perm l
theorem perm_map_cons {α β : Type} {f : α → β} : ∀ {cs : List α} {a : β} {r : List β}, (cs.map f).Perm (a :: r) → ∃ x cs', cs.Perm (x :: cs') ∧ f x = a ∧ (cs'.map f).Perm r := by
  intro cs a r h
  have hm : a ∈ cs.map f := h.mem_iff.2 List.mem_cons_self
  obtain ⟨x, hx, e⟩ := List.mem_map.1 hm
  obtain ⟨cs', hp⟩ := perm_of_mem hx
  refine ⟨x, cs', hp, e, ?_⟩
  have h1 : (f x :: cs'.map f).Perm (a :: r) := ((hp.map f).symm.trans h)
  rw [e] at h1
  exact List.Perm.cons_inv h1
theorem FK.step {o : Nat → Nat} {l : List Knot} (h : FK o l) (hnd : (flat l).Nodup) (h2 : 2 ≤ l.length) : FK (more o (stepK l).2) (stepK l).1 := by
  obtain ⟨a, b, r, hp, hab, hr, he⟩ := stepK_two l h2
  obtain ⟨cs, hI, hc⟩ := h
  obtain ⟨x, cs1, p1, e1, q1⟩ := perm_map_cons (hc.trans hp)
  obtain ⟨y, cs2, p2, e2, q2⟩ := perm_map_cons q1
  have hJ := hI.perm (p1.trans (p2.cons x))
  have hpw := List.pairwise_cons.1 hJ.pw
  have hpw2 := List.pairwise_cons.1 hpw.2
  have hxy := hpw.1 y List.mem_cons_self
  have ha1 := hJ.pos x List.mem_cons_self
  have hb1 := hJ.pos y (List.mem_cons_of_mem _ List.mem_cons_self)
  have hfl : (flat l).Perm (a.2 ++ (b.2 ++ flat r)) := by
    have e : flat (a :: b :: r) = a.2 ++ (b.2 ++ flat r) := by simp [flat]
    rw [← e]; exact flat_perm hp
  have hnd2 := hfl.nodup_iff.1 hnd
  have hdis : ∀ i, i ∈ flat r → i ∉ a.2 ++ b.2 := fun i hi h9 => by
    rw [← List.append_assoc] at hnd2
    exact (List.nodup_append.1 hnd2).2.2 i h9 i hi rfl
  have hs1 : (stepK l).1 = r ++ [(a.1 + b.1, a.2 ++ b.2)] := by rw [he]
  have hs2 : (stepK l).2 = a.2 ++ b.2 := by rw [he]
  refine ⟨((a.1 + b.1, a.2 ++ b.2), b.1) :: cs2, ⟨List.pairwise_cons.2 ⟨fun z hz => ?_, hpw2.2⟩, fun z hz => ?_, fun z hz i hi => ?_⟩, ?_⟩
  · have hzr : z.1 ∈ r := q2.mem_iff.1 (List.mem_map.2 ⟨z, hz, rfl⟩)
    have h1 := hpw.1 z (List.mem_cons_of_mem _ hz)
    rw [e1] at h1
    exact ⟨hr _ hzr, by show z.2 ≤ a.1 + b.1; omega⟩
  · rcases List.mem_cons.1 hz with rfl | hz
    · show 1 ≤ a.1 + b.1
      rw [e1] at ha1; omega
    · exact hJ.pos z (List.mem_cons_of_mem _ (List.mem_cons_of_mem _ hz))
  · rcases List.mem_cons.1 hz with rfl | hz
    · have hi' : i ∈ a.2 ++ b.2 := hi
      rw [hs2]
      have hm : more o (a.2 ++ b.2) i = o i + 1 := by unfold more; rw [if_pos hi']
      rw [hm]
      show fib (o i + 1 + 2) ≤ a.1 + b.1 ∧ (1 ≤ o i + 1 → fib (o i + 2) ≤ b.1)
      have ef : fib (o i + 1 + 2) = fib (o i + 1) + fib (o i + 2) := rfl
      rw [ef]
      rw [e1] at ha1
      rw [e2] at hb1
      rw [e1, e2] at hxy
      have hf1 : o i = 0 → fib (o i + 1) = 1 := fun h9 => by rw [h9]; rfl
      rcases List.mem_append.1 hi' with h9 | h9
      · obtain ⟨g1, g2⟩ := hJ.at_ x List.mem_cons_self i (by rw [e1]; exact h9)
        rw [e1] at g1
        rcases Nat.eq_zero_or_pos (o i) with h0 | h0
        · have := hf1 h0; exact ⟨by omega, fun _ => by omega⟩
        · have := g2 h0; exact ⟨by omega, fun _ => by omega⟩
      · obtain ⟨g1, g2⟩ := hJ.at_ y (List.mem_cons_of_mem _ List.mem_cons_self) i (by rw [e2]; exact h9)
        rw [e2] at g1
        rcases Nat.eq_zero_or_pos (o i) with h0 | h0
        · have := hf1 h0; exact ⟨by omega, fun _ => by omega⟩
        · have := g2 h0; exact ⟨by omega, fun _ => by omega⟩
    · have hzr : z.1 ∈ r := q2.mem_iff.1 (List.mem_map.2 ⟨z, hz, rfl⟩)
      have hm : more o (stepK l).2 i = o i := by
        unfold more
        rw [hs2, if_neg (hdis i (List.mem_flatMap.2 ⟨z.1, hzr, hi⟩))]
      rw [hm]
      exact hJ.at_ z (List.mem_cons_of_mem _ (List.mem_cons_of_mem _ hz)) i hi
  · rw [hs1]
    show ((a.1 + b.1, a.2 ++ b.2) :: cs2.map Prod.fst).Perm (r ++ [(a.1 + b.1, a.2 ++ b.2)])
    exact (q2.cons _).trans (List.perm_append_comm (l₁ := [(a.1 + b.1, a.2 ++ b.2)]) (l₂ := r))
theorem grow_fib : ∀ (n : Nat) (l : List Knot) (o : Nat → Nat), l.length = n + 1 → FK o l → (flat l).Nodup → ∀ i, i ∈ flat l → fib (grow n l o i + 2) ≤ wsum l
  | 0, l, o, hl, h, _, i, hi => by
    obtain ⟨cs, hI, hp⟩ := h
    obtain ⟨k, hk, hik⟩ := List.mem_flatMap.1 hi
    obtain ⟨x, hx, e⟩ := List.mem_map.1 (hp.mem_iff.2 hk)
    have h1 := (hI.at_ x hx i (by rw [e]; exact hik)).1
    obtain ⟨k', rfl⟩ : ∃ k', l = [k'] := List.length_eq_one_iff.1 hl
    have e2 := List.mem_singleton.1 hk
    rw [e, e2] at h1
    show fib (o i + 2) ≤ wsum [k']
    have e3 : wsum [k'] = k'.1 := by simp [wsum]
    rw [e3]; exact h1
  | n + 1, l, o, hl, h, hnd, i, hi => by
    obtain ⟨f1, f2, _, _⟩ := stepK_flat (l := l) (by omega)
    have hlen := stepK_len l (by omega)
    have := grow_fib n (stepK l).1 (more o (stepK l).2) (by omega) (h.step hnd (by omega)) (f1.nodup_iff.2 hnd) i (f1.mem_iff.2 hi)
    rw [f2] at this
    exact this
theorem grow_zero : ∀ (n : Nat) (l : List Knot) (o : Nat → Nat), l.length = n + 1 → ∀ i, i ∉ flat l → grow n l o i = o i
  | 0, _, _, _, _, _ => rfl
  | n + 1, l, o, hl, i, hi => by
    obtain ⟨f1, f2, r, f3⟩ := stepK_flat (l := l) (by omega)
    have hlen := stepK_len l (by omega)
    show grow n (stepK l).1 (more o (stepK l).2) i = o i
    rw [grow_zero n _ _ (by omega) i (fun h9 => hi (f1.mem_iff.1 h9))]
    unfold more
    rw [if_neg (fun h9 => hi (f3.mem_iff.2 (List.mem_append_left _ h9)))]
theorem fk_start (ws : List Int) : ∀ k, FK (fun _ => 0) (knots ws k) := by
  intro k
  refine ⟨(knots ws k).map fun x => (x, 0), ⟨?_, fun x hx => ?_, fun x hx i hi => ?_⟩, ?_⟩
  · rw [List.pairwise_map]
    exact List.pairwise_of_forall (fun _ _ => ⟨Nat.zero_le _, Nat.zero_le _⟩)
  · obtain ⟨y, hy, rfl⟩ := List.mem_map.1 hx
    exact knots_pos ws k y hy
  · obtain ⟨y, hy, rfl⟩ := List.mem_map.1 hx
    exact ⟨knots_pos ws k y hy, fun h => absurd h (by omega)⟩
  · rw [List.map_map]
    have : (Prod.fst ∘ fun x : Knot => (x, 0)) = id := rfl
    rw [this, List.map_id]
where
  knots_pos (ws : List Int) : ∀ k y, y ∈ knots ws k → 1 ≤ y.1
    | 0, y, h => by cases h
    | k + 1, y, h => by
      unfold knots at h
      split at h
      · rename_i h1
        rcases List.mem_append.1 h with h | h
        · exact knots_pos ws k y h
        · rw [List.mem_singleton.1 h]
          show 1 ≤ (rd ws k).toNat
          omega
      · exact knots_pos ws k y h
/-- Lengths by weights that are not too many are short. -/
theorem growN_le {ws : List Int} {s : Nat} (hs : sumOK ws ws.length = some s) (h : s < 2178309) : ∀ i, growN (knots ws ws.length) i ≤ 29 := by
  intro i
  have hsum := knots_sum hs
  unfold growN
  split
  · show (if i ∈ flat (knots ws ws.length) then 1 else 0) ≤ 29
    split <;> omega
  · rename_i h1
    rcases Nat.eq_zero_or_pos (knots ws ws.length).length with h0 | h0
    · rw [h0]; exact Nat.zero_le _
    · by_cases hi : i ∈ flat (knots ws ws.length)
      · have h2 := grow_fib ((knots ws ws.length).length - 1) (knots ws ws.length) (fun _ => 0) (by omega) (fk_start ws _) (knots_nodup ws _) i hi
        rw [hsum] at h2
        rcases Nat.lt_or_ge 29 (grow ((knots ws ws.length).length - 1) (knots ws ws.length) (fun _ => 0) i) with h3 | h3
        · exfalso
          have h4 := fib_le (show 32 ≤ grow ((knots ws ws.length).length - 1) (knots ws ws.length) (fun _ => 0) i + 2 by omega)
          have h5 : fib 32 = 2178309 := by decide +kernel
          omega
        · exact h3
      · rw [grow_zero _ _ _ (by omega) i hi]; omega
end Go.Proofs.Ytnkgagbobihnnaa
