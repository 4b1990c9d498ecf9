/-
  Codes by weights, plainly: whoever brings the two least weights together each time needs fewest bits.
-/
namespace Go.Proofs.Ytnkgagbobihnnaa

/-- What weights cost by lengths, and how much of 2^D the lengths take. -/
def cost : List (Nat × Nat) → Nat
  | [] => 0
  | p :: l => p.1 * p.2 + cost l
def kr (D : Nat) : List (Nat × Nat) → Nat
  | [] => 0
  | p :: l => 2 ^ (D - p.2) + kr D l

theorem cost_perm {l m : List (Nat × Nat)} (h : l.Perm m) : cost l = cost m := by
  induction h with
  | nil => rfl
  | cons x _ ih => simp only [cost, ih]
  | swap x y l => simp only [cost]; omega
  | trans _ _ h1 h2 => exact h1.trans h2

theorem kr_perm (D : Nat) {l m : List (Nat × Nat)} (h : l.Perm m) : kr D l = kr D m := by
  induction h with
  | nil => rfl
  | cons x _ ih => simp only [kr, ih]
  | swap x y l => simp only [kr]; omega
  | trans _ _ h1 h2 => exact h1.trans h2

/-- What it costs to bring the two least together each time. -/
inductive Huff : List Nat → Nat → Prop
  | one (w : Nat) : Huff [w] 0
  | step {ws : List Nat} {a b : Nat} {r : List Nat} {c : Nat} : ws.Perm (a :: b :: r) → a ≤ b → (∀ x, x ∈ r → b ≤ x) → Huff ((a + b) :: r) c → Huff ws (a + b + c)

theorem longest : ∀ (l : List (Nat × Nat)), l ≠ [] → ∃ p, p ∈ l ∧ ∀ q, q ∈ l → q.2 ≤ p.2
  | [], h => absurd rfl h
  | [p], _ => ⟨p, List.mem_cons_self, fun q hq => by rw [List.mem_singleton.1 hq]; exact Nat.le_refl _⟩
  | p :: p' :: l, _ => by
    obtain ⟨m, hm, hq⟩ := longest (p' :: l) (by simp)
    rcases Nat.le_total p.2 m.2 with h | h
    · refine ⟨m, List.mem_cons_of_mem _ hm, fun q h' => ?_⟩
      rcases List.mem_cons.1 h' with e | e
      · rw [e]; exact h
      · exact hq q e
    · refine ⟨p, List.mem_cons_self, fun q h' => ?_⟩
      rcases List.mem_cons.1 h' with e | e
      · rw [e]; exact Nat.le_refl _
      · exact Nat.le_trans (hq q e) h

theorem perm_of_mem {α : Type} {x : α} {l : List α} (h : x ∈ l) : ∃ m, l.Perm (x :: m) := by
  obtain ⟨s, t, rfl⟩ := List.append_of_mem h
  exact ⟨s ++ t, List.perm_middle⟩

/-- The least weight may have the greatest length. -/
theorem swap_one {x : Nat} {ws : List Nat} {L : List (Nat × Nat)} (hw : (L.map Prod.fst).Perm (x :: ws)) (hx : ∀ y, y ∈ ws → x ≤ y) :
    ∃ q R, (R.map Prod.fst).Perm ws ∧ cost ((x, q) :: R) ≤ cost L ∧ (∀ D, kr D ((x, q) :: R) = kr D L) ∧ (∀ p, p ∈ R → p.2 ≤ q) ∧
      (∀ D, (∀ p, p ∈ L → p.2 ≤ D) → q ≤ D ∧ ∀ p, p ∈ R → p.2 ≤ D) := by
  have hm : x ∈ L.map Prod.fst := hw.mem_iff.2 List.mem_cons_self
  obtain ⟨⟨x', p⟩, hp, rfl⟩ := List.mem_map.1 hm
  obtain ⟨L1, h1⟩ := perm_of_mem hp
  have hw1 : (L1.map Prod.fst).Perm ws := by
    have := (h1.map Prod.fst).symm.trans hw
    exact List.Perm.cons_inv this
  by_cases hall : ∀ q, q ∈ L1 → q.2 ≤ p
  · refine ⟨p, L1, hw1, ?_, fun D => (kr_perm D h1).symm, hall, fun D hD => ⟨hD _ hp, fun q hq => hD q (h1.mem_iff.2 (List.mem_cons_of_mem _ hq))⟩⟩
    rw [cost_perm h1]; exact Nat.le_refl _
  · have hne : L1 ≠ [] := by
      rintro rfl
      exact hall (fun q hq => by cases hq)
    obtain ⟨⟨y, q⟩, hq, hmax⟩ := longest L1 hne
    have hpq : p < q := by
      rcases Nat.lt_or_ge p q with h | h
      · exact h
      · exact absurd (fun r hr => Nat.le_trans (hmax r hr) h) hall
    obtain ⟨R0, h2⟩ := perm_of_mem hq
    have h3 : L.Perm ((x', p) :: (y, q) :: R0) := h1.trans (List.Perm.cons _ h2)
    have hxy : x' ≤ y := hx y (hw1.mem_iff.1 (List.mem_map.2 ⟨(y, q), hq, rfl⟩))
    refine ⟨q, (y, p) :: R0, ?_, ?_, ?_, ?_, ?_⟩
    · exact ((h2.map Prod.fst).symm.trans hw1)
    · rw [cost_perm h3]
      show x' * q + (y * p + cost R0) ≤ x' * p + (y * q + cost R0)
      obtain ⟨d, rfl⟩ : ∃ d, q = p + d := ⟨q - p, by omega⟩
      have : x' * d ≤ y * d := Nat.mul_le_mul_right _ hxy
      rw [Nat.mul_add, Nat.mul_add]
      omega
    · intro D
      rw [kr_perm D h3]
      show 2 ^ (D - q) + (2 ^ (D - p) + kr D R0) = 2 ^ (D - p) + (2 ^ (D - q) + kr D R0)
      omega
    · intro r hr
      rcases List.mem_cons.1 hr with e | e
      · rw [e]; exact Nat.le_of_lt hpq
      · exact hmax r (h2.mem_iff.2 (List.mem_cons_of_mem _ e))
    · intro D hD
      have hq' : q ≤ D := hD (y, q) (h3.mem_iff.2 (List.mem_cons_of_mem _ List.mem_cons_self))
      refine ⟨hq', fun r hr => ?_⟩
      rcases List.mem_cons.1 hr with e | e
      · rw [e]; exact Nat.le_trans (Nat.le_of_lt hpq) hq'
      · exact hD r (h3.mem_iff.2 (List.mem_cons_of_mem _ (List.mem_cons_of_mem _ e)))

theorem kr_dvd (D q : Nat) (hq : q ≤ D) : ∀ (l : List (Nat × Nat)), (∀ p, p ∈ l → p.2 ≤ q) → ∃ s, kr D l = s * 2 ^ (D - q)
  | [], _ => ⟨0, by simp [kr]⟩
  | p :: l, h => by
    obtain ⟨s, hs⟩ := kr_dvd D q hq l fun x hx => h x (List.mem_cons_of_mem _ hx)
    have hp : p.2 ≤ q := h p List.mem_cons_self
    refine ⟨2 ^ (q - p.2) + s, ?_⟩
    show 2 ^ (D - p.2) + kr D l = _
    rw [hs, Nat.add_mul, ← Nat.pow_add]
    congr 2
    omega

/-- By no lengths that fit do the weights need fewer bits. -/
theorem huff_le {ws : List Nat} {c : Nat} (h : Huff ws c) : ∀ (D : Nat) (L : List (Nat × Nat)), (L.map Prod.fst).Perm ws → (∀ p, p ∈ L → p.2 ≤ D) → kr D L ≤ 2 ^ D → c ≤ cost L := by
  induction h with
  | one w => intros; exact Nat.zero_le _
  | @step ws a b r c hp hab hr hc ih =>
    intro D L hL hD hk
    have ha : ∀ y, y ∈ b :: r → a ≤ y := by
      intro y hy
      rcases List.mem_cons.1 hy with e | e
      · rw [e]; exact hab
      · exact Nat.le_trans hab (hr y e)
    obtain ⟨q, R, h1, h2, h3, h4, h5⟩ := swap_one (hL.trans hp) ha
    obtain ⟨q2, R2, g1, g2, g3, g4, g5⟩ := swap_one h1 hr
    have hqD := (h5 D hD).1
    have hq2 : q2 ≤ q := (g5 q h4).1
    have hk1 : 2 ^ (D - q) + (2 ^ (D - q2) + kr D R2) ≤ 2 ^ D := by
      have e1 : 2 ^ (D - q) + kr D R = kr D L := h3 D
      have e2 : 2 ^ (D - q2) + kr D R2 = kr D R := g3 D
      omega
    obtain ⟨s, hs⟩ := kr_dvd D q2 (by omega) R2 g4
    have hpos : 0 < 2 ^ (D - q) := Nat.two_pow_pos _
    have hq1 : 1 ≤ q2 := by
      rcases Nat.eq_zero_or_pos q2 with e | e
      · rw [e, Nat.sub_zero] at hk1; omega
      · exact e
    have eD : (2 : Nat) ^ D = 2 ^ q2 * 2 ^ (D - q2) := by
      rw [← Nat.pow_add]; congr 1; omega
    have hk2 : 2 * 2 ^ (D - q2) + kr D R2 ≤ 2 ^ D := by
      have hm : 0 < 2 ^ (D - q2) := Nat.two_pow_pos _
      rw [hs, eD] at hk1 ⊢
      have : (1 + s) * 2 ^ (D - q2) < 2 ^ q2 * 2 ^ (D - q2) := by rw [Nat.add_mul]; omega
      have h' : 1 + s < 2 ^ q2 := Nat.lt_of_mul_lt_mul_right this
      have : (2 + s) * 2 ^ (D - q2) ≤ 2 ^ q2 * 2 ^ (D - q2) := Nat.mul_le_mul_right _ (by omega)
      rw [Nat.add_mul] at this
      exact this
    have := ih D ((a + b, q2 - 1) :: R2) (by
      show ((a + b) :: R2.map Prod.fst).Perm ((a + b) :: r)
      exact List.Perm.cons _ g1) (by
      intro p hp'
      rcases List.mem_cons.1 hp' with e | e
      · rw [e]; show q2 - 1 ≤ D; omega
      · have := g4 p e; omega) (by
      show 2 ^ (D - (q2 - 1)) + kr D R2 ≤ 2 ^ D
      have : D - (q2 - 1) = (D - q2) + 1 := by omega
      rw [this, Nat.pow_succ]
      omega)
    have e3 : cost ((a + b, q2 - 1) :: R2) = (a + b) * (q2 - 1) + cost R2 := rfl
    have e4 : cost ((a, q) :: R) = a * q + cost R := rfl
    have e5 : cost ((b, q2) :: R2) = b * q2 + cost R2 := rfl
    have e6 : (a + b) * (q2 - 1) + (a + b) = a * q2 + b * q2 := by
      rw [← Nat.add_mul]
      obtain ⟨d, rfl⟩ : ∃ d, q2 = d + 1 := ⟨q2 - 1, by omega⟩
      rw [Nat.mul_succ, Nat.add_sub_cancel]
    have e7 : a * q2 ≤ a * q := Nat.mul_le_mul_left _ hq2
    omega

end Go.Proofs.Ytnkgagbobihnnaa
