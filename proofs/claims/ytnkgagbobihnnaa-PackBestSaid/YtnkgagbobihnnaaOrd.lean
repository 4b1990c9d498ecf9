/-
  The turns of bytes, sorted, plainly: by their first bytes, twice as many each time.
-/
import Derived.Test.YtnkgagbobihnnaaHuf
namespace Go.Proofs.Ytnkgagbobihnnaa

/-- The i-th byte, around. -/
def bv (b : List UInt8) (i : Nat) : Nat := (b.getD (i % b.length) 0).toNat
/-- The first m bytes of the turn at i, as a number. -/
def K (b : List UInt8) : Nat → Nat → Nat
  | 0, _ => 0
  | m + 1, i => K b m i * 256 + bv b (i + m)
theorem bv_lt (b : List UInt8) (i : Nat) : bv b i < 256 := UInt8.toNat_lt _
theorem K_lt (b : List UInt8) (i : Nat) : ∀ m, K b m i < 256 ^ m
  | 0 => by simp [K]
  | m + 1 => by
    have ih := K_lt b i m
    have h := bv_lt b (i + m)
    show K b m i * 256 + bv b (i + m) < 256 ^ (m + 1)
    rw [Nat.pow_succ]
    omega
theorem K_add (b : List UInt8) (m i : Nat) : ∀ k, K b (m + k) i = K b m i * 256 ^ k + K b k (i + m)
  | 0 => by simp [K]
  | k + 1 => by
    have ih := K_add b m i k
    show K b (m + k) i * 256 + bv b (i + (m + k)) = K b m i * 256 ^ (k + 1) + (K b k (i + m) * 256 + bv b (i + m + k))
    rw [ih, Nat.pow_succ, ← Nat.add_assoc i m k, Nat.add_mul, Nat.mul_assoc]
    omega
theorem bv_mod (b : List UInt8) (i j : Nat) : bv b (i % b.length + j) = bv b (i + j) := by
  unfold bv
  rw [Nat.mod_add_mod]
theorem K_mod (b : List UInt8) (i : Nat) : ∀ m, K b m (i % b.length) = K b m i
  | 0 => rfl
  | m + 1 => by
    show K b m (i % b.length) * 256 + bv b (i % b.length + m) = K b m i * 256 + bv b (i + m)
    rw [K_mod b i m, bv_mod]
theorem lex_lt {P a c x y : Nat} (hx : x < P) (hy : y < P) : a * P + x < c * P + y ↔ a < c ∨ (a = c ∧ x < y) := by
  constructor
  · intro h
    rcases Nat.lt_trichotomy a c with h1 | h1 | h1
    · exact .inl h1
    · subst h1; exact .inr ⟨rfl, by omega⟩
    · exfalso
      have : (c + 1) * P ≤ a * P := Nat.mul_le_mul_right _ h1
      rw [Nat.add_mul] at this
      omega
  · rintro (h | ⟨rfl, h⟩)
    · have : (a + 1) * P ≤ c * P := Nat.mul_le_mul_right _ h
      rw [Nat.add_mul] at this
      omega
    · omega
theorem K_lex (b : List UInt8) (m k i j : Nat) : K b (m + k) i < K b (m + k) j ↔ K b m i < K b m j ∨ (K b m i = K b m j ∧ K b k (i + m) < K b k (j + m)) := by
  rw [K_add, K_add]
  exact lex_lt (K_lt _ _ _) (K_lt _ _ _)
theorem K_pre {b : List UInt8} {m k i j : Nat} (h : K b (m + k) i = K b (m + k) j) : K b m i = K b m j := by
  have h1 := K_lex b m k i j
  have h2 := K_lex b m k j i
  omega
theorem bytes_of {b : List UInt8} {i j : Nat} (h : K b b.length i = K b b.length j) (t : Nat) : bv b (i + t) = bv b (j + t) := by
  rcases Nat.eq_zero_or_pos b.length with h0 | h0
  · unfold bv; rw [List.eq_nil_of_length_eq_zero h0]; rfl
  · have ht : t % b.length < b.length := Nat.mod_lt _ h0
    have h1 : K b (t % b.length + 1) i = K b (t % b.length + 1) j := K_pre (k := b.length - (t % b.length + 1)) (by rw [show t % b.length + 1 + (b.length - (t % b.length + 1)) = b.length by omega]; exact h)
    have h2 : K b (t % b.length) i = K b (t % b.length) j := K_pre h1
    have h3 : K b (t % b.length) i * 256 + bv b (i + t % b.length) = K b (t % b.length) j * 256 + bv b (j + t % b.length) := h1
    have e : ∀ x, bv b (x + t % b.length) = bv b (x + t) := fun x => by unfold bv; rw [Nat.add_mod_mod]
    rw [e, e] at h3
    omega
theorem K_same {b : List UInt8} {i j : Nat} (h : K b b.length i = K b b.length j) : ∀ m, K b m i = K b m j
  | 0 => rfl
  | m + 1 => by
    show K b m i * 256 + bv b (i + m) = K b m j * 256 + bv b (j + m)
    rw [K_same h m, bytes_of h]
/-- Which turn stands ahead, by so many bytes. -/
def olt (b : List UInt8) (m i j : Nat) : Bool := decide (K b m i < K b m j ∨ (K b m i = K b m j ∧ i < j))
theorem olt_iff {b : List UInt8} {m i j : Nat} : olt b m i j = true ↔ K b m i < K b m j ∨ (K b m i = K b m j ∧ i < j) := by unfold olt; simp
theorem olt_long {b : List UInt8} {m i j : Nat} (h : b.length ≤ m) : olt b m i j = olt b b.length i j := by
  obtain ⟨r, rfl⟩ : ∃ r, m = b.length + r := ⟨m - b.length, by omega⟩
  have h1 := K_lex b b.length r i j
  have h2 := K_lex b b.length r j i
  have h3 := @K_same b i j
  have e : ∀ x, K b r (x + b.length) = K b r x := fun x => by rw [← K_mod, Nat.add_mod_right, K_mod]
  rw [e, e] at h1 h2
  rw [Bool.eq_iff_iff, olt_iff, olt_iff]
  by_cases hk : K b b.length i = K b b.length j
  · have h4 := h3 hk r
    have h5 := h3 hk (b.length + r)
    omega
  · omega
theorem olt_trans {b : List UInt8} {m i j k : Nat} (h1 : olt b m i j = true) (h2 : olt b m j k = true) : olt b m i k = true := by
  rw [olt_iff] at *; omega
theorem olt_irrefl (b : List UInt8) (m i : Nat) : olt b m i i = false := by
  cases h : olt b m i i
  · rfl
  · rw [olt_iff] at h; omega
theorem olt_total {b : List UInt8} {m i j : Nat} (h : i ≠ j) : olt b m i j = true ∨ olt b m j i = true := by
  rw [olt_iff, olt_iff]; omega
theorem olt_asymm {b : List UInt8} {m i j : Nat} (h1 : olt b m i j = true) (h2 : olt b m j i = true) : False := by
  rw [olt_iff] at *; omega
/-- These are the turns, sorted. -/
structure IsT (b : List UInt8) (m : Nat) (l : List Nat) : Prop where
  perm : l.Perm (List.range b.length)
  sort : l.Pairwise (fun i j => olt b m i j = true)
theorem IsT.unique {b : List UInt8} {m : Nat} {l l' : List Nat} (h : IsT b m l) (h' : IsT b m l') : l = l' :=
  List.Perm.eq_of_pairwise (fun _ _ _ _ h1 h2 => (olt_asymm h1 h2).elim) h.sort h'.sort (h.perm.trans h'.perm.symm)
theorem IsT.nodup {b : List UInt8} {m : Nat} {l : List Nat} (h : IsT b m l) : l.Nodup := h.perm.nodup_iff.2 List.nodup_range
theorem IsT.len {b : List UInt8} {m : Nat} {l : List Nat} (h : IsT b m l) : l.length = b.length := by rw [h.perm.length_eq, List.length_range]
theorem IsT.lt {b : List UInt8} {m : Nat} {l : List Nat} (h : IsT b m l) {i : Nat} (hi : i ∈ l) : i < b.length := List.mem_range.1 (h.perm.mem_iff.1 hi)
theorem IsT.long {b : List UInt8} {m : Nat} {l : List Nat} (h : IsT b m l) (hm : b.length ≤ m) : IsT b b.length l := ⟨h.perm, h.sort.imp (fun {i j} h9 => by rw [← olt_long hm]; exact h9)⟩
theorem IsT.inj {b : List UInt8} {m : Nat} {l : List Nat} (h : IsT b m l) (hi : l.Pairwise (fun i j => K b m i < K b m j)) : IsT b b.length l := by
  rcases Nat.le_total b.length m with hm | hm
  · exact h.long hm
  · refine ⟨h.perm, hi.imp (fun {i j} h9 => ?_)⟩
    obtain ⟨r, hr⟩ : ∃ r, b.length = m + r := ⟨b.length - m, by omega⟩
    rw [olt_iff, hr, K_lex]
    exact .inl (.inl h9)
/-- How many are other than the one ahead, among the first. -/
def cls (b : List UInt8) (m : Nat) (l : List Nat) : Nat → Nat
  | 0 => 0
  | i + 1 => if K b m (l.getD (i + 1) 0) = K b m (l.getD i 0) then cls b m l i else cls b m l i + 1
theorem cls_le (b : List UInt8) (m : Nat) (l : List Nat) : ∀ i, cls b m l i ≤ i
  | 0 => Nat.le_refl _
  | i + 1 => by have := cls_le b m l i; unfold cls; split <;> omega
theorem getD_of {l : List Nat} {i : Nat} (h : i < l.length) : l.getD i 0 = l[i] := by rw [List.getD_eq_getElem?_getD, List.getElem?_eq_getElem h]; rfl
theorem IsT.le {b : List UInt8} {m : Nat} {l : List Nat} (h : IsT b m l) {p q : Nat} (hpq : p < q) (hq : q < l.length) : K b m (l.getD p 0) ≤ K b m (l.getD q 0) := by
  have := List.pairwise_iff_getElem.1 h.sort p q (by omega) hq hpq
  rw [getD_of (by omega), getD_of hq]
  rw [olt_iff] at this
  omega
/-- As the numbers stand, so do the counts. -/
theorem cls_K {b : List UInt8} {m : Nat} {l : List Nat} (h : IsT b m l) : ∀ q p, p ≤ q → q < l.length → cls b m l p ≤ cls b m l q ∧ (cls b m l p < cls b m l q ↔ K b m (l.getD p 0) < K b m (l.getD q 0))
  | 0, p, hp, _ => by
    obtain rfl : p = 0 := by omega
    exact ⟨Nat.le_refl _, by omega⟩
  | q + 1, p, hp, hq => by
    rcases Nat.eq_or_lt_of_le hp with e | e
    · subst e
      exact ⟨Nat.le_refl _, by omega⟩
    · obtain ⟨i1, i2⟩ := cls_K h q p (by omega) (by omega)
      have hs := h.le (p := q) (q := q + 1) (by omega) hq
      have hpq : K b m (l.getD p 0) ≤ K b m (l.getD q 0) := by
        rcases Nat.eq_or_lt_of_le (show p ≤ q by omega) with e1 | e1
        · rw [e1]; exact Nat.le_refl _
        · exact h.le e1 (by omega)
      have h3 : cls b m l (q + 1) = if K b m (l.getD (q + 1) 0) = K b m (l.getD q 0) then cls b m l q else cls b m l q + 1 := rfl
      rw [h3]
      split
      · rename_i h1
        rw [h1]
        exact ⟨i1, i2⟩
      · rename_i h1
        refine ⟨by omega, ?_⟩
        constructor
        · intro _; omega
        · intro _; omega
theorem cls_full {b : List UInt8} {m : Nat} {l : List Nat} : ∀ q, cls b m l q = q → ∀ t, t < q → cls b m l t + 1 = cls b m l (t + 1)
  | 0, _, t, ht => by omega
  | q + 1, h, t, ht => by
    have h1 := cls_le b m l q
    have h3 : cls b m l (q + 1) = if K b m (l.getD (q + 1) 0) = K b m (l.getD q 0) then cls b m l q else cls b m l q + 1 := rfl
    have h2 : cls b m l q = q := by
      rw [h3] at h
      split at h <;> omega
    rcases Nat.eq_or_lt_of_le (show t ≤ q by omega) with e | e
    · subst e; omega
    · exact cls_full q h2 t e
theorem IsT.full {b : List UInt8} {m : Nat} {l : List Nat} (h : IsT b m l) (hl : 0 < l.length) (hc : cls b m l (l.length - 1) = l.length - 1) : l.Pairwise (fun i j => K b m i < K b m j) := by
  have hone := cls_full (l.length - 1) hc
  have hid : ∀ q, q < l.length → cls b m l q = q := by
    intro q
    induction q with
    | zero => intro _; rfl
    | succ q ih =>
      intro hq
      have h1 := ih (by omega)
      have h2 := hone q (by omega)
      omega
  rw [List.pairwise_iff_getElem]
  intro p q hp hq hpq
  have := (cls_K h q p (by omega) hq).2
  rw [hid p hp, hid q hq, getD_of hp, getD_of hq] at this
  exact this.1 hpq

/-- The turns, put in one by one. -/
def put (b : List UInt8) (i : Nat) : List Nat → List Nat
  | [] => [i]
  | j :: l => if olt b b.length i j then i :: j :: l else j :: put b i l
def tl (b : List UInt8) : List Nat := (List.range b.length).foldr (put b) []
theorem put_perm (b : List UInt8) (i : Nat) : ∀ l, (put b i l).Perm (i :: l)
  | [] => .refl _
  | j :: l => by
    unfold put
    split
    · exact .refl _
    · exact ((put_perm b i l).cons j).trans (List.Perm.swap _ _ _)
theorem put_sort {b : List UInt8} {i : Nat} : ∀ {l : List Nat}, l.Pairwise (fun i j => olt b b.length i j = true) → i ∉ l → (put b i l).Pairwise (fun i j => olt b b.length i j = true)
  | [], _, _ => List.pairwise_singleton _ _
  | j :: l, h, hi => by
    unfold put
    rw [List.pairwise_cons] at h
    split
    · rename_i h1
      refine List.pairwise_cons.2 ⟨fun x hx => ?_, List.pairwise_cons.2 h⟩
      rcases List.mem_cons.1 hx with e | e
      · rw [e]; exact h1
      · exact olt_trans h1 (h.1 x e)
    · rename_i h1
      refine List.pairwise_cons.2 ⟨fun x hx => ?_, put_sort h.2 (fun h9 => hi (List.mem_cons_of_mem _ h9))⟩
      rcases List.mem_cons.1 ((put_perm b i l).mem_iff.1 hx) with e | e
      · rw [e]
        have hne : j ≠ i := fun h9 => hi (by rw [h9]; exact List.mem_cons_self)
        rcases olt_total (b := b) (m := b.length) hne with h2 | h2
        · exact h2
        · exact absurd h2 h1
      · exact h.1 x e
theorem tl_is (b : List UInt8) : IsT b b.length (tl b) := by
  have key : ∀ l : List Nat, l.Nodup → (l.foldr (put b) []).Perm l ∧ (l.foldr (put b) []).Pairwise (fun i j => olt b b.length i j = true) := by
    intro l
    induction l with
    | nil => intro _; exact ⟨.refl _, List.Pairwise.nil⟩
    | cons x l ih =>
      intro hn
      rw [List.nodup_cons] at hn
      obtain ⟨h1, h2⟩ := ih hn.2
      exact ⟨(put_perm b x _).trans (h1.cons x), put_sort h2 (fun h9 => hn.1 (h1.mem_iff.1 h9))⟩
  obtain ⟨h1, h2⟩ := key _ List.nodup_range
  exact ⟨h1, h2⟩
theorem IsT.eq {b : List UInt8} {l : List Nat} (h : IsT b b.length l) : l = tl b := h.unique (tl_is b)
/-- The last bytes of the turns, and where the bytes themselves stand. -/
def turnL (b : List UInt8) (l : List Nat) : List UInt8 := l.map fun i => b.getD ((i + b.length - 1) % b.length) 0
def rowL : List Nat → Nat → Nat → Nat
  | [], _, r => r
  | i :: l, at_, r => rowL l (at_ + 1) (if i = 0 then at_ else r)
def turnP (b : List UInt8) : List UInt8 × Nat := (turnL b (tl b), rowL (tl b) 0 0)
end Go.Proofs.Ytnkgagbobihnnaa
