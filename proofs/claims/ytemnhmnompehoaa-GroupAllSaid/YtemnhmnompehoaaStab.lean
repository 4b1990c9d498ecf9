/-
  The stable sort's mathematics: insertion in blocks, then merging by rotation.
-/
import Derived.Sort.LotA
namespace Go.Proofs.Ytemnhmnompehoaa
open Go.Sort
variable {α : Type} [Inhabited α]

/-- What is sorted by: a key, and the number itself. -/
structure Ky (α : Type) where
  k : α → Int
  v : α → Int

/-- The stable order: by key; of one key the lesser number first. -/
def rB (κ : Ky α) (x y : α) : Bool := decide (κ.k x < κ.k y) || (decide (κ.k x = κ.k y) && decide (κ.v x < κ.v y))
def kB (κ : Ky α) (x y : α) : Bool := decide (κ.k x < κ.k y)
omit [Inhabited α] in
theorem rB_iff {κ : Ky α} {x y : α} : rB κ x y = true ↔ κ.k x < κ.k y ∨ (κ.k x = κ.k y ∧ κ.v x < κ.v y) := by
  unfold rB; simp only [Bool.or_eq_true, Bool.and_eq_true, decide_eq_true_eq]
omit [Inhabited α] in
theorem rB_no {κ : Ky α} {x y : α} : rB κ x y = false ↔ ¬ (κ.k x < κ.k y ∨ (κ.k x = κ.k y ∧ κ.v x < κ.v y)) := by
  rw [← rB_iff, Bool.not_eq_true]
omit [Inhabited α] in
theorem rB_swo (κ : Ky α) : SWO (rB κ) :=
  ⟨fun x => by rw [rB_no]; omega, fun x y z h1 h2 => by rw [rB_iff] at *; omega, fun x y z h1 h2 => by rw [rB_no] at *; omega⟩
omit [Inhabited α] in
theorem rB_total {κ : Ky α} {x y : α} (h1 : rB κ x y = false) (h2 : rB κ y x = false) : κ.v x = κ.v y := by
  rw [rB_no] at h1 h2; omega
omit [Inhabited α] in
theorem le_trans' {κ : Ky α} {x y z : α} (h1 : rB κ y x = false) (h2 : rB κ z y = false) : rB κ z x = false := (rB_swo κ).ntrans z y x h2 h1
omit [Inhabited α] in
theorem kr {κ : Ky α} {x y : α} (h : κ.v y ≤ κ.v x) : kB κ x y = rB κ x y := by
  unfold kB
  cases hr : rB κ x y with
  | true => rw [rB_iff] at hr; rw [decide_eq_true_eq]; omega
  | false => rw [rB_no] at hr; rw [decide_eq_false_iff_not]; omega

theorem insInner_perm (lt : α → α → Bool) (a b : Nat) : ∀ (j : Nat) (d : Array α), a ≤ j → j < b → b ≤ d.size → PermIn a b d (insInner lt a j d) := by
  intro j
  induction j with
  | zero => intro d _ _ _; exact permIn_refl d a b
  | succ j ih =>
    intro d h1 h2 h3
    unfold insInner
    split
    · rename_i hc
      have hja : a ≤ j := by simp at hc; omega
      exact permIn_trans _ _ _ _ _ (swp_permIn d a b (j + 1) j (by omega) (by omega) hja (by omega) h3) (ih _ hja (by omega) (by rw [size_swp]; exact h3))
    · exact permIn_refl d a b

theorem insInner_same (κ : Ky α) (a : Nat) : ∀ (j : Nat) (d : Array α), j < d.size → (∀ k, a ≤ k → k < j → κ.v d[k]! ≤ κ.v d[j]!) → insInner (kB κ) a j d = insInner (rB κ) a j d := by
  intro j
  induction j with
  | zero => intro d _ _; rfl
  | succ j ih =>
    intro d hj h
    unfold insInner
    by_cases hja : j + 1 > a
    · have e : kB κ d[j + 1]! d[j]! = rB κ d[j + 1]! d[j]! := kr (h j (by omega) (by omega))
      rw [e]
      split
      · refine ih _ (by rw [size_swp]; omega) fun k h1 h2 => ?_
        rw [swp_other _ _ _ _ (by omega) (by omega), swp_right d (j + 1) j (by omega)]
        exact h k h1 (by omega)
      · rfl
    · simp [hja]

theorem insOuter_same (κ : Ky α) (a b : Nat) : ∀ (m i : Nat) (d : Array α), b - i ≤ m → a ≤ i → b ≤ d.size → (∀ k l, a ≤ k → k < l → i ≤ l → l < b → κ.v d[k]! ≤ κ.v d[l]!) → insOuter (kB κ) a b i d = insOuter (rB κ) a b i d := by
  intro m
  induction m with
  | zero =>
    intro i d hm _ _ _
    rw [insOuter, if_neg (by omega), insOuter, if_neg (by omega)]
  | succ m ih =>
    intro i d hm hai hb h
    by_cases hib : i < b
    · have hp := insInner_perm (rB κ) a (i + 1) i d hai (by omega) (by omega)
      have go : ∀ lt : α → α → Bool, insOuter lt a b i d = insOuter lt a b (i + 1) (insInner lt a i d) := fun lt => by rw [insOuter, if_pos hib]
      rw [go, go, insInner_same κ a i d (by omega) (fun k h1 h2 => h k i h1 h2 (Nat.le_refl _) hib)]
      refine ih (i + 1) _ (by omega) (by omega) (by rw [hp.1]; exact hb) fun k l h1 h2 h3 h4 => ?_
      rw [hp.2.1 l (.inr h3)]
      by_cases hk : k < i + 1
      · exact permIn_all d _ a (i + 1) (fun x => κ.v x ≤ κ.v d[l]!) (by omega) hp (fun k' g1 g2 => h k' l g1 (by omega) (by omega) h4) k h1 hk
      · rw [hp.2.1 k (.inr (by omega))]
        exact h k l h1 h2 (by omega) h4
    · rw [insOuter, if_neg hib, insOuter, if_neg hib]

/-- Rising numbers on [a, b): the insertion sort by keys is the one by the stable order. -/
theorem ins_stab (κ : Ky α) (d : Array α) (a b : Nat) (hab : a ≤ b) (hb : b ≤ d.size) (h : ∀ k l, a ≤ k → k < l → l < b → κ.v d[k]! ≤ κ.v d[l]!) :
    PermIn a b d (insertionSort (kB κ) d a b) ∧ SortedIn (rB κ) a b (insertionSort (kB κ) d a b) := by
  have e : insertionSort (kB κ) d a b = insertionSort (rB κ) d a b := insOuter_same κ a b _ _ d (Nat.le_refl _) (by omega) hb (fun k l h1 h2 _ h4 => h k l h1 h2 h4)
  rw [e]
  exact insertionSort_holds (rB_swo κ) d a b hab hb

/-- swapRange: n places from a on against n from b on. -/
def swrN (d : Array α) (a b : Nat) : Nat → Array α
  | 0 => d
  | i + 1 => swp (swrN d a b i) (a + i) (b + i)
theorem swrN_size (d : Array α) (a b : Nat) : ∀ n, (swrN d a b n).size = d.size
  | 0 => rfl
  | n + 1 => by rw [swrN, size_swp]; exact swrN_size d a b n
theorem swrN_perm (d : Array α) (lo hi a b : Nat) (h1 : lo ≤ a) (h0 : a ≤ b) (h3 : hi ≤ d.size) : ∀ n, b + n ≤ hi → PermIn lo hi d (swrN d a b n)
  | 0, _ => permIn_refl d lo hi
  | n + 1, h => permIn_trans _ _ _ _ _ (swrN_perm d lo hi a b h1 h0 h3 n (by omega)) (swp_permIn _ lo hi (a + n) (b + n) (by omega) (by omega) (by omega) (by omega) (by rw [swrN_size]; exact h3))
theorem swrN_lo (d : Array α) (a b : Nat) : ∀ n, a + n ≤ b → b + n ≤ d.size → ∀ k, a ≤ k → k < a + n → (swrN d a b n)[k]! = d[k + (b - a)]! := by
  intro n
  induction n with
  | zero => intro _ _ k h1 h2; omega
  | succ n ih =>
    intro h1 h2 k h3 h4
    have out : ∀ m, m ≤ n → (swrN d a b m)[b + n]! = d[b + n]! := by
      intro m
      induction m with
      | zero => intro _; rfl
      | succ m ihm => intro hm; rw [swrN, swp_other _ _ _ _ (by omega) (by omega)]; exact ihm (by omega)
    rw [swrN]
    by_cases hk : k = a + n
    · subst hk
      rw [swp_left _ _ _ (by rw [swrN_size]; omega) (by omega), out n (Nat.le_refl _)]
      congr 1 <;> omega
    · rw [swp_other _ _ _ _ (by omega) (by omega)]
      exact ih (by omega) (by omega) k h3 (by omega)
theorem swrN_hi (d : Array α) (a b : Nat) : ∀ n, a + n ≤ b → b + n ≤ d.size → ∀ k, b ≤ k → k < b + n → (swrN d a b n)[k]! = d[k - (b - a)]! := by
  intro n
  induction n with
  | zero => intro _ _ k h1 h2; omega
  | succ n ih =>
    intro h1 h2 k h3 h4
    have out : ∀ m, m ≤ n → (swrN d a b m)[a + n]! = d[a + n]! := by
      intro m
      induction m with
      | zero => intro _; rfl
      | succ m ihm => intro hm; rw [swrN, swp_other _ _ _ _ (by omega) (by omega)]; exact ihm (by omega)
    rw [swrN]
    by_cases hk : k = b + n
    · subst hk
      rw [swp_right _ _ _ (by rw [swrN_size]; omega), out n (Nat.le_refl _)]
      congr 1 <;> omega
    · rw [swp_other _ _ _ _ (by omega) (by omega)]
      exact ih (by omega) (by omega) k h3 (by omega)
theorem swrN_out (d : Array α) (a b : Nat) : ∀ n k, k < a ∨ (a + n ≤ k ∧ k < b) ∨ b + n ≤ k → a ≤ b → (swrN d a b n)[k]! = d[k]! := by
  intro n
  induction n with
  | zero => intro k _ _; rfl
  | succ n ih =>
    intro k h hab
    rw [swrN, swp_other _ _ _ _ (by omega) (by omega)]
    exact ih k (by omega) hab

/-- [a, m) and [m, b) change places. -/
structure Rot (a m b : Nat) (d d' : Array α) : Prop where
  size : d'.size = d.size
  lo : ∀ k, a ≤ k → k < a + (b - m) → d'[k]! = d[k + (m - a)]!
  hi : ∀ k, a + (b - m) ≤ k → k < b → d'[k]! = d[k - (b - m)]!
  out : ∀ k, k < a ∨ b ≤ k → d'[k]! = d[k]!

theorem Rot.swr {d : Array α} {m i : Nat} (h1 : i ≤ m) (h2 : m + i ≤ d.size) : Rot (m - i) m (m + i) d (swrN d (m - i) m i) :=
  ⟨swrN_size _ _ _ _, fun k g1 g2 => swrN_lo d (m - i) m i (by omega) h2 k g1 (by omega), fun k g1 g2 => by
    rw [swrN_hi d (m - i) m i (by omega) h2 k (by omega) (by omega)]; congr 1 <;> omega, fun k g => swrN_out d _ _ _ k (by omega) (by omega)⟩
theorem Rot.left {d d' : Array α} {m i j : Nat} (hj : j < i) (h1 : i ≤ m) (h2 : m + j ≤ d.size) (h : Rot (m - (i - j)) m (m + j) (swrN d (m - i) m j) d') : Rot (m - i) m (m + j) d d' := by
  refine ⟨h.size.trans (swrN_size _ _ _ _), fun k g1 g2 => ?_, fun k g1 g2 => ?_, fun k g => ?_⟩
  · rw [h.out k (by omega), swrN_lo d (m - i) m j (by omega) h2 k g1 (by omega)]
  · by_cases hk : k < (m - (i - j)) + j
    · rw [h.lo k (by omega) (by omega)]
      by_cases hk2 : k + (m - (m - (i - j))) < m
      · rw [swrN_out d _ _ _ _ (by omega) (by omega)]; congr 1 <;> omega
      · rw [swrN_hi d (m - i) m j (by omega) h2 _ (by omega) (by omega)]; congr 1 <;> omega
    · rw [h.hi k (by omega) (by omega), swrN_out d _ _ _ _ (by omega) (by omega)]
  · rw [h.out k (by omega), swrN_out d _ _ _ _ (by omega) (by omega)]
theorem Rot.right {d d' : Array α} {m i j : Nat} (hj : i < j) (h1 : i ≤ m) (h2 : m + j ≤ d.size) (h : Rot (m - i) m (m + (j - i)) (swrN d (m - i) (m + j - i) i) d') : Rot (m - i) m (m + j) d d' := by
  refine ⟨h.size.trans (swrN_size _ _ _ _), fun k g1 g2 => ?_, fun k g1 g2 => ?_, fun k g => ?_⟩
  · by_cases hk : k < (m - i) + (j - i)
    · rw [h.lo k (by omega) (by omega), swrN_out d _ _ _ _ (by omega) (by omega)]
    · by_cases hk3 : k < m + (j - i)
      · rw [h.hi k (by omega) hk3]
        by_cases hk2 : k - (m + (j - i) - m) < m - i + i
        · rw [swrN_lo d _ _ i (by omega) (by omega) _ (by omega) (by omega)]; congr 1 <;> omega
        · rw [swrN_out d _ _ _ _ (by omega) (by omega)]; congr 1 <;> omega
      · omega
  · by_cases hk3 : k < m + (j - i)
    · omega
    · rw [h.out k (by omega), swrN_hi d _ _ i (by omega) (by omega) _ (by omega) (by omega)]; congr 1 <;> omega
  · rw [h.out k (by omega), swrN_out d _ _ _ _ (by omega) (by omega)]

/-- The left part's numbers are not above the right part's. -/
def Lf (κ : Ky α) (a m b : Nat) (d : Array α) : Prop := ∀ i j, a ≤ i → i < m → m ≤ j → j < b → κ.v d[i]! ≤ κ.v d[j]!
/-- What a merge does. -/
def Mg (κ : Ky α) (a m b : Nat) (d d' : Array α) : Prop := PermIn a b d d' ∧ (SortedIn (rB κ) a m d → SortedIn (rB κ) m b d → Lf κ a m b d → SortedIn (rB κ) a b d')

omit [Inhabited α] in
theorem le_of_no {κ : Ky α} {x y : α} (h : κ.v x ≤ κ.v y) (hk : κ.k x ≤ κ.k y) : rB κ y x = false := by rw [rB_no]; omega
omit [Inhabited α] in
theorem le_of_lt {κ : Ky α} {x y : α} (hk : κ.k x < κ.k y) : rB κ y x = false := by rw [rB_no]; omega
omit [Inhabited α] in
theorem le_refl' {κ : Ky α} {x y : α} (h : x = y) : rB κ y x = false := by subst h; rw [rB_no]; omega
theorem sorted_le {κ : Ky α} {a b : Nat} {d : Array α} (h : SortedIn (rB κ) a b d) {i j : Nat} (h1 : a ≤ i) (h2 : i ≤ j) (h3 : j < b) : rB κ d[j]! d[i]! = false := by
  rcases Nat.lt_or_ge i j with h4 | h4
  · exact h i j h1 h4 h3
  · obtain rfl : i = j := by omega
    exact le_refl' rfl

/-- Both parts are parted and the inner ones change places: the left ones lie ahead of the right ones. -/
theorem rot_cross {κ : Ky α} {a s m e b : Nat} {d d1 : Array α} (R : Rot s m e d d1) (hs : a ≤ s) (hsm : s ≤ m) (hme : m ≤ e) (heb : e ≤ b)
    (g1 : SortedIn (rB κ) a m d) (g2 : SortedIn (rB κ) m b d) (g3 : Lf κ a m b d) (h1 : s = a ∨ e = b ∨ κ.k d[s - 1]! ≤ κ.k d[e]!) (h2 : s = m ∨ e = m ∨ κ.k d[e - 1]! < κ.k d[s]!) :
    ∀ i j, a ≤ i → i < s + (e - m) → s + (e - m) ≤ j → j < b → rB κ d1[j]! d1[i]! = false := by
  intro i j i1 i2 j1 j2
  have di : d1[i]! = if i < s then d[i]! else d[i + (m - s)]! := by
    split
    · exact R.out i (by omega)
    · exact R.lo i (by omega) (by omega)
  have dj : d1[j]! = if j < e then d[j - (e - m)]! else d[j]! := by
    split
    · exact R.hi j (by omega) (by omega)
    · exact R.out j (by omega)
  rw [di, dj]
  split <;> split
  · exact sorted_le g1 i1 (by omega) (by omega)
  · rcases h2 with h | h | h
    · omega
    · omega
    · exact le_trans' (sorted_le g2 (by omega) (by omega) (by omega)) (le_trans' (le_of_lt h) (sorted_le g1 (by omega) (by omega) (by omega)))
  · rcases h1 with h | h | h
    · omega
    · omega
    · have a1 : rB κ d[e]! d[s - 1]! = false := le_of_no (g3 _ _ (by omega) (by omega) (by omega) (by omega)) h
      exact le_trans' (sorted_le g1 i1 (by omega) (by omega)) (le_trans' a1 (sorted_le g2 (by omega) (by omega) (by omega)))
  · exact sorted_le g2 (by omega) (by omega) (by omega)

/-- Two halves merged each: the whole. -/
theorem sym_join {κ : Ky α} {a s m e b mid : Nat} {d d1 d2 d3 : Array α} (hb : b ≤ d.size) (R : Rot s m e d d1) (P1 : PermIn a b d d1) (hs : a ≤ s) (hsm : s ≤ m) (hme : m ≤ e) (heb : e ≤ b) (hmid : s + (e - m) = mid)
    (h1 : s = a ∨ e = b ∨ κ.k d[s - 1]! ≤ κ.k d[e]!) (h2 : s = m ∨ e = m ∨ κ.k d[e - 1]! < κ.k d[s]!) (M1 : Mg κ a s mid d1 d2) (M2 : Mg κ mid e b d2 d3) : Mg κ a m b d d3 := by
  have s1 : d1.size = d.size := P1.1
  have s2 : d2.size = d.size := M1.1.1.trans s1
  refine ⟨permIn_trans _ _ _ _ _ P1 (permIn_trans _ _ _ _ _ (permIn_mono _ _ a mid a b (Nat.le_refl _) (by omega) (by omega) M1.1) (permIn_mono _ _ mid b a b (by omega) (Nat.le_refl _) (by omega) M2.1)), fun g1 g2 g3 => ?_⟩
  have cross := rot_cross R hs hsm hme heb g1 g2 g3 h1 h2
  rw [hmid] at cross
  have a1 : SortedIn (rB κ) a mid d2 := M1.2 (fun i j i1 i2 i3 => by rw [R.out i (by omega), R.out j (by omega)]; exact g1 i j i1 i2 (by omega))
    (fun i j i1 i2 i3 => by rw [R.lo i (by omega) (by omega), R.lo j (by omega) (by omega)]; exact g2 _ _ (by omega) (by omega) (by omega))
    (fun i j i1 i2 i3 i4 => by rw [R.out i (by omega), R.lo j (by omega) (by omega)]; exact g3 _ _ (by omega) (by omega) (by omega) (by omega))
  have e2 : ∀ k, mid ≤ k → d2[k]! = d1[k]! := fun k hk => M1.1.2.1 k (.inr hk)
  have a2 : SortedIn (rB κ) mid b d3 := M2.2 (fun i j i1 i2 i3 => by rw [e2 i (by omega), e2 j (by omega), R.hi i (by omega) (by omega), R.hi j (by omega) (by omega)]; exact g1 _ _ (by omega) (by omega) (by omega))
    (fun i j i1 i2 i3 => by rw [e2 i (by omega), e2 j (by omega), R.out i (by omega), R.out j (by omega)]; exact g2 i j (by omega) i2 i3)
    (fun i j i1 i2 i3 i4 => by rw [e2 i (by omega), e2 j (by omega), R.hi i (by omega) (by omega), R.out j (by omega)]; exact g3 _ _ (by omega) (by omega) (by omega) (by omega))
  have c2 : ∀ i j, a ≤ i → i < mid → mid ≤ j → j < b → rB κ d2[j]! d2[i]! = false := by
    intro i j i1 i2 j1 j2
    rw [e2 j j1]
    exact permIn_all d1 d2 a mid (fun x => rB κ d1[j]! x = false) (by omega) M1.1 (fun i' g1 g2 => cross i' j g1 g2 j1 j2) i i1 i2
  intro i j i1 i2 i3
  by_cases hj : j < mid
  · rw [M2.1.2.1 i (by omega), M2.1.2.1 j (by omega)]
    exact a1 i j i1 i2 hj
  · by_cases hi : i < mid
    · rw [M2.1.2.1 i (by omega)]
      exact permIn_all d2 d3 mid b (fun y => rB κ y d2[i]! = false) (by omega) M2.1 (fun j' g1 g2 => c2 i j' i1 hi g1 g2) j (by omega) i3
    · exact a2 i j (by omega) i2 i3

/-- Where one part is empty nothing is to be done. -/
theorem mg_left {κ : Ky α} {a b : Nat} {d : Array α} : Mg κ a a b d d := ⟨permIn_refl d a b, fun _ h _ => h⟩
theorem mg_right {κ : Ky α} {a b : Nat} {d : Array α} : Mg κ a b b d d := ⟨permIn_refl d a b, fun h _ _ => h⟩

/-- One against many: the first one goes behind those of a lesser key. -/
theorem one_left {κ : Ky α} {a i b : Nat} {d d' : Array α} (R : Rot a (a + 1) i d d') (P : PermIn a b d d') (hi : a + 1 ≤ i) (hib : i ≤ b) (h1 : i = a + 1 ∨ κ.k d[i - 1]! < κ.k d[a]!) (h2 : i = b ∨ κ.k d[a]! ≤ κ.k d[i]!) : Mg κ a (a + 1) b d d' := by
  refine ⟨P, fun g1 g2 g3 => ?_⟩
  have x1 : ∀ k, a + 1 ≤ k → k < i → rB κ d[a]! d[k]! = false := fun k k1 k2 => by
    rcases h1 with h | h
    · omega
    · exact le_trans' (sorted_le g2 k1 (by omega) (by omega)) (le_of_lt h)
  have x2 : ∀ k, i ≤ k → k < b → rB κ d[k]! d[a]! = false := fun k k1 k2 => by
    rcases h2 with h | h
    · omega
    · exact le_trans' (le_of_no (g3 a i (by omega) (by omega) (by omega) (by omega)) h) (sorted_le g2 hi k1 k2)
  have f : ∀ k, a ≤ k → k < b → d'[k]! = if k < i - 1 then d[k + 1]! else if k = i - 1 then d[a]! else d[k]! := by
    intro k k1 k2
    split
    · rw [R.lo k k1 (by omega)]; congr 1 <;> omega
    · split
      · rw [R.hi k (by omega) (by omega)]; congr 1 <;> omega
      · exact R.out k (by omega)
  intro p q p1 p2 q2
  rw [f p p1 (by omega), f q (by omega) q2]
  by_cases hp1 : p < i - 1
  · rw [if_pos hp1]
    by_cases hq1 : q < i - 1
    · rw [if_pos hq1]
      exact sorted_le g2 (by omega) (by omega) (by omega)
    · rw [if_neg hq1]
      by_cases hq2 : q = i - 1
      · rw [if_pos hq2]
        exact x1 _ (by omega) (by omega)
      · rw [if_neg hq2]
        exact sorted_le g2 (by omega) (by omega) q2
  · rw [if_neg hp1, if_neg (show ¬ q < i - 1 by omega), if_neg (show ¬ q = i - 1 by omega)]
    by_cases hp2 : p = i - 1
    · rw [if_pos hp2]
      exact x2 _ (by omega) q2
    · rw [if_neg hp2]
      exact sorted_le g2 (by omega) (by omega) q2

theorem one_right {κ : Ky α} {a i m : Nat} {d d' : Array α} (R : Rot i m (m + 1) d d') (P : PermIn a (m + 1) d d') (hi : a ≤ i) (him : i ≤ m) (h1 : i = a ∨ κ.k d[i - 1]! ≤ κ.k d[m]!) (h2 : i = m ∨ κ.k d[m]! < κ.k d[i]!) : Mg κ a m (m + 1) d d' := by
  refine ⟨P, fun g1 g2 g3 => ?_⟩
  have x1 : ∀ k, a ≤ k → k < i → rB κ d[m]! d[k]! = false := fun k k1 k2 => by
    rcases h1 with h | h
    · omega
    · exact le_trans' (sorted_le g1 k1 (by omega) (by omega)) (le_of_no (g3 (i - 1) m (by omega) (by omega) (by omega) (by omega)) h)
  have x2 : ∀ k, i ≤ k → k < m → rB κ d[k]! d[m]! = false := fun k k1 k2 => by
    rcases h2 with h | h
    · omega
    · exact le_trans' (le_of_lt h) (sorted_le g1 (by omega) k1 k2)
  have f : ∀ k, a ≤ k → k < m + 1 → d'[k]! = if k < i then d[k]! else if k = i then d[m]! else d[k - 1]! := by
    intro k k1 k2
    split
    · exact R.out k (by omega)
    · split
      · rw [R.lo k (by omega) (by omega)]; congr 1 <;> omega
      · rw [R.hi k (by omega) (by omega)]; congr 1 <;> omega
  intro p q p1 p2 q2
  rw [f p p1 (by omega), f q (by omega) q2]
  by_cases hq1 : q < i
  · rw [if_pos hq1, if_pos (by omega)]
    exact sorted_le g1 p1 (by omega) (by omega)
  · rw [if_neg hq1]
    by_cases hq2 : q = i
    · rw [if_pos hq2, if_pos (by omega)]
      exact x1 _ p1 (by omega)
    · rw [if_neg hq2]
      by_cases hp1 : p < i
      · rw [if_pos hp1]
        exact sorted_le g1 p1 (by omega) (by omega)
      · rw [if_neg hp1]
        by_cases hp2 : p = i
        · rw [if_pos hp2]
          exact x2 _ (by omega) (by omega)
        · rw [if_neg hp2]
          exact sorted_le g1 (by omega) (by omega) (by omega)

/-- One after another to the right. -/
def mvR (d : Array α) (a : Nat) : Nat → Array α
  | 0 => d
  | n + 1 => swp (mvR d a n) (a + n) (a + n + 1)
theorem mvR_size (d : Array α) (a : Nat) : ∀ n, (mvR d a n).size = d.size
  | 0 => rfl
  | n + 1 => by rw [mvR, size_swp]; exact mvR_size d a n
theorem mvR_perm (d : Array α) (lo hi a : Nat) (h1 : lo ≤ a) (h3 : hi ≤ d.size) : ∀ n, a + n < hi ∨ n = 0 → PermIn lo hi d (mvR d a n)
  | 0, _ => permIn_refl d lo hi
  | n + 1, h => permIn_trans _ _ _ _ _ (mvR_perm d lo hi a h1 h3 n (by omega)) (swp_permIn _ lo hi (a + n) (a + n + 1) (by omega) (by omega) (by omega) (by omega) (by rw [mvR_size]; exact h3))
theorem mvR_rot (d : Array α) (a : Nat) : ∀ n, a + n < d.size → Rot a (a + 1) (a + n + 1) d (mvR d a n) := by
  intro n
  induction n with
  | zero => intro h; exact ⟨rfl, fun k h1 h2 => by omega, fun k h1 h2 => by rw [mvR]; congr 1 <;> omega, fun k _ => rfl⟩
  | succ n ih =>
    intro h
    have I := ih (by omega)
    refine ⟨mvR_size _ _ _, fun k h1 h2 => ?_, fun k h1 h2 => ?_, fun k g => ?_⟩
    · rw [mvR]
      by_cases hk : k = a + n
      · subst hk
        rw [swp_left _ _ _ (by rw [mvR_size]; omega) (by omega), I.out _ (by omega)]
        congr 1 <;> omega
      · rw [swp_other _ _ _ _ (by omega) (by omega), I.lo k h1 (by omega)]
    · obtain rfl : k = a + n + 1 := by omega
      rw [mvR, swp_right _ _ _ (by rw [mvR_size]; omega), I.hi _ (by omega) (by omega)]
      congr 1 <;> omega
    · rw [mvR, swp_other _ _ _ _ (by omega) (by omega)]
      exact I.out k (by omega)
/-- One after another to the left. -/
def mvL (d : Array α) (m : Nat) : Nat → Array α
  | 0 => d
  | n + 1 => swp (mvL d m n) (m - n) (m - n - 1)
theorem mvL_size (d : Array α) (m : Nat) : ∀ n, (mvL d m n).size = d.size
  | 0 => rfl
  | n + 1 => by rw [mvL, size_swp]; exact mvL_size d m n
theorem mvL_perm (d : Array α) (lo hi m : Nat) (h1 : m < hi) (h3 : hi ≤ d.size) : ∀ n, lo + n ≤ m → PermIn lo hi d (mvL d m n)
  | 0, _ => permIn_refl d lo hi
  | n + 1, h => permIn_trans _ _ _ _ _ (mvL_perm d lo hi m h1 h3 n (by omega)) (swp_permIn _ lo hi (m - n) (m - n - 1) (by omega) (by omega) (by omega) (by omega) (by rw [mvL_size]; exact h3))
theorem mvL_rot (d : Array α) (m : Nat) : ∀ n, n ≤ m → m < d.size → Rot (m - n) m (m + 1) d (mvL d m n) := by
  intro n
  induction n with
  | zero => intro _ h; exact ⟨rfl, fun k h1 h2 => by rw [mvL]; congr 1 <;> omega, fun k h1 h2 => by omega, fun k _ => rfl⟩
  | succ n ih =>
    intro hn h
    have I := ih (by omega) h
    refine ⟨mvL_size _ _ _, fun k h1 h2 => ?_, fun k h1 h2 => ?_, fun k g => ?_⟩
    · obtain rfl : k = m - n - 1 := by omega
      rw [mvL, swp_right _ _ _ (by rw [mvL_size]; omega), I.lo _ (by omega) (by omega)]
      congr 1 <;> omega
    · rw [mvL]
      by_cases hk : k = m - n
      · subst hk
        rw [swp_left _ _ _ (by rw [mvL_size]; omega) (by omega), I.out _ (by omega)]
        congr 1 <;> omega
      · rw [swp_other _ _ _ _ (by omega) (by omega), I.hi k (by omega) (by omega)]
    · rw [mvL, swp_other _ _ _ _ (by omega) (by omega)]
      exact I.out k (by omega)

/-! Blocks -/
theorem dvd_next {s a c : Nat} (h1 : s ∣ a) (h2 : s ∣ c) (h : c < a) : c + s ≤ a := by
  obtain ⟨x, rfl⟩ := h1
  obtain ⟨y, rfl⟩ := h2
  have hxy : y < x := Nat.lt_of_mul_lt_mul_left h
  exact Nat.mul_le_mul_left s hxy
theorem dvd_two {s c : Nat} (h : 2 * s ∣ c) : s ∣ c := Nat.dvd_trans ⟨2, Nat.mul_comm 2 s⟩ h
theorem lf_perm {κ : Ky α} {a b c n : Nat} {d d' : Array α} (P : PermIn a b d d') (hb : b ≤ n) (hn : n ≤ d.size) (hc : c ≤ a ∨ b ≤ c) (h : Lf κ 0 c n d) : Lf κ 0 c n d' := by
  intro i j _ h2 h3 h4
  rcases hc with hc | hc
  · rw [P.2.1 i (.inl (by omega))]
    by_cases hj : a ≤ j ∧ j < b
    · exact permIn_all d d' a b (fun y => κ.v d[i]! ≤ κ.v y) (by omega) P (fun k g1 g2 => h i k (by omega) h2 (by omega) (by omega)) j hj.1 hj.2
    · rw [P.2.1 j (by omega)]
      exact h i j (by omega) h2 h3 h4
  · rw [P.2.1 j (.inr (by omega))]
    by_cases hi : a ≤ i ∧ i < b
    · exact permIn_all d d' a b (fun y => κ.v y ≤ κ.v d[j]!) (by omega) P (fun k g1 g2 => h k j (by omega) (by omega) h3 h4) i hi.1 hi.2
    · rw [P.2.1 i (by omega)]
      exact h i j (by omega) h2 h3 h4
theorem srt_perm {κ : Ky α} {a b c e : Nat} {d d' : Array α} (P : PermIn a b d d') (hc : e ≤ a ∨ b ≤ c) (h : SortedIn (rB κ) c e d) : SortedIn (rB κ) c e d' := by
  intro i j h1 h2 h3
  rw [P.2.1 i (by omega), P.2.1 j (by omega)]
  exact h i j h1 h2 h3

/-- While blocks of 20 are sorted. -/
structure Ph1 (κ : Ky α) (n a : Nat) (d0 d : Array α) : Prop where
  perm : PermIn 0 n d0 d
  done : ∀ c, 20 ∣ c → c < a → SortedIn (rB κ) c (c + 20) d
  lf : ∀ c, 20 ∣ c → c ≤ n → Lf κ 0 c n d
  rest : ∀ i j, a ≤ i → i < j → j < n → κ.v d[i]! ≤ κ.v d[j]!
/-- Blocks of s are sorted. -/
structure Bk (κ : Ky α) (s n : Nat) (d0 d : Array α) : Prop where
  perm : PermIn 0 n d0 d
  srt : ∀ c, s ∣ c → c < n → SortedIn (rB κ) c (min (c + s) n) d
  lf : ∀ c, s ∣ c → c ≤ n → Lf κ 0 c n d
/-- While blocks of s are merged by twos. -/
structure Ph2 (κ : Ky α) (s n a : Nat) (d0 d : Array α) : Prop where
  perm : PermIn 0 n d0 d
  done : ∀ c, 2 * s ∣ c → c < a → SortedIn (rB κ) c (c + 2 * s) d
  todo : ∀ c, s ∣ c → a ≤ c → c < n → SortedIn (rB κ) c (min (c + s) n) d
  lf2 : ∀ c, 2 * s ∣ c → c ≤ n → Lf κ 0 c n d
  lf1 : ∀ c, s ∣ c → a ≤ c → c ≤ n → Lf κ 0 c n d

theorem Ph1.start {κ : Ky α} {n : Nat} {d : Array α} (h : ∀ i j, i < j → j < n → κ.v d[i]! ≤ κ.v d[j]!) : Ph1 κ n 0 d d :=
  ⟨permIn_refl d 0 n, fun c _ hc => by omega, fun c _ _ i j _ h2 h3 h4 => h i j (by omega) h4, fun i j _ h2 h3 => h i j h2 h3⟩
theorem Ph1.step {κ : Ky α} {n a : Nat} {d0 d d' : Array α} (h : Ph1 κ n a d0 d) (ha : 20 ∣ a) (hn : a + 20 ≤ n) (hs : n ≤ d.size) (P : PermIn a (a + 20) d d') (S : SortedIn (rB κ) a (a + 20) d') : Ph1 κ n (a + 20) d0 d' := by
  refine ⟨permIn_trans _ _ _ _ _ h.perm (permIn_mono _ _ a (a + 20) 0 n (by omega) hn hs P), fun c hc hlt => ?_, fun c hc hcn => ?_, fun i j h1 h2 h3 => ?_⟩
  · by_cases hca : c < a
    · exact srt_perm P (.inl (dvd_next ha hc hca)) (h.done c hc hca)
    · obtain rfl : c = a := by
        rcases Nat.lt_or_ge a c with h9 | h9
        · have := dvd_next hc ha h9; omega
        · omega
      exact S
  · refine lf_perm P hn hs ?_ (h.lf c hc hcn)
    rcases Nat.lt_or_ge a c with h9 | h9
    · exact .inr (dvd_next hc ha h9)
    · exact .inl h9
  · rw [P.2.1 i (by omega), P.2.1 j (by omega)]
    exact h.rest i j (by omega) h2 h3
theorem Ph1.last {κ : Ky α} {n a : Nat} {d0 d d' : Array α} (h : Ph1 κ n a d0 d) (ha : 20 ∣ a) (han : a ≤ n) (hn : n < a + 20) (hs : n ≤ d.size) (P : PermIn a n d d') (S : SortedIn (rB κ) a n d') : Bk κ 20 n d0 d' := by
  refine ⟨permIn_trans _ _ _ _ _ h.perm (permIn_mono _ _ a n 0 n (by omega) (by omega) hs P), fun c hc hlt => ?_, fun c hc hcn => ?_⟩
  · by_cases hca : c < a
    · have := dvd_next ha hc hca
      rw [Nat.min_eq_left (by omega)]
      exact srt_perm P (.inl this) (h.done c hc hca)
    · obtain rfl : c = a := by
        rcases Nat.lt_or_ge a c with h9 | h9
        · have := dvd_next hc ha h9; omega
        · omega
      rw [Nat.min_eq_right (by omega)]
      exact S
  · refine lf_perm P (Nat.le_refl _) hs ?_ (h.lf c hc hcn)
    rcases Nat.lt_or_ge a c with h9 | h9
    · have := dvd_next hc ha h9; omega
    · exact .inl h9
theorem Bk.next {κ : Ky α} {s n : Nat} {d0 d : Array α} (h : Bk κ s n d0 d) : Ph2 κ s n 0 d0 d :=
  ⟨h.perm, fun c _ hc => by omega, fun c hc _ hn => h.srt c hc hn, fun c hc hn => h.lf c (dvd_two hc) hn, fun c hc _ hn => h.lf c hc hn⟩
theorem Bk.whole {κ : Ky α} {s n : Nat} {d0 d : Array α} (h : Bk κ s n d0 d) (hn : n ≤ s) : SortedIn (rB κ) 0 n d := by
  rcases Nat.eq_zero_or_pos n with h0 | h0
  · intro i j _ _ h3; omega
  · have := h.srt 0 ⟨0, rfl⟩ h0
    rwa [Nat.min_eq_right (by omega)] at this
theorem Ph2.pre {κ : Ky α} {s n a b : Nat} {d0 d d' : Array α} (h : Ph2 κ s n a d0 d) (ha : 2 * s ∣ a) (_h0 : 0 < s) (hm : a + s < b) (hb2 : b ≤ a + 2 * s) (_hb : b = a + 2 * s ∨ b = n) (hbn : b ≤ n) (M : Mg κ a (a + s) b d d') : SortedIn (rB κ) a b d' := by
  have g1 := h.todo a (dvd_two ha) (Nat.le_refl _) (by omega)
  have g2 := h.todo (a + s) ((Nat.dvd_add_right (dvd_two ha)).2 ⟨1, (Nat.mul_one s).symm⟩) (by omega) (by omega)
  rw [Nat.min_eq_left (by omega)] at g1
  refine M.2 g1 ?_ ?_
  · intro i j h1 h2 h3
    exact g2 i j h1 h2 (by omega)
  · intro i j h1 h2 h3 h4
    exact h.lf1 (a + s) ((Nat.dvd_add_right (dvd_two ha)).2 ⟨1, (Nat.mul_one s).symm⟩) (by omega) (by omega) i j (by omega) h2 h3 (by omega)
theorem Ph2.step {κ : Ky α} {s n a : Nat} {d0 d d' : Array α} (h : Ph2 κ s n a d0 d) (ha : 2 * s ∣ a) (h0 : 0 < s) (hn : a + 2 * s ≤ n) (hs : n ≤ d.size) (M : Mg κ a (a + s) (a + 2 * s) d d') : Ph2 κ s n (a + 2 * s) d0 d' := by
  have S := h.pre ha h0 (by omega) (Nat.le_refl _) (.inl rfl) hn M
  have P := M.1
  refine ⟨permIn_trans _ _ _ _ _ h.perm (permIn_mono _ _ a (a + 2 * s) 0 n (by omega) hn hs P), fun c hc hlt => ?_, fun c hc h1 h2 => srt_perm P (.inr h1) (h.todo c hc (by omega) h2), fun c hc hcn => ?_, fun c hc h1 h2 => lf_perm P hn hs (.inr h1) (h.lf1 c hc (by omega) h2)⟩
  · by_cases hca : c < a
    · exact srt_perm P (.inl (dvd_next ha hc hca)) (h.done c hc hca)
    · obtain rfl : c = a := by
        rcases Nat.lt_or_ge a c with h9 | h9
        · have := dvd_next hc ha h9; omega
        · omega
      exact S
  · refine lf_perm P hn hs ?_ (h.lf2 c hc hcn)
    rcases Nat.lt_or_ge a c with h9 | h9
    · exact .inr (dvd_next hc ha h9)
    · exact .inl h9
theorem Ph2.last {κ : Ky α} {s n a : Nat} {d0 d d' : Array α} (h : Ph2 κ s n a d0 d) (ha : 2 * s ∣ a) (h0 : 0 < s) (hm : a + s < n) (hn : n < a + 2 * s) (hs : n ≤ d.size) (M : Mg κ a (a + s) n d d') : Bk κ (2 * s) n d0 d' := by
  have S := h.pre ha h0 hm (by omega) (.inr rfl) (Nat.le_refl _) M
  have P := M.1
  refine ⟨permIn_trans _ _ _ _ _ h.perm (permIn_mono _ _ a n 0 n (by omega) (Nat.le_refl _) hs P), fun c hc hlt => ?_, fun c hc hcn => ?_⟩
  · by_cases hca : c < a
    · have := dvd_next ha hc hca
      rw [Nat.min_eq_left (by omega)]
      exact srt_perm P (.inl this) (h.done c hc hca)
    · obtain rfl : c = a := by
        rcases Nat.lt_or_ge a c with h9 | h9
        · have := dvd_next hc ha h9; omega
        · omega
      rw [Nat.min_eq_right (by omega)]
      exact S
  · refine lf_perm P (Nat.le_refl _) hs ?_ (h.lf2 c hc hcn)
    rcases Nat.lt_or_ge a c with h9 | h9
    · have := dvd_next hc ha h9; omega
    · exact .inl h9
theorem Ph2.rest {κ : Ky α} {s n a : Nat} {d0 d : Array α} (h : Ph2 κ s n a d0 d) (ha : 2 * s ∣ a) (han : a ≤ n) (hm : n ≤ a + s) : Bk κ (2 * s) n d0 d := by
  refine ⟨h.perm, fun c hc hlt => ?_, h.lf2⟩
  by_cases hca : c < a
  · have := dvd_next ha hc hca
    rw [Nat.min_eq_left (by omega)]
    exact h.done c hc hca
  · have hca' : c = a := by
      rcases Nat.lt_or_ge a c with h9 | h9
      · have := dvd_next hc ha h9; omega
      · omega
    subst hca'
    have := h.todo c (dvd_two hc) (Nat.le_refl _) hlt
    rw [Nat.min_eq_right (by omega)] at this ⊢
    exact this

end Go.Proofs.Ytemnhmnompehoaa
