/-
  How parts are shared: what the program's Share computes, round by round (mathematics only).
-/
import Derived.Test.YtemnhmnompehoaaSso
import Derived.Test.YtemnhmnompehoaaDel
namespace Go.Proofs.Ytemnhmnompehoaa
open Go Go.RowKit

def team (ms : List Int) : List Int := (Lib.compact (sorted ms)).filter (fun x => !low1 x)
/-- How many parts a member has. -/
def hasF (os : List Int) (x : Int) : Int := (os.countP (· == x) : Nat)
def hasK (os : List Int) (k : Nat) (x : Int) : Int := (cnt (· == x) os k : Nat)
theorem hasK_zero (os : List Int) : hasK os 0 = fun _ => 0 := by funext x; simp [hasK, cnt_zero]
theorem hasK_all (os : List Int) : hasK os os.length = hasF os := by funext x; simp [hasK, hasF, cnt_all]
theorem hasK_next {os : List Int} {k : Nat} (h : k < os.length) : hasK os (k + 1) = upd (hasK os k) (rd os k) (hasK os k (rd os k) + 1) := by
  funext x
  unfold upd
  split
  · rename_i e
    subst e
    unfold hasK
    rw [cnt_hit h (by simp)]
    push_cast
    rfl
  · rename_i e
    unfold hasK
    rw [cnt_miss h (by simpa using fun h' => e h'.symm)]
theorem hasK_bd (os : List Int) (k : Nat) (x : Int) : 0 ≤ hasK os k x ∧ hasK os k x ≤ k := by
  unfold hasK
  have := cnt_le (· == x) os k
  omega

/-- What room each member has, k of them told. -/
def roomK (q r : Nat) (most : List Int) : Nat → Int → Int
  | 0 => fun _ => 0
  | k + 1 => upd (roomK q r most k) (rd most k) (if k < r then (q : Int) + 1 else q)
theorem roomK_bd (q r : Nat) (most : List Int) : ∀ k x, 0 ≤ roomK q r most k x ∧ roomK q r most k x ≤ q + 1
  | 0, x => by simp [roomK]; omega
  | k + 1, x => by
    unfold roomK upd
    split
    · split <;> omega
    · exact roomK_bd q r most k x
theorem roomK_out (q r : Nat) (most : List Int) : ∀ k x, x ∉ most.take k → k ≤ most.length → roomK q r most k x = 0
  | 0, _, _, _ => rfl
  | k + 1, x, h, hk => by
    have hx : x ∉ most.take k ∧ x ≠ rd most k := by
      rw [List.take_succ_eq_append_getElem (by omega), List.mem_append, List.mem_singleton, ← rd_lt (by omega)] at h
      exact ⟨fun g => h (.inl g), fun g => h (.inr g)⟩
    unfold roomK
    rw [upd_other hx.2]
    exact roomK_out q r most k x hx.1 (by omega)

theorem nodup_ne {l : List Int} (h : l.Nodup) {i j : Nat} (hij : i < j) (hj : j < l.length) : l[i] ≠ l[j] := List.pairwise_iff_getElem.1 h i j (by omega) hj hij
theorem sum_congr {T : List Int} {f g : Int → Int} (h : ∀ x ∈ T, f x = g x) : (T.map f).sum = (T.map g).sum := by rw [List.map_congr_left h]
theorem sum_upd {T : List Int} {f : Int → Int} {t v : Int} (hn : T.Nodup) (ht : t ∈ T) : (T.map (upd f t v)).sum = (T.map f).sum - f t + v := by
  induction T with
  | nil => cases ht
  | cons a l ih =>
    rw [List.nodup_cons] at hn
    rw [List.map_cons, List.sum_cons, List.map_cons, List.sum_cons]
    by_cases hat : a = t
    · subst hat
      rw [upd_same, sum_congr (f := upd f a v) (g := f) (fun x hx => upd_other (fun e => hn.1 (e ▸ hx)))]
      omega
    · rw [upd_other hat, ih hn.2 (by cases ht with | head => exact absurd rfl hat | tail _ h => exact h)]
      omega
theorem sum_upd_out {T : List Int} {f : Int → Int} {t v : Int} (ht : t ∉ T) : (T.map (upd f t v)).sum = (T.map f).sum :=
  sum_congr fun _ hx => upd_other (fun e => ht (e ▸ hx))
theorem roomK_sum (q r : Nat) (most : List Int) (hn : most.Nodup) : ∀ k, k ≤ most.length → ((most.take k).map (roomK q r most k)).sum = (k * q + min k r : Nat)
  | 0, _ => by simp
  | k + 1, hk => by
    have ih := roomK_sum q r most hn k (by omega)
    have hnot : rd most k ∉ most.take k := by
      rw [rd_lt (by omega)]
      intro h
      obtain ⟨i, hi, e⟩ := List.mem_iff_getElem.1 h
      rw [List.length_take, Nat.lt_min] at hi
      rw [List.getElem_take] at e
      exact nodup_ne hn (i := i) (j := k) hi.1 (by omega) e
    rw [List.take_succ_eq_append_getElem (by omega), List.map_append, List.sum_append, ← rd_lt (by omega)]
    rw [show roomK q r most (k + 1) = upd (roomK q r most k) (rd most k) (if k < r then (q : Int) + 1 else q) from rfl, sum_upd_out hnot, ih]
    simp only [List.map_cons, List.map_nil, List.sum_cons, List.sum_nil, upd_same]
    have e1 : ((k + 1) * q : Nat) = k * q + q := Nat.succ_mul k q
    split
    · rw [e1, Nat.min_eq_left (by omega), Nat.min_eq_left (by omega)]; push_cast; omega
    · rw [e1, Nat.min_eq_right (by omega), Nat.min_eq_right (by omega)]; push_cast; omega

/-- Those who keep what they have. -/
def keepS (room : Int → Int) (os : List Int) : Nat → List Int × (Int → Int)
  | 0 => ([], room)
  | k + 1 => if 0 < (keepS room os k).2 (rd os k) then ((keepS room os k).1 ++ [rd os k], upd (keepS room os k).2 (rd os k) ((keepS room os k).2 (rd os k) - 1)) else ((keepS room os k).1 ++ [0], (keepS room os k).2)
theorem keepS_len (room : Int → Int) (os : List Int) : ∀ k, (keepS room os k).1.length = k
  | 0 => rfl
  | k + 1 => by unfold keepS; split <;> simp [keepS_len room os k]
theorem keepS_bd {room : Int → Int} {os : List Int} {B : Int} (h : ∀ x, 0 ≤ room x ∧ room x ≤ B) : ∀ k x, 0 ≤ (keepS room os k).2 x ∧ (keepS room os k).2 x ≤ B
  | 0, x => h x
  | k + 1, x => by
    have := keepS_bd (os := os) h k x
    have h2 := keepS_bd (os := os) h k (rd os k)
    unfold keepS
    split
    · unfold upd
      simp only
      split
      · omega
      · exact this
    · exact this
theorem keepS_out {room : Int → Int} {os T : List Int} (h : ∀ x, x ∉ T → room x = 0) : ∀ k x, x ∉ T → (keepS room os k).2 x = 0
  | 0, x, hx => h x hx
  | k + 1, x, hx => by
    have ih := keepS_out (os := os) h k
    unfold keepS
    split
    · rename_i hp
      simp only
      rw [upd_other]
      · exact ih x hx
      · rintro rfl
        rw [ih _ hx] at hp
        omega
    · exact ih x hx
/-- How many are shared out already. -/
def nz (l : List Int) : Nat := l.countP (fun x => x != 0)
theorem keepS_sum {room : Int → Int} {os T : List Int} (hn : T.Nodup) (h1 : ∀ x ∈ T, x ≠ 0) (h : ∀ x, x ∉ T → room x = 0) : ∀ k, (T.map (keepS room os k).2).sum = (T.map room).sum - nz (keepS room os k).1
  | 0 => by simp [keepS, nz]
  | k + 1 => by
    have ih := keepS_sum (os := os) hn h1 h k
    have ho := keepS_out (os := os) h k
    unfold keepS
    split
    · rename_i hp
      have hm : rd os k ∈ T := by
        by_cases hm : rd os k ∈ T
        · exact hm
        · rw [ho _ hm] at hp; omega
      simp only
      rw [sum_upd hn hm, ih]
      have : nz ((keepS room os k).1 ++ [rd os k]) = nz (keepS room os k).1 + 1 := by
        unfold nz
        rw [List.countP_append, List.countP_singleton, if_pos (by simpa using h1 _ hm)]
      rw [this]
      push_cast
      omega
    · simp only
      rw [ih]
      have : nz ((keepS room os k).1 ++ [0]) = nz (keepS room os k).1 := by
        unfold nz
        rw [List.countP_append, List.countP_singleton]
        simp
      rw [this]

/-- The next one who has room. -/
def nxt (room : Int → Int) (T : List Int) (j : Nat) : Nat := j + ((T.drop j).takeWhile (fun t => room t == 0)).length
def fillS (T L : List Int) (room : Int → Int) : Nat → List Int × (Int → Int) × Nat
  | 0 => ([], room, 0)
  | k + 1 =>
    if rd L k ≠ 0 then ((fillS T L room k).1 ++ [rd L k], (fillS T L room k).2.1, (fillS T L room k).2.2)
    else ((fillS T L room k).1 ++ [rd T (nxt (fillS T L room k).2.1 T (fillS T L room k).2.2)], upd (fillS T L room k).2.1 (rd T (nxt (fillS T L room k).2.1 T (fillS T L room k).2.2)) ((fillS T L room k).2.1 (rd T (nxt (fillS T L room k).2.1 T (fillS T L room k).2.2)) - 1), nxt (fillS T L room k).2.1 T (fillS T L room k).2.2)
theorem fillS_len (T L : List Int) (room : Int → Int) : ∀ k, (fillS T L room k).1.length = k
  | 0 => rfl
  | k + 1 => by unfold fillS; split <;> simp [fillS_len T L room k]

theorem nxt_ge (room : Int → Int) (T : List Int) (j : Nat) : j ≤ nxt room T j := Nat.le_add_right _ _
theorem nxt_spec {room : Int → Int} {T : List Int} {j i : Nat} (hi : i < T.length) (hji : j ≤ i) (hz : ∀ l, j ≤ l → l < i → room (rd T l) = 0) (hr : room (rd T i) ≠ 0) : nxt room T j = i := by
  unfold nxt
  have e : (T.drop j).takeWhile (fun t => room t == 0) = (T.drop j).take (i - j) := by
    have hlen : i - j < (T.drop j).length := by rw [List.length_drop]; omega
    have h1 : ∀ (M : List Int) (n : Nat), n < M.length → (∀ l, l < n → room (rd M l) = 0) → room (rd M n) ≠ 0 → M.takeWhile (fun t => room t == 0) = M.take n := by
      intro M
      induction M with
      | nil => intro n hn _ _; simp at hn
      | cons a l ih =>
        intro n hn h2 h3
        cases n with
        | zero =>
          have : room a ≠ 0 := by simpa [rd] using h3
          simp [this]
        | succ n =>
          have ha : room a = 0 := by simpa [rd] using h2 0 (by omega)
          rw [List.takeWhile_cons, List.take_succ_cons]
          simp only [ha, beq_self_eq_true, if_true]
          rw [ih n (by simpa using hn) (fun l hl => by have := h2 (l + 1) (by omega); simpa [rd] using this) (by simpa [rd] using h3)]
    refine h1 _ _ hlen (fun l hl => ?_) ?_
    · rw [show rd (T.drop j) l = rd T (j + l) by unfold rd; rw [List.getD_eq_getElem?_getD, List.getD_eq_getElem?_getD, List.getElem?_drop]]
      exact hz _ (by omega) (by omega)
    · rw [show rd (T.drop j) (i - j) = rd T (j + (i - j)) by unfold rd; rw [List.getD_eq_getElem?_getD, List.getD_eq_getElem?_getD, List.getElem?_drop]]
      rw [show j + (i - j) = i by omega]
      exact hr
  rw [e, List.length_take, List.length_drop]
  omega

/-- What holds while parts are filled in. -/
structure Fi (T L : List Int) (s : List Int × (Int → Int) × Nat) (k : Nat) (B : Int) : Prop where
  bd : ∀ x, 0 ≤ s.2.1 x ∧ s.2.1 x ≤ B
  sum : (T.map s.2.1).sum = ((L.drop k).countP (fun x => x == 0) : Nat)
  low : ∀ j, j < s.2.2 → s.2.1 (rd T j) = 0
  at_ : s.2.2 ≤ T.length
theorem sum_zero {T : List Int} {f : Int → Int} (h : ∀ x ∈ T, f x = 0) : (T.map f).sum = 0 := by
  induction T with
  | nil => rfl
  | cons a l ih => rw [List.map_cons, List.sum_cons, h a List.mem_cons_self, ih fun x hx => h x (List.mem_cons_of_mem _ hx)]; rfl
/-- While a part is nobody's there is a next one who has room. -/
theorem Fi.next {T L : List Int} {s : List Int × (Int → Int) × Nat} {k : Nat} {B : Int} (h : Fi T L s k B) (hk : k < L.length) (hz : rd L k = 0) :
    s.2.2 ≤ nxt s.2.1 T s.2.2 ∧ nxt s.2.1 T s.2.2 < T.length ∧ s.2.1 (rd T (nxt s.2.1 T s.2.2)) ≠ 0 ∧ ∀ l, s.2.2 ≤ l → l < nxt s.2.1 T s.2.2 → s.2.1 (rd T l) = 0 := by
  have hpos : 0 < (T.map s.2.1).sum := by
    rw [h.sum]
    have : 0 < (L.drop k).countP (fun x => x == 0) := by
      rw [List.countP_pos_iff]
      refine ⟨L[k], ?_, ?_⟩
      · rw [List.mem_iff_getElem]
        exact ⟨0, by rw [List.length_drop]; omega, by simp⟩
      · rw [rd_lt hk] at hz
        simp [hz]
    omega
  have hex : ∃ i, i < T.length ∧ s.2.1 (rd T i) ≠ 0 := by
    apply Classical.byContradiction
    intro hno
    have : ∀ x ∈ T, s.2.1 x = 0 := fun x hx => by
      obtain ⟨i, hi, e⟩ := List.mem_iff_getElem.1 hx
      apply Classical.byContradiction
      intro hne
      exact hno ⟨i, hi, by rw [rd_lt hi, e]; exact hne⟩
    rw [sum_zero this] at hpos
    omega
  obtain ⟨i, hi, hne⟩ := hex
  have key : ∀ n i, i ≤ n → i < T.length → s.2.1 (rd T i) ≠ 0 → ∃ i, i < T.length ∧ s.2.1 (rd T i) ≠ 0 ∧ ∀ l, l < i → s.2.1 (rd T l) = 0 := by
    intro n
    induction n with
    | zero => intro i hin hi hne; exact ⟨i, hi, hne, fun l hl => by omega⟩
    | succ n ih =>
      intro i hin hi hne
      by_cases hc : ∃ l, l < i ∧ s.2.1 (rd T l) ≠ 0
      · obtain ⟨l, hl, hln⟩ := hc
        exact ih l (by omega) (by omega) hln
      · exact ⟨i, hi, hne, fun l hl => by
          apply Classical.byContradiction
          intro hn
          exact hc ⟨l, hl, hn⟩⟩
  obtain ⟨i, hi, hne, hmin⟩ := key i i (Nat.le_refl _) hi hne
  have hji : s.2.2 ≤ i := by
    rcases Nat.lt_or_ge i s.2.2 with h1 | h1
    · exact absurd (h.low i h1) hne
    · exact h1
  rw [nxt_spec hi hji (fun l _ h2 => hmin l h2) hne]
  exact ⟨hji, hi, hne, fun l _ h2 => hmin l h2⟩

theorem drop_count {L : List Int} {k : Nat} (hk : k < L.length) : (L.drop k).countP (fun x => x == 0) = (if rd L k = 0 then 1 else 0) + (L.drop (k + 1)).countP (fun x => x == 0) := by
  rw [List.drop_eq_getElem_cons hk, List.countP_cons, ← rd_lt hk]
  by_cases h : rd L k = 0
  · simp [h]; omega
  · simp [h]
theorem fillS_ok {T L : List Int} {room : Int → Int} {B : Int} (hn : T.Nodup) (h : ∀ x, 0 ≤ room x ∧ room x ≤ B) (hs : (T.map room).sum = (L.countP (fun x => x == 0) : Nat)) : ∀ k, k ≤ L.length → Fi T L (fillS T L room k) k B
  | 0, _ => ⟨h, by simpa [fillS] using hs, fun j hj => by simp [fillS] at hj, by simp [fillS]⟩
  | k + 1, hk => by
    have ih := fillS_ok hn h hs k (by omega)
    have hd := drop_count (L := L) (k := k) (by omega)
    unfold fillS
    split
    · rename_i hne
      rw [if_neg hne] at hd
      exact ⟨ih.bd, by simp only; rw [ih.sum, hd]; omega, ih.low, ih.at_⟩
    · rename_i hz
      have hz : rd L k = 0 := Classical.not_not.1 hz
      rw [if_pos hz] at hd
      obtain ⟨a1, a2, a3, a4⟩ := ih.next (by omega) hz
      obtain ⟨j, hj⟩ : ∃ j, j = nxt (fillS T L room k).2.1 T (fillS T L room k).2.2 := ⟨_, rfl⟩
      rw [← hj] at a1 a2 a3 a4 ⊢
      have hm : rd T j ∈ T := by rw [rd_lt a2]; exact List.getElem_mem _
      have b1 := ih.bd (rd T j)
      refine ⟨fun x => ?_, ?_, fun l hl => ?_, by simp only; omega⟩
      · simp only
        unfold upd
        split
        · omega
        · exact ih.bd x
      · simp only
        rw [sum_upd hn hm, ih.sum, hd]
        push_cast
        omega
      · simp only at hl ⊢
        rw [upd_other]
        · by_cases hl2 : l < (fillS T L room k).2.2
          · exact ih.low l hl2
          · exact a4 l (by omega) hl
        · rw [rd_lt (by omega), rd_lt a2]
          intro e
          exact nodup_ne hn (i := l) (j := j) hl a2 e

/-- The room that each member has before parts are given. -/
def roomF (os ms : List Int) : Int → Int := roomK (os.length / (team ms).length) (os.length % (team ms).length) ((team ms).mergeSort (leH (hasF os))) (team ms).length
def share (os ms : List Int) : List Int :=
  if (team ms).length = 0 then List.replicate os.length 0
  else (fillS (team ms) (keepS (roomF os ms) os os.length).1 (keepS (roomF os ms) os os.length).2 os.length).1
theorem share_len (os ms : List Int) : (share os ms).length = os.length := by
  unfold share
  split
  · simp
  · exact fillS_len _ _ _ _

theorem bang_rd (s : List Int) (j : Nat) : s.toArray[j]! = rd s j := by
  unfold rd
  rw [List.getD_eq_getElem?_getD]
  simp only [getElem!_def, List.getElem?_toArray]
  cases s[j]? <;> rfl

theorem sorted_mono {s : List Int} (h : s.Pairwise (· ≤ ·)) {i j : Nat} (hij : i ≤ j) (hj : j < s.length) : rd s i ≤ rd s j := by
  rw [rd_lt (by omega), rd_lt hj]
  rcases Nat.lt_or_eq_of_le hij with h1 | rfl
  · exact List.pairwise_iff_getElem.1 h i j (by omega) hj h1
  · exact Int.le_refl _

theorem compactUpTo_what {s : List Int} (h : s.Pairwise (· ≤ ·)) : ∀ m, m ≤ s.length → (∀ x, x ∈ Lib.compactUpTo s.toArray m ↔ ∃ j, j < m ∧ rd s j = x) ∧ (Lib.compactUpTo s.toArray m).Pairwise (· < ·) := by
  intro m
  induction m with
  | zero => intro _; simp [Lib.compactUpTo]
  | succ m ih =>
    intro hm
    obtain ⟨i1, i2⟩ := ih (by omega)
    rw [Lib.compactUpTo_succ]
    cases hk : Lib.keeps s.toArray m with
    | false =>
      have hm0 : 0 < m := by
        rcases Nat.eq_zero_or_pos m with h0 | h0
        · subst h0; rw [Lib.keeps_lt_one _ 0 (by omega)] at hk; cases hk
        · exact h0
      have he : rd s m = rd s (m - 1) := by
        apply Classical.byContradiction
        intro hne
        rw [Lib.keeps_pos (by rw [bang_rd, bang_rd]; exact hne)] at hk
        cases hk
      simp only [Bool.false_eq_true, if_false, List.append_nil]
      refine ⟨fun x => ?_, i2⟩
      rw [i1]
      constructor
      · rintro ⟨j, hj, rfl⟩; exact ⟨j, by omega, rfl⟩
      · rintro ⟨j, hj, rfl⟩
        rcases Nat.lt_succ_iff_lt_or_eq.1 hj with h1 | rfl
        · exact ⟨j, h1, rfl⟩
        · exact ⟨j - 1, by omega, he.symm⟩
    | true =>
      simp only [if_true]
      rw [bang_rd]
      refine ⟨fun x => ?_, ?_⟩
      · rw [List.mem_append, i1, List.mem_singleton]
        constructor
        · rintro (⟨j, hj, rfl⟩ | rfl)
          · exact ⟨j, by omega, rfl⟩
          · exact ⟨m, by omega, rfl⟩
        · rintro ⟨j, hj, rfl⟩
          rcases Nat.lt_succ_iff_lt_or_eq.1 hj with h1 | rfl
          · exact .inl ⟨j, h1, rfl⟩
          · exact .inr rfl
      · rw [List.pairwise_append]
        refine ⟨i2, by simp, fun a ha b hb => ?_⟩
        rw [List.mem_singleton] at hb
        subst hb
        obtain ⟨j, hj, rfl⟩ := (i1 a).1 ha
        have h1 := sorted_mono h (i := j) (j := m - 1) (by omega) (by omega)
        have h2 := sorted_mono h (i := m - 1) (j := m) (by omega) (by omega)
        have h3 : rd s m ≠ rd s (m - 1) := by
          intro he
          rw [Lib.keeps_neg (by omega) (by rw [bang_rd, bang_rd]; exact he)] at hk
          cases hk
        omega

theorem same_rising {a b : List Int} (ha : a.Pairwise (· < ·)) (hb : b.Pairwise (· < ·)) (h : ∀ x, x ∈ a ↔ x ∈ b) : a = b := by
  induction a generalizing b with
  | nil =>
    cases b with
    | nil => rfl
    | cons y b => exact absurd ((h y).2 (by simp)) (by simp)
  | cons x a ih =>
    cases b with
    | nil => exact absurd ((h x).1 (by simp)) (by simp)
    | cons y b =>
      rw [List.pairwise_cons] at ha hb
      have hxy : x = y := by
        have h1 := (h x).1 (by simp)
        have h2 := (h y).2 (by simp)
        rw [List.mem_cons] at h1 h2
        rcases h1 with h1 | h1
        · exact h1
        · rcases h2 with h2 | h2
          · exact h2.symm
          · have := hb.1 x h1; have := ha.1 y h2; omega
      subst hxy
      rw [ih ha.2 hb.2 (fun z => by
        have := h z
        rw [List.mem_cons, List.mem_cons] at this
        constructor
        · intro hz
          rcases this.1 (.inr hz) with e | e
          · have := ha.1 z hz; omega
          · exact e
        · intro hz
          rcases this.2 (.inr hz) with e | e
          · have := hb.1 z hz; omega
          · exact e)]

theorem compact_sorted {xs : List Int} (h : xs.Pairwise (· ≤ ·)) : (Lib.compact xs).Pairwise (· < ·) ∧ ∀ x, x ∈ Lib.compact xs ↔ x ∈ xs := by
  obtain ⟨h3, h4⟩ := compactUpTo_what h xs.length (Nat.le_refl _)
  have e : Lib.compact xs = Lib.compactUpTo xs.toArray xs.length := rfl
  rw [e]
  refine ⟨h4, fun x => ?_⟩
  rw [h3]
  constructor
  · rintro ⟨j, hj, rfl⟩; rw [rd_lt hj]; exact List.getElem_mem _
  · intro hx
    obtain ⟨j, hj, he⟩ := List.mem_iff_getElem.1 hx
    exact ⟨j, hj, by rw [rd_lt hj]; exact he⟩
/-- The team: above 0, rising, each once. -/
theorem team_what (ms : List Int) : (team ms).Pairwise (· < ·) ∧ ∀ x, x ∈ team ms ↔ x ∈ ms ∧ 1 ≤ x := by
  obtain ⟨h1, h2⟩ := compact_sorted (sorted_pair ms)
  refine ⟨h1.filter _, fun x => ?_⟩
  unfold team low1
  rw [List.mem_filter, h2, (sorted_perm ms).mem_iff]
  simp
theorem team_nodup (ms : List Int) : (team ms).Nodup := (team_what ms).1.imp fun h => Int.ne_of_lt h
theorem team_len (ms : List Int) : (team ms).length ≤ ms.length := by
  unfold team
  refine Nat.le_trans (List.length_filter_le _ _) ?_
  have := Lib.compact_length_le (sorted ms)
  rwa [sorted_length] at this

end Go.Proofs.Ytemnhmnompehoaa
