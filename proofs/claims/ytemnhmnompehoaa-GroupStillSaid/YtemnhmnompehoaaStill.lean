/-
  As many parts as can be stay where they were: plain numbers.
-/
import Derived.Test.YtemnhmnompehoaaEven
import Derived.Test.YtemnhmnompehoaaRShare
namespace Go.Proofs.Ytemnhmnompehoaa
open Go Go.RowKit

/-- What room is left behind the first k parts. -/
theorem keepS_left (room : Int → Int) (os : List Int) (h : ∀ x, 0 ≤ room x) (x : Int) : ∀ k, k ≤ os.length → (keepS room os k).2 x = max (room x - hasK os k x) 0
  | 0, _ => by simp [keepS, hasK_zero]; have := h x; omega
  | k + 1, hk => by
    have ih := keepS_left room os h x k (by omega)
    have hb : 0 ≤ hasK os k x := by unfold hasK; omega
    have hn := congrFun (hasK_next (os := os) (k := k) (by omega)) x
    unfold keepS
    by_cases e : x = rd os k
    · subst e
      rw [upd_self] at hn
      split
      · dsimp only
        rw [upd_self]
        omega
      · dsimp only
        omega
    · rw [upd_ne _ _ e] at hn
      split
      · dsimp only
        rw [upd_ne _ _ e]
        omega
      · dsimp only
        omega
/-- Of the parts that x has it keeps as many as it has room for. -/
theorem keepS_kept (room : Int → Int) (os : List Int) (h : ∀ x, 0 ≤ room x) {x : Int} (hx : x ≠ 0) : ((keepS room os os.length).1.countP (· == x) : Int) = min (room x) (hasF os x) := by
  have h1 := keepS_cnt room os x hx os.length
  have h2 := keepS_left room os h x os.length (Nat.le_refl _)
  rw [hasK_all] at h2
  have := h x
  have : 0 ≤ hasF os x := by unfold hasF; omega
  omega
/-- How many stand where they stood. -/
def stayS (l os : List Int) : Int := ((l.zip os).countP (fun p => p.1 == p.2) : Nat)
def both (l os : List Int) (x : Int) : Int := ((l.zip os).countP (fun p => p.1 == x && p.2 == x) : Nat)
theorem sum_add (T : List Int) (f g : Int → Int) : (T.map fun x => f x + g x).sum = (T.map f).sum + (T.map g).sum := by
  induction T with
  | nil => rfl
  | cons a l ih => simp only [List.map_cons, List.sum_cons]; omega
theorem sum_le {T : List Int} {f g : Int → Int} (h : ∀ x ∈ T, f x ≤ g x) : (T.map f).sum ≤ (T.map g).sum := by
  induction T with
  | nil => simp
  | cons a l ih =>
    simp only [List.map_cons, List.sum_cons]
    have := h a List.mem_cons_self
    have := ih fun x hx => h x (List.mem_cons_of_mem _ hx)
    omega
theorem sum_one {T : List Int} (hn : T.Nodup) {a : Int} (ha : a ∈ T) : (T.map fun x => if a = x then (1 : Int) else 0).sum = 1 := by
  induction T with
  | nil => simp at ha
  | cons b l ih =>
    rw [List.nodup_cons] at hn
    simp only [List.map_cons, List.sum_cons]
    by_cases e : a = b
    · subst e
      rw [if_pos rfl, sum_zero fun x hx => by rw [if_neg]; rintro rfl; exact hn.1 hx]
      rfl
    · rw [if_neg e, ih hn.2 (by simpa [e] using ha)]
      rfl
theorem stay_both {T : List Int} (hn : T.Nodup) : ∀ (l os : List Int), (∀ o ∈ l, o ∈ T) → stayS l os = (T.map (both l os)).sum
  | [], os, _ => by unfold stayS; rw [sum_zero (fun x _ => by simp [both])]; simp
  | a :: l, [], _ => by unfold stayS; rw [sum_zero (fun x _ => by simp [both])]; simp
  | a :: l, b :: os, h => by
    have ih := stay_both hn l os fun o ho => h o (List.mem_cons_of_mem _ ho)
    have e1 : stayS (a :: l) (b :: os) = stayS l os + (if a = b then 1 else 0) := by
      unfold stayS
      rw [List.zip_cons_cons, List.countP_cons]
      by_cases e : a = b <;> simp [e]
    have e2 : ∀ x, both (a :: l) (b :: os) x = both l os x + (if a = b then (if a = x then 1 else 0) else 0) := by
      intro x
      unfold both
      rw [List.zip_cons_cons, List.countP_cons]
      by_cases e : a = b
      · subst e
        by_cases e' : a = x <;> simp [e']
      · by_cases e' : a = x
        · subst e'
          have : ¬ b = a := fun h => e h.symm
          simp [e, this]
        · simp [e, e']
    rw [e1, List.map_congr_left (fun x _ => e2 x), sum_add, ← ih]
    congr 1
    by_cases e : a = b
    · simp only [e, if_true]
      rw [sum_one hn (h b (by rw [← e]; exact List.mem_cons_self))]
    · simp only [e, if_false]
      rw [sum_zero fun _ _ => rfl]
theorem both_le (l os : List Int) (x : Int) : both l os x ≤ (l.countP (· == x) : Nat) ∧ both l os x ≤ hasF os x := by
  unfold both hasF
  induction l generalizing os with
  | nil => simp
  | cons a l ih =>
    cases os with
    | nil => simp
    | cons b os =>
      have := ih os
      rw [List.zip_cons_cons, List.countP_cons, List.countP_cons, List.countP_cons]
      dsimp only
      by_cases e1 : a = x <;> by_cases e2 : b = x <;> simp [e1, e2] <;> omega
theorem nz_sum {T : List Int} (hn : T.Nodup) (h0 : (0 : Int) ∉ T) : ∀ A : List Int, (∀ o ∈ A, o ≠ 0 → o ∈ T) → ((nz A : Nat) : Int) = (T.map fun x => ((A.countP (· == x) : Nat) : Int)).sum
  | [], _ => by rw [sum_zero (fun x _ => by simp)]; rfl
  | a :: A, h => by
    have ih := nz_sum hn h0 A fun o ho => h o (List.mem_cons_of_mem _ ho)
    have e2 : ∀ x, (((a :: A).countP (· == x) : Nat) : Int) = ((A.countP (· == x) : Nat) : Int) + (if a = x then 1 else 0) := by
      intro x
      rw [List.countP_cons]
      by_cases e : a = x <;> simp [e]
    rw [List.map_congr_left (fun x _ => e2 x), sum_add, ← ih]
    unfold nz
    rw [List.countP_cons]
    by_cases e : a = 0
    · subst e
      rw [sum_zero fun x hx => by rw [if_neg]; rintro rfl; exact h0 hx]
      simp
    · rw [sum_one hn (h a List.mem_cons_self e)]
      simp [e]
theorem rd_cons_succ (a : Int) (l : List Int) (j : Nat) : rd (a :: l) (j + 1) = rd l j := by simp [rd]
theorem rd_cons_zero (a : Int) (l : List Int) : rd (a :: l) 0 = a := by simp [rd]
theorem nz_stay : ∀ A l os : List Int, A.length = l.length → l.length = os.length → (∀ j, j < A.length → rd A j ≠ 0 → rd l j = rd os j) → ((nz A : Nat) : Int) ≤ stayS l os
  | [], l, os, _, _, _ => by unfold stayS nz; simp
  | a :: A, [], os, h, _, _ => by simp at h
  | a :: A, c :: l, [], _, h, _ => by simp at h
  | a :: A, c :: l, b :: os, h1, h2, h => by
    have ih := nz_stay A l os (by simpa using h1) (by simpa using h2) fun j hj h0 => by
      have := h (j + 1) (by simp; omega)
      rw [rd_cons_succ, rd_cons_succ, rd_cons_succ] at this
      exact this h0
    have hh := h 0 (by simp)
    rw [rd_cons_zero, rd_cons_zero, rd_cons_zero] at hh
    unfold nz stayS at *
    rw [List.zip_cons_cons, List.countP_cons, List.countP_cons]
    by_cases e : a = 0
    · simp [e]
      split <;> omega
    · have := hh e
      simp [e, this]
      omega
theorem keepS_get (room : Int → Int) (os : List Int) : ∀ k, ∀ j, j < k → rd (keepS room os k).1 j = 0 ∨ rd (keepS room os k).1 j = rd os j
  | 0, j, h => by omega
  | k + 1, j, h => by
    have ih := keepS_get room os k j
    have hl := keepS_len room os k
    have hd : ∀ v, rd ((keepS room os k).1 ++ [v]) j = if j < k then rd (keepS room os k).1 j else v := by
      intro v
      unfold rd
      by_cases hj : j < k
      · rw [if_pos hj, List.getD_eq_getElem?_getD, List.getD_eq_getElem?_getD, List.getElem?_append_left (by omega)]
      · obtain rfl : j = k := by omega
        rw [if_neg hj, List.getD_eq_getElem?_getD, List.getElem?_append_right (by omega), hl]
        simp
    unfold keepS
    split
    · dsimp only
      rw [hd]
      split
      · exact ih (by assumption)
      · obtain rfl : j = k := by omega
        exact .inr rfl
    · rw [hd]
      split
      · exact ih (by assumption)
      · exact .inl rfl
theorem fillS_get (T L : List Int) (room : Int → Int) : ∀ k, ∀ j, j < k → rd L j ≠ 0 → rd (fillS T L room k).1 j = rd L j
  | 0, j, h, _ => by omega
  | k + 1, j, h, h0 => by
    have ih := fillS_get T L room k j
    have hl := fillS_len T L room k
    have hd : ∀ v, rd ((fillS T L room k).1 ++ [v]) j = if j < k then rd (fillS T L room k).1 j else v := by
      intro v
      unfold rd
      by_cases hj : j < k
      · rw [if_pos hj, List.getD_eq_getElem?_getD, List.getD_eq_getElem?_getD, List.getElem?_append_left (by omega)]
      · obtain rfl : j = k := by omega
        rw [if_neg hj, List.getD_eq_getElem?_getD, List.getElem?_append_right (by omega), hl]
        simp
    unfold fillS
    split
    · dsimp only
      rw [hd]
      split
      · exact ih (by assumption) h0
      · obtain rfl : j = k := by omega
        rfl
    · rename_i hz
      dsimp only
      rw [hd]
      split
      · exact ih (by assumption) h0
      · obtain rfl : j = k := by omega
        exact absurd h0 hz
/-- Who is told the room of one more stands ahead of who is not. -/
theorem roomK_at (q r : Nat) (most : List Int) (hn : most.Nodup) : ∀ k, k ≤ most.length → ∀ i, i < k → roomK q r most k (rd most i) = if i < r then (q : Int) + 1 else q
  | 0, _, i, h => by omega
  | k + 1, hk, i, hi => by
    have ih := roomK_at q r most hn k (by omega) i
    unfold roomK
    by_cases e : i = k
    · subst e
      rw [upd_self]
    · rw [upd_ne]
      · exact ih (by omega)
      · rw [rd_lt (by omega), rd_lt (by omega)]
        exact nodup_ne hn (i := i) (j := k) (by omega) (by omega)
theorem roomF_order (os ms : List Int) {x y : Int} (hx : x ∈ team ms) (hy : y ∈ team ms) (h : roomF os ms y < roomF os ms x) : hasF os y ≤ hasF os x := by
  have hp := List.mergeSort_perm (team ms) (leH (hasF os))
  have hl : ((team ms).mergeSort (leH (hasF os))).length = (team ms).length := List.length_mergeSort _
  have hs : ((team ms).mergeSort (leH (hasF os))).Pairwise (fun x y => leH (hasF os) x y = true) := List.pairwise_mergeSort (fun a b c => leH_trans _ a b c) (fun a b => leH_total _ a b) _
  unfold roomF at h
  generalize hM : (team ms).mergeSort (leH (hasF os)) = M at *
  have hn : M.Nodup := hp.symm.nodup (team_nodup ms)
  obtain ⟨i, hi, rfl⟩ := List.mem_iff_getElem.1 (hp.mem_iff.2 hx)
  obtain ⟨j, hj, rfl⟩ := List.mem_iff_getElem.1 (hp.mem_iff.2 hy)
  rw [← rd_lt hi, ← rd_lt hj, roomK_at _ _ M hn _ (by omega) i (by omega), roomK_at _ _ M hn _ (by omega) j (by omega)] at h
  have hij : i < j := by
    split at h <;> split at h <;> omega
  have := List.pairwise_iff_getElem.1 hs i j hi hj hij
  unfold leH at this
  simp only [decide_eq_true_eq] at this
  omega
theorem len_T {T : List Int} (v : Int) : (T.map fun _ => v).sum = T.length * v := by
  induction T with
  | nil => simp
  | cons a l ih => rw [List.map_cons, List.sum_cons, ih, List.length_cons]; push_cast; rw [Int.add_mul]; omega
theorem sum_sub (T : List Int) (f g : Int → Int) : (T.map fun x => f x - g x).sum = (T.map f).sum - (T.map g).sum := by
  induction T with
  | nil => rfl
  | cons a l ih => simp only [List.map_cons, List.sum_cons]; omega
/-- A sum of terms that differ by one at most: each is the part or one more. -/
theorem even_val {T : List Int} {c : Int → Int} {n : Nat} (hs : (T.map c).sum = n) (he : ∀ x ∈ T, ∀ y ∈ T, c x ≤ c y + 1) : ∀ x ∈ T, ((n / T.length : Nat) : Int) ≤ c x ∧ c x ≤ ((n / T.length : Nat) : Int) + 1 := by
  intro x hx
  have hT : 0 < T.length := List.length_pos_of_mem hx
  have hq1 := Nat.div_mul_le_self n T.length
  have hq2 := Nat.lt_div_mul_add (a := n) hT
  obtain ⟨q, hq⟩ : ∃ q, q = n / T.length := ⟨_, rfl⟩
  rw [← hq] at hq1 hq2 ⊢
  have e1 := sum_sub T c (fun _ => (q : Int))
  rw [len_T, hs] at e1
  have e2 : (T.length : Int) * q = ((q * T.length : Nat) : Int) := by push_cast; rw [Int.mul_comm]
  rw [e2] at e1
  refine ⟨?_, ?_⟩
  · apply Decidable.byContradiction
    intro hlt
    have h1 : ∀ y ∈ T, 0 ≤ (fun y => (q : Int) - c y) y := fun y hy => by
      have := he y hy x hx
      dsimp only
      omega
    have e3 := sum_sub T (fun _ => (q : Int)) c
    rw [len_T, hs, e2] at e3
    have h2 := sum_le (T := T) (f := fun y => if x = y then 1 else 0) (g := fun y => (q : Int) - c y) (fun y hy => by
      have := h1 y hy
      dsimp only at this
      split
      · rename_i e; subst e; omega
      · omega)
    have h3 : (1 : Int) ≤ (T.map fun y => if x = y then (1 : Int) else 0).sum := by
      clear h1 h2 e1 e2 e3 he hs hT hq1 hq2 hlt hq
      induction T with
      | nil => simp at hx
      | cons a l ih =>
        rw [List.map_cons, List.sum_cons]
        have hnn : 0 ≤ (l.map fun y => if x = y then (1 : Int) else 0).sum := by
          clear ih hx
          induction l with
          | nil => simp
          | cons b m im => rw [List.map_cons, List.sum_cons]; split <;> omega
        rcases List.mem_cons.1 hx with rfl | hx
        · rw [if_pos rfl]; omega
        · have := ih hx
          split <;> omega
    omega
  · apply Decidable.byContradiction
    intro hlt
    have e3 := sum_sub T c (fun _ => (q : Int) + 1)
    rw [len_T, hs] at e3
    have e4 : (T.length : Int) * ((q : Int) + 1) = ((q * T.length + T.length : Nat) : Int) := by push_cast; rw [Int.mul_add, Int.mul_comm]; omega
    rw [e4] at e3
    have h1 : (T.map fun y => (0 : Int)).sum ≤ (T.map fun y => c y - ((q : Int) + 1)).sum := sum_le fun y hy => by
      have := he x hx y hy
      omega
    rw [sum_zero (fun _ _ => rfl)] at h1
    omega
theorem still_law (os ms W : List Int) (hT : (team ms).length ≠ 0) (hl : W.length = os.length) (hW : ∀ o ∈ W, o ∈ team ms)
    (he : ∀ x ∈ team ms, ∀ y ∈ team ms, W.countP (· == x) ≤ W.countP (· == y) + 1) : stayS W os ≤ stayS (share os ms) os := by
  have hn := team_nodup ms
  have h0 : (0 : Int) ∉ team ms := fun h => by have := ((team_what ms).2 0).1 h; omega
  have hcs : ((team ms).map fun x => ((W.countP (· == x) : Nat) : Int)).sum = os.length := by
    rw [← nz_sum hn h0 W (fun o ho _ => hW o ho)]
    have : nz W = W.length := by
      unfold nz
      rw [List.countP_eq_length]
      intro o ho
      have := hW o ho
      have : o ≠ 0 := fun e => h0 (e ▸ this)
      simpa using this
    rw [this, hl]
  have hcv := even_val hcs (fun x hx y hy => by have := he x hx y hy; omega)
  have hrs : ((team ms).map (roomF os ms)).sum = os.length := by
    have hss := nz_sum hn h0 (share os ms) (fun o ho _ => share_mem os ms hT o ho)
    rw [sum_congr (fun x hx => share_cnt os ms hx)] at hss
    rw [← hss]
    have : nz (share os ms) = (share os ms).length := by
      unfold nz
      rw [List.countP_eq_length]
      intro o ho
      have := share_mem os ms hT o ho
      have : o ≠ 0 := fun e => h0 (e ▸ this)
      simpa using this
    rw [this, share_len]
  have hrv := fun x (hx : x ∈ team ms) => roomF_val os ms (x := x) hx
  have s1 : stayS W os ≤ ((team ms).map fun x => min ((W.countP (· == x) : Nat) : Int) (hasF os x)).sum := by
    rw [stay_both hn W os hW]
    refine sum_le fun x _ => ?_
    have := both_le W os x
    omega
  have s2 : ((team ms).map fun x => min (roomF os ms x) (hasF os x)).sum ≤ stayS (share os ms) os := by
    have a := nz_stay (keepS (roomF os ms) os os.length).1 (share os ms) os (by rw [keepS_len, share_len]) (share_len os ms) (fun j hj hne => by
      rw [keepS_len] at hj
      rw [share_fill os ms hT, fillS_get _ _ _ _ j hj hne]
      rcases keepS_get (roomF os ms) os os.length j hj with h | h
      · exact absurd h hne
      · exact h)
    rw [nz_sum hn h0 _ (keepS_mem (fun x hx => roomF_out os ms hx) os.length)] at a
    rw [sum_congr (fun x hx => keepS_kept (roomF os ms) os (fun x => (roomF_bd os ms x).1) (x := x) (fun e => h0 (e ▸ hx)))] at a
    exact a
  refine Int.le_trans s1 (Int.le_trans ?_ s2)
  by_cases hex : ∃ y ∈ team ms, roomF os ms y = (os.length / (team ms).length : Nat) ∧ ((os.length / (team ms).length : Nat) : Int) < hasF os y
  · obtain ⟨y, hy, h1, h2⟩ := hex
    have a1 := sum_sub (team ms) (fun x => ((W.countP (· == x) : Nat) : Int)) (roomF os ms)
    rw [hcs, hrs] at a1
    have a2 := sum_sub (team ms) (fun x => min ((W.countP (· == x) : Nat) : Int) (hasF os x)) (fun x => min (roomF os ms x) (hasF os x))
    have a3 := sum_le (T := team ms) (f := fun x => min ((W.countP (· == x) : Nat) : Int) (hasF os x) - min (roomF os ms x) (hasF os x)) (g := fun x => ((W.countP (· == x) : Nat) : Int) - roomF os ms x) (fun x hx => by
      have c1 := hcv x hx
      rcases hrv x hx with e | e
      · omega
      · have := roomF_order os ms hx hy (by omega)
        omega)
    omega
  · refine sum_le fun x hx => ?_
    have c1 := hcv x hx
    rcases hrv x hx with e | e
    · have : ¬ ((os.length / (team ms).length : Nat) : Int) < hasF os x := fun h => hex ⟨x, hx, e, h⟩
      omega
    · omega
end Go.Proofs.Ytemnhmnompehoaa
