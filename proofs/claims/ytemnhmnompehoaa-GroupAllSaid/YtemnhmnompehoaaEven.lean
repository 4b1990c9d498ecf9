/-
  How many parts each member has in the end: plain numbers.
-/
import Derived.Test.YtemnhmnompehoaaShare
namespace Go.Proofs.Ytemnhmnompehoaa
open Go Go.RowKit

theorem upd_self (f : Int → Int) (x v : Int) : upd f x v x = v := by simp [upd]
theorem upd_ne (f : Int → Int) {x y : Int} (v : Int) (h : y ≠ x) : upd f x v y = f y := by simp [upd, h]
theorem keepS_cnt (room : Int → Int) (os : List Int) (x : Int) (hx : x ≠ 0) : ∀ k, ((keepS room os k).1.countP (· == x) : Int) + (keepS room os k).2 x = room x
  | 0 => by simp [keepS]
  | k + 1 => by
    have ih := keepS_cnt room os x hx k
    unfold keepS
    split
    · by_cases e : x = rd os k
      · subst e
        dsimp only
        rw [List.countP_append, upd_self]
        simp
        omega
      · dsimp only
        rw [List.countP_append, upd_ne _ _ e]
        have : (rd os k == x) = false := by simpa using fun h => e h.symm
        simp [this]
        omega
    · rw [List.countP_append]
      have : ((0 : Int) == x) = false := by simpa using fun h => hx h.symm
      simp [this]
      omega
theorem fillS_cnt (T L : List Int) (room : Int → Int) (x : Int) (hx : x ≠ 0) : ∀ k, k ≤ L.length → ((fillS T L room k).1.countP (· == x) : Int) + (fillS T L room k).2.1 x = ((L.take k).countP (· == x) : Int) + room x
  | 0, _ => by simp [fillS]
  | k + 1, hk => by
    have ih := fillS_cnt T L room x hx k (by omega)
    have et : L.take (k + 1) = L.take k ++ [rd L k] := by rw [List.take_add_one, List.getElem?_eq_getElem (by omega), rd_lt (by omega)]; rfl
    unfold fillS
    split
    · rw [et, List.countP_append, List.countP_append]
      dsimp only
      omega
    · rename_i h0
      have h0' : rd L k = 0 := by simpa using h0
      have hz : ([rd L k] : List Int).countP (· == x) = 0 := by rw [h0']; simp; exact fun h => hx h.symm
      rw [et, List.countP_append (l₁ := L.take k), hz]
      generalize hy : rd T (nxt (fillS T L room k).2.1 T (fillS T L room k).2.2) = y
      dsimp only
      rw [List.countP_append]
      by_cases e : x = y
      · subst e
        rw [upd_self]
        simp
        omega
      · rw [upd_ne _ _ e]
        have : (y == x) = false := by simpa using fun h => e h.symm
        simp [this]
        omega
theorem keepS_mem {room : Int → Int} {os T : List Int} (h : ∀ x, x ∉ T → room x = 0) : ∀ k, ∀ o ∈ (keepS room os k).1, o ≠ 0 → o ∈ T
  | 0 => by intro o ho; simp [keepS] at ho
  | k + 1 => by
    have ih := keepS_mem (os := os) h k
    unfold keepS
    split
    · rename_i hp
      intro o ho h0
      rcases List.mem_append.1 ho with ho | ho
      · exact ih o ho h0
      · simp at ho
        subst ho
        apply Decidable.byContradiction
        intro hn
        rw [keepS_out (os := os) h k _ hn] at hp
        omega
    · intro o ho h0
      rcases List.mem_append.1 ho with ho | ho
      · exact ih o ho h0
      · simp at ho
        exact absurd ho h0
theorem fillS_mem {T L : List Int} {room : Int → Int} {B : Int} (hn : T.Nodup) (h : ∀ x, 0 ≤ room x ∧ room x ≤ B) (hs : (T.map room).sum = (L.countP (fun x => x == 0) : Nat)) (hL : ∀ o ∈ L, o ≠ 0 → o ∈ T) : ∀ k, k ≤ L.length → ∀ o ∈ (fillS T L room k).1, o ∈ T
  | 0, _ => by intro o ho; simp [fillS] at ho
  | k + 1, hk => by
    have ih := fillS_mem hn h hs hL k (by omega)
    have F := fillS_ok hn h hs k (by omega)
    unfold fillS
    split
    · rename_i h0
      intro o ho
      rcases List.mem_append.1 ho with ho | ho
      · exact ih o ho
      · simp at ho
        subst ho
        refine hL _ ?_ h0
        rw [rd_lt (by omega)]
        exact List.getElem_mem _
    · rename_i h0
      have hx := F.next (by omega) (by simpa using h0)
      intro o ho
      rcases List.mem_append.1 ho with ho | ho
      · exact ih o ho
      · simp at ho
        subst ho
        rw [rd_lt hx.2.1]
        exact List.getElem_mem _
theorem sum_nonneg_zero {T : List Int} {f : Int → Int} (h : ∀ x, 0 ≤ f x) (hs : (T.map f).sum = 0) : ∀ x ∈ T, f x = 0 := by
  induction T with
  | nil => intro x hx; simp at hx
  | cons a l ih =>
    have hl : 0 ≤ (l.map f).sum := by
      clear ih hs
      induction l with
      | nil => simp
      | cons b m im => rw [List.map_cons, List.sum_cons]; have := h b; omega
    rw [List.map_cons, List.sum_cons] at hs
    have ha := h a
    intro x hx
    rcases List.mem_cons.1 hx with rfl | hx
    · omega
    · exact ih (by omega) x hx
theorem roomK_val (q r : Nat) (most : List Int) : ∀ k, k ≤ most.length → ∀ x ∈ most.take k, roomK q r most k x = q ∨ roomK q r most k x = q + 1
  | 0, _ => by intro x hx; simp at hx
  | k + 1, hk => by
    have ih := roomK_val q r most k (by omega)
    have et : most.take (k + 1) = most.take k ++ [rd most k] := by rw [List.take_add_one, List.getElem?_eq_getElem (by omega), rd_lt (by omega)]; rfl
    intro x hx
    unfold roomK
    by_cases e : x = rd most k
    · subst e
      rw [upd_self]
      split <;> simp
    · rw [upd_ne _ _ e]
      rw [et] at hx
      rcases List.mem_append.1 hx with hx | hx
      · exact ih x hx
      · simp at hx; exact absurd hx e
theorem roomF_val (os ms : List Int) {x : Int} (hx : x ∈ team ms) : roomF os ms x = (os.length / (team ms).length : Nat) ∨ roomF os ms x = ((os.length / (team ms).length : Nat) : Int) + 1 := by
  have hp := List.mergeSort_perm (team ms) (leH (hasF os))
  have hl : ((team ms).mergeSort (leH (hasF os))).length = (team ms).length := List.length_mergeSort _
  refine roomK_val _ _ _ _ (by omega) x ?_
  rw [← hl, List.take_length]
  exact hp.mem_iff.2 hx
theorem roomF_bd (os ms : List Int) (x : Int) : 0 ≤ roomF os ms x ∧ roomF os ms x ≤ ((os.length / (team ms).length : Nat) : Int) + 1 := roomK_bd _ _ _ _ x
theorem share_fill (os ms : List Int) (hT : (team ms).length ≠ 0) : share os ms = (fillS (team ms) (keepS (roomF os ms) os os.length).1 (keepS (roomF os ms) os os.length).2 os.length).1 := by
  unfold share
  rw [if_neg hT]
theorem share_mem (os ms : List Int) (hT : (team ms).length ≠ 0) : ∀ o ∈ share os ms, o ∈ team ms := by
  rw [share_fill os ms hT]
  refine fillS_mem (team_nodup ms) (keepS_bd (roomF_bd os ms) os.length) (share_fi os ms hT) ?_ os.length (by rw [keepS_len]; omega)
  exact keepS_mem (fun x hx => roomF_out os ms hx) os.length
theorem share_cnt (os ms : List Int) {x : Int} (hx : x ∈ team ms) : ((share os ms).countP (· == x) : Int) = roomF os ms x := by
  have hT : (team ms).length ≠ 0 := by have := List.length_pos_of_mem hx; omega
  have hx0 : x ≠ 0 := by have := ((team_what ms).2 x).1 hx; omega
  have F := fillS_ok (team_nodup ms) (keepS_bd (roomF_bd os ms) os.length) (share_fi os ms hT) os.length (by rw [keepS_len]; omega)
  have h1 := fillS_cnt (team ms) (keepS (roomF os ms) os os.length).1 (keepS (roomF os ms) os os.length).2 x hx0 os.length (by rw [keepS_len]; omega)
  have h2 := keepS_cnt (roomF os ms) os x hx0 os.length
  have hd : (keepS (roomF os ms) os os.length).1.drop os.length = [] := List.drop_eq_nil_of_le (by rw [keepS_len]; omega)
  have ht : (keepS (roomF os ms) os os.length).1.take os.length = (keepS (roomF os ms) os os.length).1 := List.take_of_length_le (by rw [keepS_len]; omega)
  have h3 := sum_nonneg_zero (fun x => (F.bd x).1) (by rw [F.sum, hd]; rfl) x hx
  rw [share_fill os ms hT]
  rw [ht] at h1
  omega
