/-
  The reference's list of pairs, plainly: the same as the program's.
-/
import Derived.Test.YtcmkjoepndbicaaOf
namespace Go.Proofs.Ytcmkjoepndbicaa
open Go Go.RowKit

theorem tl_data (a : ByteArray) : a.toList = a.data.toList := ByteArray.toList_eq a
theorem key_iff (a b : Pr) : (a.1.toList == b.1.toList) = decide (keyP a = keyP b) := by
  unfold keyP
  rw [tl_data, tl_data]
  rw [Bool.eq_iff_iff, beq_iff_eq, decide_eq_true_eq]
theorem ltB_key (a b : Pr) : ltB a.1 b.1 = decide (keyP a < keyP b) := by
  unfold keyP
  rw [ltB_eq, tl_data, tl_data]
/-- A list without a key. -/
def woP (l : List Pr) (p : Pr) : List Pr := l.filter fun x => !decide (keyP x = keyP p)
/-- A pair put ahead of the first greater one. -/
def insP (p : Pr) : List Pr → List Pr
  | [] => [p]
  | x :: xs => if ltB p.1 x.1 then p :: x :: xs else x :: insP p xs
def withP (l : List Pr) (p : Pr) : List Pr := insP p (woP l p)
def ofR (l : List Pr) : List Pr := l.foldl withP []
theorem ofR_succ (l : List Pr) {k : Nat} {x : Pr} (hx : l[k]? = some x) : ofR (l.take (k + 1)) = withP (ofR (l.take k)) x := by
  unfold ofR
  rw [List.take_add_one, hx, List.foldl_append]
  rfl
theorem insP_perm (p : Pr) (l : List Pr) : (insP p l).Perm (p :: l) := by
  induction l with
  | nil => exact List.Perm.refl _
  | cons x l ih =>
    unfold insP
    split
    · exact List.Perm.refl _
    · exact (List.Perm.cons x ih).trans (List.Perm.swap p x l)
theorem insP_len (p : Pr) (l : List Pr) : (insP p l).length = l.length + 1 := by simpa using (insP_perm p l).length_eq
theorem woP_le (l : List Pr) (p : Pr) : (woP l p).length ≤ l.length := List.length_filter_le _ _
theorem withP_le (l : List Pr) (p : Pr) : (withP l p).length ≤ l.length + 1 := by
  unfold withP
  rw [insP_len]
  have := woP_le l p
  omega
/-- The keys rise. -/
def Rise (l : List Pr) : Prop := l.Pairwise fun a b => keyP a < keyP b
theorem insP_rise {p : Pr} : ∀ {l : List Pr}, Rise l → (∀ x ∈ l, keyP x ≠ keyP p) → Rise (insP p l)
  | [], _, _ => by simp [insP, Rise]
  | x :: l, h, hn => by
    unfold insP
    rw [ltB_key]
    by_cases hlt : keyP p < keyP x
    · rw [if_pos (by simpa using hlt)]
      refine List.Pairwise.cons (fun y hy => ?_) h
      rcases List.mem_cons.1 hy with rfl | hy
      · exact hlt
      · exact List.lt_trans hlt (List.rel_of_pairwise_cons h hy)
    · rw [if_neg (by simpa using hlt)]
      refine List.Pairwise.cons (fun y hy => ?_) (insP_rise (List.Pairwise.of_cons h) (fun y hy => hn y (List.mem_cons_of_mem _ hy)))
      rcases List.mem_cons.1 ((insP_perm p l).subset hy) with rfl | hy
      · rcases Decidable.em (keyP x < keyP y) with h1 | h1
        · exact h1
        · exact absurd (List.le_antisymm (List.not_lt.1 hlt) (List.not_lt.1 h1)) (hn x List.mem_cons_self)
      · exact List.rel_of_pairwise_cons h hy
theorem withP_rise {l : List Pr} (h : Rise l) (p : Pr) : Rise (withP l p) := by
  refine insP_rise (List.Pairwise.filter _ h) (fun x hx => ?_)
  have := (List.mem_filter.1 hx).2
  simpa using this
theorem ofR_rise (l : List Pr) : Rise (ofR l) := by
  unfold ofR
  suffices ∀ acc, Rise acc → Rise (l.foldl withP acc) from this [] List.Pairwise.nil
  induction l with
  | nil => intro acc h; exact h
  | cons x l ih => intro acc h; exact ih _ (withP_rise h x)
theorem putP_perm {ps : List Pr} (h : (keysP ps).Nodup) (p : Pr) : (putP ps p).Perm (p :: woP ps p) := by
  unfold putP
  by_cases hm : keyP p ∈ keysP ps
  · rw [if_pos hm]
    induction ps with
    | nil => simp [keysP] at hm
    | cons x ps ih =>
      have h' : ¬ keyP x ∈ keysP ps ∧ (keysP ps).Nodup := List.nodup_cons.1 h
      by_cases he : keyP x = keyP p
      · have e0 : (keysP (x :: ps)).idxOf (keyP p) = 0 := by
          show ((keyP x) :: keysP ps).idxOf (keyP p) = 0
          rw [he, List.idxOf_cons_self]
        rw [e0, List.set_cons_zero]
        refine List.Perm.cons p ?_
        have : woP (x :: ps) p = ps := by
          unfold woP
          rw [List.filter_cons_of_neg (by simp [he]), List.filter_eq_self]
          intro a ha
          have : keyP a ≠ keyP p := fun e => h'.1 (by rw [he, ← e]; exact List.mem_map_of_mem ha)
          simpa using this
        rw [this]
      · have hm' : keyP p ∈ keysP ps := by
          rcases List.mem_cons.1 hm with e | h
          · exact absurd e.symm he
          · exact h
        have e1 : (keysP (x :: ps)).idxOf (keyP p) = (keysP ps).idxOf (keyP p) + 1 := by
          show ((keyP x) :: keysP ps).idxOf (keyP p) = _
          rw [List.idxOf_cons, show (keyP x == keyP p) = false by simpa using he]
          rfl
        rw [e1, List.set_cons_succ]
        have e2 : woP (x :: ps) p = x :: woP ps p := by
          unfold woP
          rw [List.filter_cons_of_pos (by simpa using he)]
        rw [e2]
        exact (List.Perm.cons x (ih h'.2 hm')).trans (List.Perm.swap p x _)
  · rw [if_neg hm]
    have : woP ps p = ps := by
      unfold woP
      rw [List.filter_eq_self]
      intro a ha
      have : keyP a ≠ keyP p := fun e => hm (by rw [← e]; exact List.mem_map_of_mem ha)
      simpa using this
    rw [this]
    exact List.perm_append_comm
theorem woP_perm {a b : List Pr} (h : a.Perm b) (p : Pr) : (woP a p).Perm (woP b p) := h.filter _
theorem ofR_perm (l : List Pr) : ∀ k, k ≤ l.length → (ofR (l.take k)).Perm (ofU (l.take k)) := by
  intro k
  induction k with
  | zero => intro _; exact List.Perm.refl _
  | succ k ih =>
    intro hk
    have hx : l[k]? = some l[k] := List.getElem?_eq_getElem (by omega)
    rw [ofR_succ l hx, ofU_succ l hx]
    unfold withP
    exact ((insP_perm _ _).trans (List.Perm.cons _ (woP_perm (ih (by omega)) _))).trans (putP_perm (ofU_nodup l k (by omega)) _).symm
theorem leP_key (a b : Pr) : leP a b = true ↔ ¬ keyP b < keyP a := by
  unfold leP
  rw [ltB_key]
  simp
theorem leP_sorted (l : List Pr) : (l.mergeSort leP).Pairwise (fun a b => leP a b = true) := List.pairwise_mergeSort (fun a b c h1 h2 => by
    rw [leP_key] at *
    intro h3
    exact h2 (by
      rcases Decidable.em (keyP c < keyP b) with h | h
      · exact h
      · exact absurd h3 (List.not_lt.2 (List.le_trans (List.not_lt.1 h1) (List.not_lt.1 h))))) (fun a b => by
    rcases hab : leP a b with _ | _
    · rw [Bool.false_or, leP_key]
      have h3 : ¬ (leP a b = true) := by rw [hab]; simp
      rw [leP_key, Decidable.not_not] at h3
      intro h4
      exact List.lt_irrefl _ (List.lt_trans h3 h4)
    · rfl) l
theorem nodup_perm {a b : List Pr} (h : a.Perm b) (hn : (keysP a).Nodup) : (keysP b).Nodup := (h.map keyP).nodup_iff.1 hn
theorem ofP_nodup (l : List Pr) : (keysP (ofP l)).Nodup := by
  have h := ofU_nodup l l.length (Nat.le_refl _)
  rw [List.take_length] at h
  exact nodup_perm (List.mergeSort_perm _ _).symm h
theorem rise_of {l : List Pr} (hs : l.Pairwise (fun a b => leP a b = true)) (hn : (keysP l).Nodup) : Rise l := by
  unfold keysP at hn
  rw [List.Nodup, List.pairwise_map] at hn
  refine List.Pairwise.imp ?_ (hs.and hn)
  rintro a b ⟨h1, h2⟩
  rw [leP_key] at h1
  rcases Decidable.em (keyP a < keyP b) with h | h
  · exact h
  · exact absurd (List.le_antisymm (List.not_lt.1 h1) (List.not_lt.1 h)) h2
theorem ofP_rise (l : List Pr) : Rise (ofP l) := rise_of (leP_sorted _) (ofP_nodup l)
theorem rise_eq {a b : List Pr} (ha : Rise a) (hb : Rise b) (h : a.Perm b) : a = b :=
  List.Perm.eq_of_pairwise (le := fun a b => keyP a < keyP b) (fun _ _ _ _ h1 h2 => absurd (List.lt_trans h1 h2) (List.lt_irrefl _)) ha hb h
/-- Both lists are the same. -/
theorem ofR_eq (l : List Pr) : ofR l = ofP l := by
  have h := ofR_perm l l.length (Nat.le_refl _)
  rw [List.take_length] at h
  exact rise_eq (ofR_rise l) (ofP_rise l) (h.trans (List.mergeSort_perm _ _).symm)
theorem ofR_len (l : List Pr) : ∀ k, k ≤ l.length → (ofR (l.take k)).length ≤ k := by
  intro k hk
  rw [(ofR_perm l k hk).length_eq]
  exact ofU_len l k hk
theorem ofR_mem (l : List Pr) (k : Nat) (hk : k ≤ l.length) : ∀ q ∈ ofR (l.take k), q ∈ l := fun q hq => ofU_mem l k hk q ((ofR_perm l k hk).subset hq)
theorem ofP_mem (l : List Pr) : ∀ q ∈ ofP l, q ∈ l := by
  rw [← ofR_eq]
  have := ofR_mem l l.length (Nat.le_refl _)
  rwa [List.take_length] at this
theorem ofP_len (l : List Pr) : (ofP l).length ≤ l.length := by
  rw [← ofR_eq]
  have := ofR_len l l.length (Nat.le_refl _)
  rwa [List.take_length] at this
/-- The pairs of a part. -/
def onP (ka kb : BitVec 64) (path : List Int) (p : Pr) : Bool := (path.zipIdx).all fun x => decide ((dg ka kb x.2 p : Int) = x.1)
def inP (ka kb : BitVec 64) (path : List Int) (l : List Pr) : List Pr := l.filter (onP ka kb path)
theorem inP_nil (ka kb : BitVec 64) (l : List Pr) : inP ka kb [] l = l := by
  unfold inP onP
  simp
theorem onP_snoc (ka kb : BitVec 64) (path : List Int) (d : Int) (p : Pr) : onP ka kb (path ++ [d]) p = (onP ka kb path p && decide ((dg ka kb path.length p : Int) = d)) := by
  unfold onP
  rw [List.zipIdx_append, List.all_append]
  simp
theorem inP_snoc (ka kb : BitVec 64) (path : List Int) (i : Nat) (l : List Pr) : inP ka kb (path ++ [(i : Int)]) l = kid ka kb path.length i (inP ka kb path l) := by
  unfold inP kid
  rw [List.filter_filter]
  congr 1
  funext p
  rw [onP_snoc, Bool.and_comm]
  congr 1
  rw [Bool.eq_iff_iff, decide_eq_true_eq, beq_iff_eq]
  omega
theorem inP_le (ka kb : BitVec 64) (path : List Int) (l : List Pr) : (inP ka kb path l).length ≤ l.length := List.length_filter_le _ _
theorem inP_rise (ka kb : BitVec 64) (path : List Int) {l : List Pr} (h : Rise l) : Rise (inP ka kb path l) := List.Pairwise.filter _ h
end Go.Proofs.Ytcmkjoepndbicaa
