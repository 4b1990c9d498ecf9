/-
  All knots brought together, plainly.
-/
import Derived.Test.YtnkgagbobihnnaaKno
namespace Go.Proofs.Ytnkgagbobihnnaa

def costF (w o : Nat → Nat) : List Nat → Nat
  | [] => 0
  | i :: l => w i * o i + costF w o l
def sumF (w : Nat → Nat) : List Nat → Nat
  | [] => 0
  | i :: l => w i + sumF w l
theorem costF_app (w o : Nat → Nat) : ∀ (l m : List Nat), costF w o (l ++ m) = costF w o l + costF w o m
  | [], m => by simp [costF]
  | i :: l, m => by
    show w i * o i + costF w o (l ++ m) = w i * o i + costF w o l + costF w o m
    rw [costF_app w o l m]; omega
theorem sumF_app (w : Nat → Nat) : ∀ (l m : List Nat), sumF w (l ++ m) = sumF w l + sumF w m
  | [], m => by simp [sumF]
  | i :: l, m => by
    show w i + sumF w (l ++ m) = w i + sumF w l + sumF w m
    rw [sumF_app w l m]; omega
theorem costF_perm (w o : Nat → Nat) {l m : List Nat} (h : l.Perm m) : costF w o l = costF w o m := by
  induction h with
  | nil => rfl
  | cons x _ ih => simp only [costF, ih]
  | swap x y l => simp only [costF]; omega
  | trans _ _ h1 h2 => exact h1.trans h2
theorem costF_congr (w : Nat → Nat) {o o' : Nat → Nat} : ∀ {l : List Nat}, (∀ i, i ∈ l → o i = o' i) → costF w o l = costF w o' l
  | [], _ => rfl
  | i :: l, h => by
    show w i * o i + costF w o l = w i * o' i + costF w o' l
    rw [h i List.mem_cons_self, costF_congr w fun j hj => h j (List.mem_cons_of_mem _ hj)]
theorem costF_more (w : Nat → Nat) {o o' : Nat → Nat} : ∀ {l : List Nat}, (∀ i, i ∈ l → o' i = o i + 1) → costF w o' l = costF w o l + sumF w l
  | [], _ => rfl
  | i :: l, h => by
    show w i * o' i + costF w o' l = w i * o i + costF w o l + (w i + sumF w l)
    rw [h i List.mem_cons_self, costF_more w fun j hj => h j (List.mem_cons_of_mem _ hj), Nat.mul_succ]; omega
theorem full_congr {o o' : Nat → Nat} {l : List Nat} (h : Full o l) (hc : ∀ i, i ∈ l → o i = o' i) : Full o' l := by
  intro D hD
  rw [← krF_congr D hc]
  exact h D fun i hi => by rw [hc i hi]; exact hD i hi

/-- One more for each of these. -/
def more (o : Nat → Nat) (b : List Nat) : Nat → Nat := fun i => if i ∈ b then o i + 1 else o i
def grow : Nat → List Knot → (Nat → Nat) → (Nat → Nat)
  | 0, _, o => o
  | n + 1, l, o => grow n (stepK l).1 (more o (stepK l).2)
def flat (l : List Knot) : List Nat := l.flatMap Prod.snd
/-- What holds of knots: no sign is in two, none is empty, each takes all there is, each weighs what its signs weigh. -/
structure Inv (w o : Nat → Nat) (l : List Knot) : Prop where
  nd : (flat l).Nodup
  ne : ∀ k, k ∈ l → k.2 ≠ []
  full : ∀ k, k ∈ l → Full o k.2
  sum : ∀ k, k ∈ l → k.1 = sumF w k.2
theorem Inv.perm {w o : Nat → Nat} {l m : List Knot} (h : Inv w o l) (hp : l.Perm m) : Inv w o m :=
  ⟨(hp.flatMap_right _).nodup_iff.1 h.nd, fun k hk => h.ne k (hp.mem_iff.2 hk), fun k hk => h.full k (hp.mem_iff.2 hk), fun k hk => h.sum k (hp.mem_iff.2 hk)⟩
theorem inv_step {w o : Nat → Nat} {a b : Knot} {r : List Knot} (h : Inv w o (a :: b :: r)) : Inv w (more o (a.2 ++ b.2)) ((a.1 + b.1, a.2 ++ b.2) :: r) := by
  have e : flat (a :: b :: r) = (a.2 ++ b.2) ++ flat r := by simp [flat]
  have hnd := h.nd
  rw [e] at hnd
  have hdis := (List.nodup_append.1 hnd).2.2
  have hsame : ∀ k, k ∈ r → ∀ i, i ∈ k.2 → o i = more o (a.2 ++ b.2) i := by
    intro k hk i hi
    unfold more
    rw [if_neg]
    intro h9
    exact hdis i h9 i (List.mem_flatMap.2 ⟨k, hk, hi⟩) rfl
  refine ⟨?_, ?_, ?_, ?_⟩
  · show (flat ((a.1 + b.1, a.2 ++ b.2) :: r)).Nodup
    have e2 : flat ((a.1 + b.1, a.2 ++ b.2) :: r) = (a.2 ++ b.2) ++ flat r := by simp [flat]
    rw [e2]; exact hnd
  · intro k hk
    rcases List.mem_cons.1 hk with e | e
    · rw [e]
      have := h.ne a List.mem_cons_self
      simp [this]
    · exact h.ne k (List.mem_cons_of_mem _ (List.mem_cons_of_mem _ e))
  · intro k hk
    rcases List.mem_cons.1 hk with e | e
    · rw [e]
      exact full_both (h.full a List.mem_cons_self) (h.full b (List.mem_cons_of_mem _ List.mem_cons_self)) (h.ne a List.mem_cons_self) fun i hi => by unfold more; rw [if_pos hi]
    · exact full_congr (h.full k (List.mem_cons_of_mem _ (List.mem_cons_of_mem _ e))) (hsame k e)
  · intro k hk
    rcases List.mem_cons.1 hk with e | e
    · rw [e]
      show a.1 + b.1 = sumF w (a.2 ++ b.2)
      rw [sumF_app, ← h.sum a List.mem_cons_self, ← h.sum b (List.mem_cons_of_mem _ List.mem_cons_self)]
    · exact h.sum k (List.mem_cons_of_mem _ (List.mem_cons_of_mem _ e))
theorem full_perm {o : Nat → Nat} {l m : List Nat} (h : Full o l) (hp : l.Perm m) : Full o m := by
  intro D hD
  have e : krF o D l = krF o D m := by
    clear h hD
    induction hp with
    | nil => rfl
    | cons x _ ih => simp only [krF, ih]
    | swap x y l => simp only [krF]; omega
    | trans _ _ h1 h2 => exact h1.trans h2
  rw [← e]
  exact h D fun i hi => hD i (hp.mem_iff.1 hi)
/-- All knots brought together: the cost is the least one, the lengths take all there is. -/
theorem grow_all (w : Nat → Nat) : ∀ (n : Nat) (l : List Knot) (o : Nat → Nat), l.length = n + 1 → Inv w o l →
    ∃ c, Huff (l.map Prod.fst) c ∧ costF w (grow n l o) (flat l) = costF w o (flat l) + c ∧ Full (grow n l o) (flat l)
  | 0, l, o, hl, h => by
    obtain ⟨k, rfl⟩ : ∃ k, l = [k] := List.length_eq_one_iff.1 hl
    have e : flat [k] = k.2 := by simp [flat]
    refine ⟨0, Huff.one _, rfl, ?_⟩
    rw [e]
    exact h.full k List.mem_cons_self
  | n + 1, l, o, hl, h => by
    obtain ⟨a, b, r, hp, h1, h2, he⟩ := stepK_two l (by omega)
    have hlen := stepK_len l (by omega)
    have hI := inv_step (h.perm hp)
    have hs1 : (stepK l).1 = r ++ [(a.1 + b.1, a.2 ++ b.2)] := by rw [he]
    have hs2 : (stepK l).2 = a.2 ++ b.2 := by rw [he]
    have hpm : ((a.1 + b.1, a.2 ++ b.2) :: r).Perm (stepK l).1 := by rw [hs1]; exact (List.perm_append_comm (l₁ := [(a.1 + b.1, a.2 ++ b.2)]) (l₂ := r))
    obtain ⟨c, hc, hcost, hfull⟩ := grow_all w n (stepK l).1 (more o (stepK l).2) (by omega) (by rw [hs2]; exact hI.perm hpm)
    have hP1 : (flat l).Perm ((a.2 ++ b.2) ++ flat r) := by
      have e : flat (a :: b :: r) = (a.2 ++ b.2) ++ flat r := by simp [flat]
      rw [← e]; exact hp.flatMap_right _
    have hP2 : (flat (stepK l).1).Perm ((a.2 ++ b.2) ++ flat r) := by
      have e : flat ((a.1 + b.1, a.2 ++ b.2) :: r) = (a.2 ++ b.2) ++ flat r := by simp [flat]
      rw [← e]; exact (hpm.flatMap_right _).symm
    have hnd := (hP1.nodup_iff).1 h.nd
    have hdis := (List.nodup_append.1 hnd).2.2
    refine ⟨a.1 + b.1 + c, ?_, ?_, ?_⟩
    · refine Huff.step (r := r.map Prod.fst) (hp.map Prod.fst) h1 (fun x hx => ?_) (huff_perm (hpm.map Prod.fst).symm hc)
      obtain ⟨y, hy, rfl⟩ := List.mem_map.1 hx
      exact h2 y hy
    · show costF w (grow n (stepK l).1 (more o (stepK l).2)) (flat l) = _
      have e1 := costF_perm w o hP1
      have e2 := costF_app w o (a.2 ++ b.2) (flat r)
      have e3 := sumF_app w a.2 b.2
      have e4 : a.1 = sumF w a.2 := (h.perm hp).sum a List.mem_cons_self
      have e5 : b.1 = sumF w b.2 := (h.perm hp).sum b (List.mem_cons_of_mem _ List.mem_cons_self)
      have e6 := costF_perm w (more o (stepK l).2) hP2
      have e7 := costF_app w (more o (stepK l).2) (a.2 ++ b.2) (flat r)
      have e8 : costF w (more o (stepK l).2) (a.2 ++ b.2) = costF w o (a.2 ++ b.2) + sumF w (a.2 ++ b.2) := costF_more w (fun i hi => by unfold more; rw [hs2, if_pos hi])
      have e9 : costF w (more o (stepK l).2) (flat r) = costF w o (flat r) := costF_congr w (fun i hi => by unfold more; rw [hs2, if_neg (fun h9 => hdis i h9 i hi rfl)])
      have e10 := costF_perm w (grow n (stepK l).1 (more o (stepK l).2)) (hP1.trans hP2.symm)
      omega
    · exact full_perm hfull (hP2.trans hP1.symm)
end Go.Proofs.Ytnkgagbobihnnaa
