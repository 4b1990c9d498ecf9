/-
  A drawn region with one append to a row of its own, whose last operations come one behind the other.
-/
import Derived.Test.YtbfpdahbmdaenaaReg2
import Derived.Test.YtbfpdahbmdaenaaIns
namespace Go.Proofs.Ytbfpdahbmdaenaa
open Go Go.RowKit

section
variable {P : Program} {ops : Array Oper} {Q : Exit → Act → World → Prop}

/-- K: the append; p: its row; q: another row of the region's own; D: what is dead behind K; L: where the ordered tail begins. -/
structure Plan where
  K : Nat
  p : Nat
  q : Nat
  D : List Nat
  L : Nat
  dp : Nat

structure Mid3 (pl : Plan) (ops : Array Oper) (w0 : World) (a0 : Act) (Sp : Nat → Value → World → Prop) (l : Array Bool) (a : Act) (w : World) : Prop where
  lsize : l.size = ops.size
  size : a.tmps.size = a0.tmps.size
  defers : a.defers = a0.defers
  rel : Below w0.heap.size w0 w
  closed : ∀ i, l.getD i false = true → ∀ j, j ∈ depsAt ops i → l.getD j false = true
  sp : ∀ j, l.getD j false = true → (j ∈ pl.D → l.getD pl.K false = false) → ∀ d, dstAt ops j = some d → Sp j (a.tmps.getD d undef) w
  dj : l.getD pl.p false = true → l.getD pl.q false = true → l.getD pl.K false = false → ∀ e, dstAt ops pl.q = some e → Dj (a.tmps.getD pl.dp undef) (a.tmps.getD e undef)
  old : ∀ t, (∀ j, l.getD j false = true → dstAt ops j ≠ some t) → a.tmps.getD t undef = a0.tmps.getD t undef
  late : ∀ j, pl.L ≤ j → l.getD j false = false

structure Good3 (pl : Plan) (ops : Array Oper) (w0 : World) (a0 : Act) (Sp : Nat → Value → World → Prop) (i : Nat) (a : Act) (w : World) : Prop where
  size : a.tmps.size = a0.tmps.size
  defers : a.defers = a0.defers
  rel : Below w0.heap.size w0 w
  dep : ∀ j, j ∈ depsAt ops i → (j ∈ pl.D → i = pl.K) → ∀ d, dstAt ops j = some d → Sp j (a.tmps.getD d undef) w
  old : ∀ t, (∀ j, j < ops.size → dstAt ops j = some t → i ∈ depsAt ops j ∨ j = i) → a.tmps.getD t undef = a0.tmps.getD t undef

def Fresh (v : Value) (w : World) : Prop := ∀ b, v.ownBlock = some b → w.heap.size ≤ b
def Lies (v : Value) (w : World) : Prop := ∀ b, v.ownBlock = some b → b < w.heap.size
theorem dj_fresh {v u : Value} {w : World} (h : Lies v w) (k : Fresh u w) : Dj v u := by
  unfold Dj
  cases hv : v.ownBlock with
  | none => exact .inl rfl
  | some b => cases hu : u.ownBlock with
    | none => exact .inr (.inl rfl)
    | some c => refine .inr (.inr ?_); intro e; injection e with e; have := h b hv; have := k c hu; omega

structure PlanOk (pl : Plan) (ops : Array Oper) : Prop where
  dp : dstAt ops pl.p = some pl.dp
  pD : pl.p ∈ pl.D
  qD : pl.q ∉ pl.D
  kD : pl.K ∉ pl.D
  pq : pl.p ≠ pl.q
  kp : pl.K ≠ pl.p
  kq : pl.K ≠ pl.q
  kL : pl.K < pl.L
  pK : pl.p ∈ depsAt ops pl.K

theorem Mid3.good {pl : Plan} {w0 : World} {a0 : Act} {Sp : Nat → Value → World → Prop} {l : Array Bool} {a : Act} {w : World} {i : Nat}
    (m : Mid3 pl ops w0 a0 Sp l a w) (hD : ∀ i, i < ops.size → ∀ j, j ∈ depsAt ops i → j ∈ pl.D → i = pl.K) (hi : i ∈ Region.ready .any ops l) : Good3 pl ops w0 a0 Sp i a w := by
  obtain ⟨h1, h2, h3⟩ := ready_of hi
  refine ⟨m.size, m.defers, m.rel, fun j hj hjd d hd => m.sp j (h3 j hj) (fun hjD => ?_) d hd, fun t ht => m.old t (fun j hj hd => ?_)⟩
  · have := hD i h1 j hj hjD
    subst this
    exact h2
  · have hjl : j < ops.size := by have := getD_true_lt hj; rw [m.lsize] at this; exact this
    rcases ht j hjl hd with h | h
    · have := m.closed j hj i h
      rw [h2] at this
      cases this
    · subst h
      rw [h2] at hj
      cases hj

theorem fine_lt {n : Nat} (hf : fineB ops n = true) {i d : Nat} (h1 : i < ops.size) (hd : dstAt ops i = some d) : d < n := by
  unfold fineB at hf
  rw [List.all_eq_true] at hf
  have := hf i (List.mem_range.2 h1)
  rw [hd] at this
  simp only [Bool.and_eq_true, decide_eq_true_eq] at this
  exact this.2.1
theorem fine_ne {n : Nat} (hf : fineB ops n = true) {i k d : Nat} (h1 : i < ops.size) (hk : k < ops.size) (hne : k ≠ i) (hd : dstAt ops k = some d) : dstAt ops i ≠ some d := by
  intro he
  unfold fineB at hf
  rw [List.all_eq_true] at hf
  have := hf i (List.mem_range.2 h1)
  rw [he] at this
  simp only [Bool.and_eq_true, List.all_eq_true] at this
  have h5 := this.2.2 k (List.mem_range.2 hk)
  rw [hd] at h5
  have : (i == k) = false := by simp; omega
  rw [this] at h5
  simp at h5
theorem put_other {a : Act} {o : Option Tmp} {v : Value} {t : Nat} (h : o ≠ some t) : (a.put o v).tmps.getD t undef = a.tmps.getD t undef := by
  cases o with
  | none => rfl
  | some d =>
    rw [getD_put, if_neg]
    rintro ⟨rfl, _⟩
    exact h rfl

theorem Mid3.step {pl : Plan} {w0 : World} {a0 : Act} {Sp : Nat → Value → World → Prop} {l : Array Bool} {a : Act} {w w' : World} {i : Nat} {v : Value} (ok : PlanOk pl ops)
    (hf : fineB ops a0.tmps.size = true) (hlies : ∀ v w, (Sp pl.p v w ∨ Sp pl.q v w) → Lies v w)
    (m : Mid3 pl ops w0 a0 Sp l a w) (hi : i ∈ Region.ready .any ops l) (hiL : i < pl.L) (hr : Below w0.heap.size w w')
    (hkeep : ∀ j, j ≠ i → l.getD j false = true → (j ∈ pl.D → (l.setIfInBounds i true).getD pl.K false = false) → ∀ d, dstAt ops j = some d → Sp j (a.tmps.getD d undef) w → Sp j (a.tmps.getD d undef) w')
    (hfresh : i = pl.p ∨ i = pl.q → Fresh v w) (hs : ∀ d, dstAt ops i = some d → Sp i v w') :
    Mid3 pl ops w0 a0 Sp (l.setIfInBounds i true) (a.put (dstAt ops i) v) w' := by
  obtain ⟨h1, h2, h3⟩ := ready_of hi
  have hil : i < l.size := by rw [m.lsize]; exact h1
  have hsz : (a.put (dstAt ops i) v).tmps.size = a.tmps.size := by cases dstAt ops i <;> simp [Act.put]
  have hK : (l.setIfInBounds i true).getD pl.K false = false → l.getD pl.K false = false := by
    intro h
    rw [getD_setB hil] at h
    exact (Bool.or_eq_false_iff.1 h).2
  refine ⟨by simpa using m.lsize, hsz.trans m.size, ?_, m.rel.trans hr, ?_, ?_, ?_, ?_, ?_⟩
  · rw [← m.defers]; cases dstAt ops i <;> rfl
  · intro k hk j hj
    rw [getD_setB hil] at hk ⊢
    rcases Bool.or_eq_true_iff.1 hk with h | h
    · have : k = i := by simpa using h
      subst this
      rw [h3 j hj]; simp
    · rw [m.closed k h j hj]; simp
  · intro k hk hkd d hd
    rw [getD_setB hil] at hk
    by_cases hki : k = i
    · subst hki
      rw [hd, getD_put, if_pos ⟨rfl, by rw [m.size]; exact fine_lt hf h1 hd⟩]
      exact hs d hd
    · have hk' : l.getD k false = true := by
        rcases Bool.or_eq_true_iff.1 hk with h | h
        · exact absurd (by simpa using h) hki
        · exact h
      have hkl : k < ops.size := by have := getD_true_lt hk'; rw [m.lsize] at this; exact this
      rw [put_other (fine_ne hf h1 hkl hki hd)]
      exact hkeep k hki hk' hkd d hd (m.sp k hk' (fun h => hK (hkd h)) d hd)
  · intro hp hq hk e he
    have hk' := hK hk
    rw [getD_setB hil] at hp hq
    by_cases hip : pl.p = i
    · have hqi : pl.q ≠ i := fun h => ok.pq (hip.trans h.symm)
      have hq' : l.getD pl.q false = true := by
        rcases Bool.or_eq_true_iff.1 hq with h | h
        · exact absurd (by simpa using h) hqi
        · exact h
      have hql : pl.q < ops.size := by have := getD_true_lt hq'; rw [m.lsize] at this; exact this
      have hd : dstAt ops i = some pl.dp := by rw [← hip]; exact ok.dp
      rw [put_other (fine_ne hf h1 hql hqi he), hd, getD_put, if_pos ⟨rfl, by rw [m.size]; exact fine_lt hf h1 hd⟩]
      exact (dj_fresh (hlies _ _ (.inr (m.sp pl.q hq' (fun h => absurd h ok.qD) e he))) (hfresh (.inl hip.symm))).symm
    · have hp' : l.getD pl.p false = true := by
        rcases Bool.or_eq_true_iff.1 hp with h | h
        · exact absurd (by simpa using h) hip
        · exact h
      have hpl : pl.p < ops.size := by have := getD_true_lt hp'; rw [m.lsize] at this; exact this
      rw [put_other (fine_ne hf h1 hpl hip ok.dp)]
      by_cases hiq : pl.q = i
      · have he' : dstAt ops i = some e := by rw [← hiq]; exact he
        rw [he', getD_put, if_pos ⟨rfl, by rw [m.size]; exact fine_lt hf h1 he'⟩]
        exact dj_fresh (hlies _ _ (.inl (m.sp pl.p hp' (fun _ => hk') pl.dp ok.dp))) (hfresh (.inr hiq.symm))
      · have hq' : l.getD pl.q false = true := by
          rcases Bool.or_eq_true_iff.1 hq with h | h
          · exact absurd (by simpa using h) hiq
          · exact h
        have hql : pl.q < ops.size := by have := getD_true_lt hq'; rw [m.lsize] at this; exact this
        rw [put_other (fine_ne hf h1 hql hiq he)]
        exact m.dj hp' hq' hk' e he
  · intro t ht
    have hne : dstAt ops i ≠ some t := ht i (by rw [getD_setB hil]; simp)
    rw [put_other hne]
    exact m.old t (fun j hj => ht j (by rw [getD_setB hil, hj]; simp))
  · intro j hj
    rw [getD_setB hil, m.late j hj]
    have : (j == i) = false := by simp; omega
    rw [this]; rfl

/-- The tail: one behind the other. -/
theorem wpAny_chain {n : Nat} (hf : fineB ops n = true) : ∀ (fuel i : Nat) (l : Array Bool) (a : Act) (w : World), l.size = ops.size → i ≤ ops.size → ops.size - i ≤ fuel →
    (∀ k, i < k → k < ops.size → k - 1 ∈ depsAt ops k) → (∀ j, j < i → l.getD j false = true) → (∀ j, i ≤ j → l.getD j false = false) → wpOps P ops Q (List.range' i (ops.size - i)) a w → wpAny P .any ops Q fuel l a w := by
  intro fuel
  induction fuel with
  | zero =>
    intro i l a w hl hi hfu hc hlo hhi h
    have : i = ops.size := by omega
    subst this
    have hr : Region.ready .any ops l = [] := by
      cases hr : Region.ready .any ops l with
      | nil => rfl
      | cons k r =>
        exfalso
        have hk : k ∈ Region.ready .any ops l := by rw [hr]; exact List.mem_cons_self
        obtain ⟨k1, k2, _⟩ := ready_of hk
        rw [hlo k k1] at k2; cases k2
    rw [Nat.sub_self] at h
    exact ⟨hr, h⟩
  | succ fuel ih =>
    intro i l a w hl hi hfu hc hlo hhi h
    rcases Nat.lt_or_ge i ops.size with hlt | hge
    · refine ⟨fun hr => ?_, fun k hk => ?_⟩
      · have := ready_none hf hl hr i hlt
        rw [hhi i (Nat.le_refl _)] at this; cases this
      · obtain ⟨k1, k2, k3⟩ := ready_of hk
        have hki : k = i := by
          rcases Nat.lt_trichotomy k i with h1 | h1 | h1
          · rw [hlo k h1] at k2; cases k2
          · exact h1
          · have := k3 (k - 1) (hc k h1 k1)
            rw [hhi (k - 1) (by omega)] at this; cases this
        subst hki
        obtain ⟨r, hr⟩ : ∃ r, ops.size - k = r + 1 := ⟨ops.size - k - 1, by omega⟩
        rw [hr] at h
        have hr2 : ops.size - (k + 1) = r := by omega
        have h' : wpOp P ops Q k (wpOps P ops Q (List.range' (k + 1) r)) a w := h
        refine wpOp_mono (fun a' w' hq => ih (k + 1) _ a' w' (by simpa using hl) hlt (by omega) (fun x h1 h2 => hc x (by omega) h2) ?_ ?_ (by rw [hr2]; exact hq)) h'
        · intro j hj
          rw [getD_setB (by omega)]
          rcases Nat.lt_succ_iff_lt_or_eq.1 hj with h1 | rfl
          · rw [hlo j h1]; simp
          · simp
        · intro j hj
          rw [getD_setB (by omega), hhi j (by omega)]
          have : (j == k) = false := by simp; omega
          rw [this]; rfl
    · have : i = ops.size := by omega
      subst this
      have hr : Region.ready .any ops l = [] := by
        cases hr : Region.ready .any ops l with
        | nil => rfl
        | cons k r =>
          exfalso
          have hk : k ∈ Region.ready .any ops l := by rw [hr]; exact List.mem_cons_self
          obtain ⟨k1, k2, _⟩ := ready_of hk
          rw [hlo k k1] at k2; cases k2
      rw [Nat.sub_self] at h
      exact ⟨fun _ => h, fun k hk => by rw [hr] at hk; cases hk⟩
theorem cnt_late {l : Array Bool} {L n : Nat} (hL : L ≤ n) (h : ∀ j, L ≤ j → l.getD j false = false) : n - L ≤ (List.range n).countP (fun k => !l.getD k false) := by
  have e : List.range n = List.range L ++ List.range' L (n - L) := by
    have h1 := @List.range'_append_1 0 L (n - L)
    rw [Nat.zero_add, Nat.add_sub_cancel' hL] at h1
    rw [List.range_eq_range', List.range_eq_range', h1]
  rw [e, List.countP_append]
  have : (List.range' L (n - L)).countP (fun k => !l.getD k false) = (List.range' L (n - L)).length := by
    rw [List.countP_eq_length]
    intro a ha
    rw [List.mem_range'_1] at ha
    rw [h a ha.1]; rfl
  rw [this, List.length_range']
  omega

structure AllDone3 (pl : Plan) (ops : Array Oper) (w0 : World) (a0 : Act) (Sp : Nat → Value → World → Prop) (a : Act) (w : World) : Prop where
  size : a.tmps.size = a0.tmps.size
  defers : a.defers = a0.defers
  rel : Below w0.heap.size w0 w
  sp : ∀ j, j < pl.L → j ∉ pl.D → ∀ d, dstAt ops j = some d → Sp j (a.tmps.getD d undef) w
  old : ∀ t, (∀ j, j < pl.L → dstAt ops j ≠ some t) → a.tmps.getD t undef = a0.tmps.getD t undef

theorem wpAny_plan {pl : Plan} {w0 : World} {a0 : Act} {Sp : Nat → Value → World → Prop} (ok : PlanOk pl ops) (hf : fineB ops a0.tmps.size = true)
    (hlies : ∀ v w, (Sp pl.p v w ∨ Sp pl.q v w) → Lies v w) (hD : ∀ i, i < ops.size → ∀ j, j ∈ depsAt ops i → j ∈ pl.D → i = pl.K) (hLs : pl.L < ops.size)
    (hcl : ∀ l : Array Bool, (∀ i, l.getD i false = true → ∀ j, j ∈ depsAt ops i → l.getD j false = true) → (∀ j, j ∈ depsAt ops pl.L → l.getD j false = true) → ∀ j, j < pl.L → l.getD j false = true)
    (hch : ∀ k, pl.L < k → k < ops.size → k - 1 ∈ depsAt ops k)
    (hmono : ∀ j v w w', Gr w w' → Sp j v w → Sp j v w')
    (hmonoW : ∀ j, j < pl.L → j ∉ pl.D → j ≠ pl.K → pl.K ∉ depsAt ops j → ∀ v w w' r, Below w0.heap.size w0 w → Below w0.heap.size w w' → w.grownBy w' r.ownBlock → (j = pl.q → Dj r v) → Sp j v w → Sp j v w')
    (hop : ∀ i, i < pl.L → i ≠ pl.K → ∀ a w, Good3 pl ops w0 a0 Sp i a w → wpOp P ops Q i (fun a' w' => ∃ v, a' = a.put (dstAt ops i) v ∧ Gr w w' ∧ Sp i v w' ∧ (i = pl.p ∨ i = pl.q → Fresh v w)) a w)
    (hopK : ∀ a w, Good3 pl ops w0 a0 Sp pl.K a w → wpOp P ops Q pl.K (fun a' w' => ∃ v, a' = a.put (dstAt ops pl.K) v ∧ w.grownBy w' (a.tmps.getD pl.dp undef).ownBlock ∧ (∀ b, (a.tmps.getD pl.dp undef).ownBlock = some b → w0.heap.size ≤ b) ∧ Sp pl.K v w') a w)
    (hlast : ∀ a w, AllDone3 pl ops w0 a0 Sp a w → wpOps P ops Q (List.range' pl.L (ops.size - pl.L)) a w) :
    ∀ (fuel : Nat) (l : Array Bool) (a : Act) (w : World), (List.range ops.size).countP (fun i => !l.getD i false) ≤ fuel → Mid3 pl ops w0 a0 Sp l a w → wpAny P .any ops Q fuel l a w := by
  intro fuel
  induction fuel with
  | zero =>
    intro l a w hc m
    have := cnt_late (n := ops.size) (Nat.le_of_lt hLs) m.late
    omega
  | succ fuel ih =>
    intro l a w hc m
    refine ⟨fun hr => ?_, fun i hi => ?_⟩
    · have := ready_none hf m.lsize hr pl.L hLs
      rw [m.late pl.L (Nat.le_refl _)] at this
      cases this
    · obtain ⟨h1, h2, h3⟩ := ready_of hi
      have hil : i < l.size := by rw [m.lsize]; exact h1
      have hcn := cnt_late (n := ops.size) (Nat.le_of_lt hLs) m.late
      rcases Nat.lt_trichotomy i pl.L with hiL | hiL | hiL
      · have hstep := cnt_step h1 hil h2
        by_cases hiK : i = pl.K
        · subst hiK
          refine wpOp_mono ?_ (hopK a w (m.good hD hi))
          rintro a' w' ⟨v, rfl, hg, hb, hs⟩
          have hbel : Below w0.heap.size w w' := (Below.refl _ _).grown hg (m.rel.size) hb
          have hpd := h3 pl.p ok.pK
          refine ih _ _ _ (by omega) (m.step ok hf hlies hi hiL hbel ?_ ?_ (fun _ _ => hs))
          · intro j hj hjl hjD d hd hsp
            have hjn : j ∉ pl.D := fun h => by
              have := hjD h
              rw [getD_setB hil] at this
              simp at this
            have hjL : j < pl.L := by
              rcases Nat.lt_or_ge j pl.L with h | h
              · exact h
              · rw [m.late j h] at hjl; cases hjl
            have hjk : pl.K ∉ depsAt ops j := fun h => by
              have := m.closed j hjl _ h
              rw [h2] at this; cases this
            refine hmonoW j hjL hjn hj hjk _ w w' (a.tmps.getD pl.dp undef) m.rel hbel hg ?_ hsp
            rintro rfl
            exact m.dj hpd hjl h2 d hd
          · rintro (h | h)
            · exact absurd h ok.kp
            · exact absurd h ok.kq
        · refine wpOp_mono ?_ (hop i hiL hiK a w (m.good hD hi))
          rintro a' w' ⟨v, rfl, hg, hs, hfr⟩
          exact ih _ _ _ (by omega) (m.step ok hf hlies hi hiL (hg.mono m.rel.size) (fun j _ _ _ d _ hsp => hmono j _ _ _ hg hsp) hfr (fun _ _ => hs))
      · subst hiL
        have hall := hcl l m.closed h3
        obtain ⟨r, hr⟩ : ∃ r, ops.size - pl.L = r + 1 := ⟨ops.size - pl.L - 1, by omega⟩
        have h := hlast a w ⟨m.size, m.defers, m.rel, fun j hj hjD d hd => m.sp j (hall j hj) (fun h => absurd h hjD) d hd, fun t ht => m.old t (fun j hj => ht j (by
          rcases Nat.lt_or_ge j pl.L with h | h
          · exact h
          · rw [m.late j h] at hj; cases hj))⟩
        rw [hr] at h
        have h' : wpOp P ops Q pl.L (wpOps P ops Q (List.range' (pl.L + 1) r)) a w := h
        refine wpOp_mono (fun a' w' hq => wpAny_chain hf fuel (pl.L + 1) _ a' w' (by simpa using m.lsize) hLs (by omega) (fun k h1 h2 => hch k (by omega) h2) ?_ ?_ (by rw [show ops.size - (pl.L + 1) = r by omega]; exact hq)) h'
        · intro j hj
          rw [getD_setB hil]
          rcases Nat.lt_succ_iff_lt_or_eq.1 hj with h1 | rfl
          · rw [hall j h1]; simp
          · simp
        · intro j hj
          rw [getD_setB hil, m.late j (by omega)]
          have : (j == pl.L) = false := by simp; omega
          rw [this]; rfl
      · have := h3 (i - 1) (hch i hiL h1)
        rw [m.late (i - 1) (by omega)] at this
        cases this

/-- What an operation owes here. -/
def Owes3 (pl : Plan) (S : Value → World → Prop) (i : Nat) (a : Act) (w : World) (dst : Option Tmp) (a' : Act) (w' : World) : Prop :=
  ∃ v, a' = a.put dst v ∧ Gr w w' ∧ S v w' ∧ (i = pl.p ∨ i = pl.q → Fresh v w)

theorem wp_region_plan {id : Nat} {a0 : Act} {w : World} (pl : Plan) (Sp : Nat → Value → World → Prop) (hm : P.follows .mixedOrders = true) (ok : PlanOk pl ops) (hf : fineB ops a0.tmps.size = true)
    (hlies : ∀ v w, (Sp pl.p v w ∨ Sp pl.q v w) → Lies v w) (hD : ∀ i, i < ops.size → ∀ j, j ∈ depsAt ops i → j ∈ pl.D → i = pl.K) (hLs : pl.L < ops.size)
    (hcl : ∀ l : Array Bool, (∀ i, l.getD i false = true → ∀ j, j ∈ depsAt ops i → l.getD j false = true) → (∀ j, j ∈ depsAt ops pl.L → l.getD j false = true) → ∀ j, j < pl.L → l.getD j false = true)
    (hch : ∀ k, pl.L < k → k < ops.size → k - 1 ∈ depsAt ops k)
    (hmono : ∀ j v w w', Gr w w' → Sp j v w → Sp j v w')
    (hmonoW : ∀ j, j < pl.L → j ∉ pl.D → j ≠ pl.K → pl.K ∉ depsAt ops j → ∀ v W W' r, Below w.heap.size w W → Below w.heap.size W W' → W.grownBy W' r.ownBlock → (j = pl.q → Dj r v) → Sp j v W → Sp j v W')
    (hop : ∀ i o, ops[i]? = some o → i < pl.L → i ≠ pl.K → ∀ a W, Gr w.drew W ∨ Below w.heap.size w W → Good3 pl ops w.drew a0 Sp i a W → wpOp P ops Q i (Owes3 pl (Sp i) i a W o.dst) a W)
    (hopK : ∀ o, ops[pl.K]? = some o → ∀ a W, Below w.heap.size w W → Good3 pl ops w.drew a0 Sp pl.K a W → wpOp P ops Q pl.K (fun a' w' => ∃ v, a' = a.put o.dst v ∧ W.grownBy w' (a.tmps.getD pl.dp undef).ownBlock ∧ (∀ b, (a.tmps.getD pl.dp undef).ownBlock = some b → w.heap.size ≤ b) ∧ Sp pl.K v w') a W)
    (hlast : ∀ a W, Below w.heap.size w W → AllDone3 pl ops w.drew a0 Sp a W → wpOps P ops Q (List.range' pl.L (ops.size - pl.L)) a W) : (Code.region id ops true).wp P Q a0 w := by
  have und : ∀ {W : World}, Below w.drew.heap.size w.drew W → Below w.heap.size w W := fun h => ⟨h.os, h.tape, h.output, h.size, h.block⟩
  have hno : ∀ j, (Array.replicate ops.size false).getD j false = false := by
    intro j
    rw [Array.getD_eq_getD_getElem?, Array.getElem?_replicate]
    split <;> rfl
  refine wp_region_any hm (wpAny_plan (w0 := w.drew) (a0 := a0) (Sp := Sp) ok hf hlies hD hLs hcl hch hmono (fun j h0 h1 h2 h2' v W W' r h3 h4 => hmonoW j h0 h1 h2 h2' v W W' r (und h3) h4) ?_ ?_ (fun a W hA => hlast a W (und hA.rel) hA) ops.size _ a0 _ ?_ ?_)
  · intro i hi hne a W hG
    have ho : ops[i]? = some ops[i] := Array.getElem?_eq_getElem (by omega)
    refine wpOp_mono ?_ (hop i _ ho hi hne a W (.inr (und hG.rel)) hG)
    rintro a' w'' ⟨v, rfl, hr, hs, hfr⟩
    exact ⟨v, by unfold dstAt; rw [ho]; rfl, hr, hs, hfr⟩
  · intro a W hG
    have hk : pl.K < ops.size := by have := ok.kL; omega
    have ho : ops[pl.K]? = some ops[pl.K] := Array.getElem?_eq_getElem hk
    refine wpOp_mono ?_ (hopK _ ho a W (und hG.rel) hG)
    rintro a' w'' ⟨v, rfl, hr, hb, hs⟩
    exact ⟨v, by unfold dstAt; rw [ho]; rfl, hr, hb, hs⟩
  · exact Nat.le_trans List.countP_le_length (by simp)
  · exact ⟨by simp, rfl, rfl, Below.refl _ _, fun i hi => absurd hi (by rw [hno]; simp), fun i hi => absurd hi (by rw [hno]; simp), fun h => absurd h (by rw [hno]; simp), fun _ _ => rfl, fun j _ => hno j⟩

/-- The frame behind the operations ahead of the tail. -/
theorem AllDone3.frame {pl : Plan} {w0 : World} {a0 : Act} {Sp : Nat → Value → World → Prop} {a : Act} {w : World} (h : AllDone3 pl ops w0 a0 Sp a w) (hL : pl.L ≤ ops.size) (S : List Nat) (hS : slotsB (ops.extract 0 pl.L) a0.tmps.size S = true) :
    a = S.foldl (fun b d => b.put (some d) (a.tmps.getD d undef)) a0 := by
  have hd : ∀ j, j < pl.L → dstAt (ops.extract 0 pl.L) j = dstAt ops j := by
    intro j hj
    unfold dstAt
    rw [Array.getElem?_extract, if_pos (by omega)]
    simp
  refine AllDone.frame (ops := ops.extract 0 pl.L) (R := fun _ _ => True) (w0 := w0) (w := w) (Sp := fun _ _ _ => True) ⟨h.size, h.defers, trivial, fun _ _ _ _ => trivial, fun t ht => h.old t (fun j hj => ?_)⟩ S hS
  rw [← hd j hj]
  exact ht j (by simp; omega)
theorem AllDone.cut {R : World → World → Prop} {w0 : World} {a0 : Act} {Sp : Nat → Value → World → Prop} {a : Act} {w : World} {L : Nat} (hL : L ≤ ops.size) (h1 : a.tmps.size = a0.tmps.size) (h2 : a.defers = a0.defers) (h3 : R w0 w)
    (h4 : ∀ j, j < L → ∀ d, dstAt ops j = some d → Sp j (a.tmps.getD d undef) w) (h5 : ∀ t, (∀ j, j < L → dstAt ops j ≠ some t) → a.tmps.getD t undef = a0.tmps.getD t undef) : AllDone (ops.extract 0 L) R w0 a0 Sp a w := by
  have hd : ∀ j, j < L → dstAt (ops.extract 0 L) j = dstAt ops j := by
    intro j hj
    unfold dstAt
    rw [Array.getElem?_extract, if_pos (by omega)]
    simp
  have hsz : (ops.extract 0 L).size = L := by simp; omega
  refine ⟨h1, h2, h3, fun j hj d hjd => ?_, fun t ht => h5 t (fun j hj => ?_)⟩
  · rw [hsz] at hj
    rw [hd j hj] at hjd
    exact h4 j hj d hjd
  · rw [← hd j hj]
    exact ht j (by rw [hsz]; exact hj)

theorem wpAny_tail {w0 : World} {a0 : Act} {Sp : Nat → Value → World → Prop} (L : Nat) (hf : fineB ops a0.tmps.size = true) (hLs : L < ops.size)
    (hcl : ∀ l : Array Bool, (∀ i, l.getD i false = true → ∀ j, j ∈ depsAt ops i → l.getD j false = true) → (∀ j, j ∈ depsAt ops L → l.getD j false = true) → ∀ j, j < L → l.getD j false = true)
    (hch : ∀ k, L < k → k < ops.size → k - 1 ∈ depsAt ops k)
    (hmono : ∀ j v w w', Gr w w' → Sp j v w → Sp j v w')
    (hop : ∀ i, i < L → ∀ a w, Good ops Gr w0 a0 Sp i a w → wpOp P ops Q i (fun a' w' => ∃ v, a' = a.put (dstAt ops i) v ∧ Gr w w' ∧ ∀ d, dstAt ops i = some d → Sp i v w') a w)
    (hlast : ∀ a w, AllDone (ops.extract 0 L) Gr w0 a0 Sp a w → wpOps P ops Q (List.range' L (ops.size - L)) a w) :
    ∀ (fuel : Nat) (l : Array Bool) (a : Act) (w : World), (List.range ops.size).countP (fun i => !l.getD i false) ≤ fuel → Mid ops Gr w0 a0 Sp l a w → (∀ j, L ≤ j → l.getD j false = false) → wpAny P .any ops Q fuel l a w := by
  intro fuel
  induction fuel with
  | zero =>
    intro l a w hc m late
    have := cnt_late (n := ops.size) (Nat.le_of_lt hLs) late
    omega
  | succ fuel ih =>
    intro l a w hc m late
    refine ⟨fun hr => ?_, fun i hi => ?_⟩
    · have := ready_none hf m.lsize hr L hLs
      rw [late L (Nat.le_refl _)] at this
      cases this
    · obtain ⟨h1, h2, h3⟩ := ready_of hi
      have hil : i < l.size := by rw [m.lsize]; exact h1
      have hcn := cnt_late (n := ops.size) (Nat.le_of_lt hLs) late
      rcases Nat.lt_trichotomy i L with hiL | hiL | hiL
      · have hstep := cnt_step h1 hil h2
        refine wpOp_mono ?_ (hop i hiL a w (m.good hi))
        rintro a' w' ⟨v, rfl, hg, hs⟩
        refine ih _ _ _ (by omega) (m.step (fun _ _ _ => Gr.trans) hmono hf hi hg hs) ?_
        intro j hj
        rw [getD_setB hil, late j hj]
        have : (j == i) = false := by simp; omega
        rw [this]; rfl
      · subst hiL
        have hall := hcl l m.closed h3
        obtain ⟨r, hr⟩ : ∃ r, ops.size - i = r + 1 := ⟨ops.size - i - 1, by omega⟩
        have h := hlast a w (AllDone.cut (Nat.le_of_lt hLs) m.size m.defers m.rel (fun j hj d hd => m.sp j (hall j hj) d hd) (fun t ht => m.old t (fun j hj => ht j (by
          rcases Nat.lt_or_ge j i with h | h
          · exact h
          · rw [late j h] at hj; cases hj))))
        rw [hr] at h
        have h' : wpOp P ops Q i (wpOps P ops Q (List.range' (i + 1) r)) a w := h
        refine wpOp_mono (fun a' w' hq => wpAny_chain hf fuel (i + 1) _ a' w' (by simpa using m.lsize) hLs (by omega) (fun k h1 h2 => hch k (by omega) h2) ?_ ?_ (by rw [show ops.size - (i + 1) = r by omega]; exact hq)) h'
        · intro j hj
          rw [getD_setB hil]
          rcases Nat.lt_succ_iff_lt_or_eq.1 hj with h1 | rfl
          · rw [hall j h1]; simp
          · simp
        · intro j hj
          rw [getD_setB hil, late j (by omega)]
          have : (j == i) = false := by simp; omega
          rw [this]; rfl
      · have := h3 (i - 1) (hch i hiL h1)
        rw [late (i - 1) (by omega)] at this
        cases this

theorem wp_region_tail {id : Nat} {a0 : Act} {w : World} (L : Nat) (Sp : Nat → Value → World → Prop) (hm : P.follows .mixedOrders = true) (hf : fineB ops a0.tmps.size = true) (hLs : L < ops.size)
    (hcl : ∀ l : Array Bool, (∀ i, l.getD i false = true → ∀ j, j ∈ depsAt ops i → l.getD j false = true) → (∀ j, j ∈ depsAt ops L → l.getD j false = true) → ∀ j, j < L → l.getD j false = true)
    (hch : ∀ k, L < k → k < ops.size → k - 1 ∈ depsAt ops k)
    (hmono : ∀ j v w w', Gr w w' → Sp j v w → Sp j v w')
    (hop : ∀ i o, ops[i]? = some o → i < L → ∀ a W, Gr w W → Good ops Gr w.drew a0 Sp i a W → wpOp P ops Q i (Owes Gr (Sp i) a W o.dst) a W)
    (hlast : ∀ a W, Gr w W → AllDone (ops.extract 0 L) Gr w.drew a0 Sp a W → wpOps P ops Q (List.range' L (ops.size - L)) a W) : (Code.region id ops true).wp P Q a0 w := by
  have hno : ∀ j, (Array.replicate ops.size false).getD j false = false := by
    intro j
    rw [Array.getD_eq_getD_getElem?, Array.getElem?_replicate]
    split <;> rfl
  refine wp_region_any hm (wpAny_tail (w0 := w.drew) (a0 := a0) (Sp := Sp) L hf hLs hcl hch hmono ?_ (fun a W hA => hlast a W (gr_drew hA.rel) hA) ops.size _ a0 _ ?_ ?_ (fun j _ => hno j))
  · intro i hi a W hG
    have ho : ops[i]? = some ops[i] := Array.getElem?_eq_getElem (by omega)
    refine wpOp_mono ?_ (hop i _ ho hi a W (gr_drew hG.rel) hG)
    rintro a' w'' ⟨v, rfl, hr, hs⟩
    exact ⟨v, by unfold dstAt; rw [ho]; rfl, hr, fun _ _ => hs⟩
  · exact Nat.le_trans List.countP_le_length (by simp)
  · exact ⟨by simp, rfl, rfl, Gr.refl _, fun i hi => absurd hi (by rw [hno]; simp), fun i hi => absurd hi (by rw [hno]; simp), fun _ _ => rfl⟩

theorem op_call_k {K : Act → World → Prop} {i : Nat} {o : Oper} {a : Act} {w : World} (ho : ops[i]? = some o) (hw : Region.wanted o (yielded ops a.tmps) = true) (f : FuncId) (args : Array Value)
    (hrun : (execOp a.eval o).run P w = .ok (.enter f args) w) (hc : Calls P f args w fun e w1 => ∃ v, e = .returned v ∧ K (a.put o.dst v) w1) : wpOp P ops Q i K a w := by
  unfold wpOp
  rw [ho]
  simp only [hw, if_true]
  left
  unfold Oper.wp
  rw [hrun]
  refine hc.mono ?_
  rintro e w1 ⟨v, rfl, hk⟩
  exact hk
theorem op_value_k {K : Act → World → Prop} {i : Nat} {o : Oper} {a : Act} {w w1 : World} (ho : ops[i]? = some o) (hw : Region.wanted o (yielded ops a.tmps) = true) (v : Value)
    (hrun : (execOp a.eval o).run P w = .ok (.value v) w1) (hk : K (a.put o.dst v) w1) : wpOp P ops Q i K a w := by
  unfold wpOp
  rw [ho]
  simp only [hw, if_true]
  left
  unfold Oper.wp
  rw [hrun]
  exact hk
/-- The append of one number to an own row. -/
theorem op_app {ops : Array Oper} {Q : Exit → Act → World → Prop} {K : Act → World → Prop} {i : Nat} {o : Oper} {a : Act} {w : World} (ho : ops[i]? = some o) (hw : Region.wanted o (yielded ops a.tmps) = true) (s x : Operand)
    (hop : o.op = .call { callee := .builtin .append, args := #[s, x], argTypes := #[22, 22] }) (base : Nat) (v : Value) (xs : List Int) (y : Int) (b : Nat) (hs : a.eval s = v) (hx : a.eval x = .slice (some ⟨b, 0, none⟩) 1 1)
    (HO : Own w base v xs) (hc : w.cell? ⟨b, 0, none⟩ = some (.int .i64 y)) (hbase : base ≤ w.heap.size) (hl : xs.length + 1 ≤ 17592186044416)
    (h : ∀ v' w', Own w' base v' (xs ++ [y]) → w.grownBy w' v.ownBlock → K (a.put o.dst v') w') : wpOp Try.prog ops Q i K a w := by
  obtain ⟨i0, hi, hz0, hz1, hz2⟩ := info_parts Try.info3'
  obtain ⟨v', w', hr, h2, h3, h4, h5⟩ := run_append_own_at (P := Try.prog) w base 22 o.type 3 i0 (.int .i64 0) 1 8 Try.underlying22 hi hz0 hz1 hz2 rfl (by omega) v xs.length _ HO ⟨b, 0, none⟩ 1 1 [.int .i64 y] rfl
    (by
      intro j u hj
      match j, hj with
      | 0, hj => simp at hj; subst hj; simpa [Addr.add] using hc) (by intro u hu; simp at hu; subst hu; rfl) (by unfold maxLen; omega) (by omega) hbase
  unfold wpOp
  rw [ho]
  simp only [hw, if_true]
  left
  unfold Oper.wp execOp
  simp only [hop, resolve, invoke, builtin, Sem.run_bind, Sem.run_pure, Result.andThen_ok, List.map_toArray, List.map_cons, List.map_nil, hs, hx, hr]
  exact h v' w' (by unfold Own; simpa using h2) h3

/-- An own row of the region. -/
def OwnS (N : Nat) (xs : List Int) : Value → World → Prop := fun v w => ∃ base, N ≤ base ∧ base ≤ w.heap.size ∧ Own w base v xs
theorem OwnS.mono {N : Nat} {xs : List Int} {v : Value} {w w' : World} (h : Gr w w') (hs : OwnS N xs v w) : OwnS N xs v w' := by
  obtain ⟨b, h1, h2, h3⟩ := hs
  exact ⟨b, h1, Nat.le_trans h2 h.size, h3.below h⟩
theorem OwnS.lies {N : Nat} {xs : List Int} {v : Value} {w : World} (h : OwnS N xs v w) : Lies v w := by
  obtain ⟨b, h1, h2, h3⟩ := h
  exact fun k hk => h3.lt k hk
theorem OwnS.grown {N : Nat} {xs : List Int} {v r : Value} {w w' : World} (h : OwnS N xs v w) (hg : w.grownBy w' r.ownBlock) (hd : Dj r v) : OwnS N xs v w' := by
  obtain ⟨b, h1, h2, h3⟩ := h
  exact ⟨b, h1, Nat.le_trans h2 hg.size, h3.grow hg hd.symm⟩
theorem OwnS.new {N : Nat} {xs : List Int} {v : Value} {w w' : World} (h : Own w' w.heap.size v xs) (hN : N ≤ w.heap.size) (hs : w.heap.size ≤ w'.heap.size) : OwnS N xs v w' ∧ Fresh v w :=
  ⟨⟨_, hN, hs, h⟩, fun b hb => h.base_le b hb⟩
theorem OwnS.rd {N : Nat} {xs : List Int} {v : Value} {w : World} (h : OwnS N xs v w) (hb : xs.length * 8 ≤ 140737488351232) : SlN xs v w := by
  obtain ⟨b, h1, h2, h3⟩ := h
  obtain ⟨A, c, hv, hn, _, _, hr⟩ := h3.form3 hb
  exact ⟨A, _, c, hv, hr, hn⟩
/-- A new slice of one number. -/
def CelP (y : Int) : Value → World → Prop := fun v w => ∃ b, v = .slice (some ⟨b, 0, none⟩) 1 1 ∧ b < w.heap.size ∧ w.cell? ⟨b, 0, none⟩ = some (.int .i64 y)
theorem CelP.mono {y : Int} {v : Value} {w w' : World} (h : Gr w w') (hs : CelP y v w) : CelP y v w' := by
  obtain ⟨b, e, h1, h2⟩ := hs
  exact ⟨b, e, Nat.lt_of_lt_of_le h1 h.size, (h.cell (p := ⟨b, 0, none⟩) h1).trans h2⟩
end

end Go.Proofs.Ytbfpdahbmdaenaa
