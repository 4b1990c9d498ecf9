/-
  A rule for drawn regions in which one operation makes a block (M) and one writes it (V): what is told of a value may look at M's value.
-/
import Derived.Test.YtcmkjoepndbicaaReg
namespace Go.Proofs.Ytcmkjoepndbicaa
open Go Go.RowKit

section
variable {P : Program} {ops : Array Oper} {Q : Exit → Act → World → Prop}
theorem wpAny_gen {Inv : Array Bool → Act → World → Prop} {n : Nat} (hf : fineB ops n = true)
    (hls : ∀ l a w, Inv l a w → l.size = ops.size)
    (hstep : ∀ l a w i, Inv l a w → i ∈ Region.ready .any ops l → wpOp P ops Q i (fun a' w' => Inv (l.setIfInBounds i true) a' w') a w)
    (hend : ∀ l a w, Inv l a w → (∀ i, i < ops.size → l.getD i false = true) → Q .normal a w) :
    ∀ (fuel : Nat) (l : Array Bool) (a : Act) (w : World), (List.range ops.size).countP (fun i => !l.getD i false) ≤ fuel → Inv l a w → wpAny P .any ops Q fuel l a w := by
  have fin : ∀ (l : Array Bool) (a : Act) (w : World), Inv l a w → Region.ready .any ops l = [] → Q .normal a w := fun l a w m hr => hend l a w m (ready_none hf (hls l a w m) hr)
  intro fuel
  induction fuel with
  | zero =>
    intro l a w hc m
    have hr : Region.ready .any ops l = [] := by
      cases hr : Region.ready .any ops l with
      | nil => rfl
      | cons i r =>
        exfalso
        have hi : i ∈ Region.ready .any ops l := by rw [hr]; exact List.mem_cons_self
        obtain ⟨h1, h2, _⟩ := ready_of hi
        have : 0 < (List.range ops.size).countP (fun i => !l.getD i false) := List.countP_pos_iff.2 ⟨i, List.mem_range.2 h1, by rw [h2]; rfl⟩
        omega
    exact ⟨hr, fin l a w m hr⟩
  | succ fuel ih =>
    intro l a w hc m
    refine ⟨fin l a w m, ?_⟩
    intro i hi
    obtain ⟨h1, h2, h3⟩ := ready_of hi
    have hil : i < l.size := by rw [hls l a w m]; exact h1
    refine wpOp_mono ?_ (hstep l a w i m hi)
    intro a' w' hm
    refine ih _ _ _ ?_ hm
    have := cnt_step (n := ops.size) h1 hil h2
    omega
/-- The block that a value owns. -/
def ownOf : Value → Option Nat
  | .pointer (some a) => some a.block
  | v => v.ownBlock
/-- What stands where an operation puts its value. -/
def valAt (ops : Array Oper) (j : Nat) (a : Act) : Value := match dstAt ops j with
  | some d => a.tmps.getD d undef
  | none => undef
structure Mid2 (M V : Nat) (ops : Array Oper) (w0 : World) (a0 : Act) (g : Tmp) (Sp : Nat → Value → Value → World → Prop) (l : Array Bool) (a : Act) (w : World) : Prop where
  lsize : l.size = ops.size
  size : a.tmps.size = a0.tmps.size
  defers : a.defers = a0.defers
  rel : Gr w0 w
  ub : ∀ b, ownOf (a.tmps.getD g undef) = some b → b < w.heap.size
  closed : ∀ i, l.getD i false = true → ∀ j, j ∈ depsAt ops i → l.getD j false = true
  sp : ∀ j, l.getD j false = true → (j = M → l.getD V false = false) → Sp j (a.tmps.getD g undef) (valAt ops j a) w
  old : ∀ t, (∀ j, l.getD j false = true → dstAt ops j ≠ some t) → a.tmps.getD t undef = a0.tmps.getD t undef
/-- What is known when operation i may come up. -/
structure Good2 (M V : Nat) (ops : Array Oper) (w0 : World) (a0 : Act) (g : Tmp) (Sp : Nat → Value → Value → World → Prop) (i : Nat) (a : Act) (w : World) : Prop where
  size : a.tmps.size = a0.tmps.size
  rel : Gr w0 w
  ub : ∀ b, ownOf (a.tmps.getD g undef) = some b → b < w.heap.size
  dep : ∀ j, j ∈ depsAt ops i → (j = M → i = V) → ∀ d, dstAt ops j = some d → Sp j (a.tmps.getD g undef) (a.tmps.getD d undef) w
  old : ∀ t, (∀ j, j < ops.size → dstAt ops j = some t → i ∈ depsAt ops j ∨ j = i) → a.tmps.getD t undef = a0.tmps.getD t undef
structure AllDone2 (M V : Nat) (ops : Array Oper) (w0 : World) (a0 : Act) (g : Tmp) (Sp : Nat → Value → Value → World → Prop) (a : Act) (w : World) : Prop where
  size : a.tmps.size = a0.tmps.size
  defers : a.defers = a0.defers
  rel : Gr w0 w
  sp : ∀ j, j < ops.size → j ≠ M → ∀ d, dstAt ops j = some d → Sp j (a.tmps.getD g undef) (a.tmps.getD d undef) w
  spn : ∀ j, j < ops.size → j ≠ M → dstAt ops j = none → Sp j (a.tmps.getD g undef) undef w
  old : ∀ t, (∀ j, j < ops.size → dstAt ops j ≠ some t) → a.tmps.getD t undef = a0.tmps.getD t undef
theorem AllDone2.done {M V : Nat} {w0 : World} {a0 : Act} {g : Tmp} {Sp : Nat → Value → Value → World → Prop} {a : Act} {w : World} (h : AllDone2 M V ops w0 a0 g Sp a w) : AllDone ops Gr w0 a0 (fun j v w => j ≠ M → Sp j (a.tmps.getD g undef) v w) a w :=
  ⟨h.size, h.defers, h.rel, fun j hj d hd hne => h.sp j hj hne d hd, h.old⟩
theorem put_size (a : Act) (d : Option Tmp) (v : Value) : (a.put d v).tmps.size = a.tmps.size := by cases d <;> simp [Act.put]
theorem put_defers (a : Act) (d : Option Tmp) (v : Value) : (a.put d v).defers = a.defers := by cases d <;> rfl
theorem put_other {a : Act} {d : Option Tmp} {v : Value} {t : Tmp} (h : d ≠ some t) : (a.put d v).tmps.getD t undef = a.tmps.getD t undef := by
  cases d with
  | none => rfl
  | some d' =>
    rw [getD_put, if_neg]
    rintro ⟨rfl, _⟩
    exact h rfl
theorem Mid2.step {M V : Nat} {w0 : World} {a0 : Act} {g : Tmp} {Sp : Nat → Value → Value → World → Prop} {l : Array Bool} {a : Act} {w w' : World} {i : Nat} {v : Value}
    (hf : fineB ops a0.tmps.size = true) (m : Mid2 M V ops w0 a0 g Sp l a w) (hi : i ∈ Region.ready .any ops l) (hr : Gr w0 w') (hub : ∀ b, ownOf ((a.put (dstAt ops i) v).tmps.getD g undef) = some b → b < w'.heap.size)
    (keep : ∀ j x, j ≠ i → l.getD j false = true → (j = M → i ≠ V) → Sp j (a.tmps.getD g undef) x w → Sp j ((a.put (dstAt ops i) v).tmps.getD g undef) x w')
    (new : Sp i ((a.put (dstAt ops i) v).tmps.getD g undef) (match dstAt ops i with | some _ => v | none => undef) w') :
    Mid2 M V ops w0 a0 g Sp (l.setIfInBounds i true) (a.put (dstAt ops i) v) w' := by
  have fine := hf
  unfold fineB at fine
  rw [List.all_eq_true] at fine
  obtain ⟨h1, h2, h3⟩ := ready_of hi
  have hil : i < l.size := by rw [m.lsize]; exact h1
  refine ⟨by simpa using m.lsize, (put_size _ _ _).trans m.size, (put_defers _ _ _).trans m.defers, hr, hub, ?_, ?_, ?_⟩
  · intro k hk j hj
    rw [getD_setB hil] at hk ⊢
    rcases Bool.or_eq_true_iff.1 hk with h | h
    · have : k = i := by simpa using h
      subst this
      rw [h3 j hj]; simp
    · rw [m.closed k h j hj]; simp
  · intro k hk hkM
    rw [getD_setB hil] at hk
    by_cases hki : k = i
    · subst hki
      have : valAt ops k (a.put (dstAt ops k) v) = (match dstAt ops k with | some _ => v | none => undef) := by
        unfold valAt
        cases hd : dstAt ops k with
        | none => rfl
        | some d =>
          have hdn : d < a.tmps.size := by
            have := fine k (List.mem_range.2 h1)
            rw [hd] at this
            simp only [Bool.and_eq_true, decide_eq_true_eq] at this
            rw [m.size]; exact this.2.1
          simp only
          rw [getD_put, if_pos ⟨rfl, hdn⟩]
      rw [this]
      exact new
    · have hk' : l.getD k false = true := by
        rcases Bool.or_eq_true_iff.1 hk with h | h
        · exact absurd (by simpa using h) hki
        · exact h
      have hkl : k < ops.size := by have := getD_true_lt hk'; rw [m.lsize] at this; exact this
      have : valAt ops k (a.put (dstAt ops i) v) = valAt ops k a := by
        unfold valAt
        cases hd : dstAt ops k with
        | none => rfl
        | some d =>
          simp only
          refine put_other ?_
          intro he
          have := fine i (List.mem_range.2 h1)
          rw [he] at this
          simp only [Bool.and_eq_true, List.all_eq_true] at this
          have h5 := this.2.2 k (List.mem_range.2 hkl)
          rw [hd] at h5
          have : (i == k) = false := by simp; omega
          rw [this] at h5
          simp at h5
      rw [this]
      refine keep k _ hki hk' (fun e => ?_) (m.sp k hk' (fun e => ?_))
      · rintro rfl
        have := hkM e
        rw [getD_setB hil] at this
        simp at this
      · have := hkM e
        rw [getD_setB hil] at this
        exact (Bool.or_eq_false_iff.1 this).2
  · intro t ht
    have hne : dstAt ops i ≠ some t := ht i (by rw [getD_setB hil]; simp)
    rw [put_other hne]
    exact m.old t (fun j hj => ht j (by rw [getD_setB hil, hj]; simp))
theorem Mid2.good {M V : Nat} {w0 : World} {a0 : Act} {g : Tmp} {Sp : Nat → Value → Value → World → Prop} {l : Array Bool} {a : Act} {w : World} {i : Nat}
    (m : Mid2 M V ops w0 a0 g Sp l a w) (hi : i ∈ Region.ready .any ops l) : Good2 M V ops w0 a0 g Sp i a w := by
  obtain ⟨h1, h2, h3⟩ := ready_of hi
  refine ⟨m.size, m.rel, m.ub, fun j hj hjM d hd => ?_, fun t ht => m.old t (fun j hj hd => ?_)⟩
  · have := m.sp j (h3 j hj) (fun e => by rw [← hjM e]; exact h2)
    unfold valAt at this
    rw [hd] at this
    exact this
  · have hjl : j < ops.size := by have := getD_true_lt hj; rw [m.lsize] at this; exact this
    rcases ht j hjl hd with h | h
    · have := m.closed j hj i h
      rw [h2] at this
      cases this
    · subst h
      rw [h2] at hj
      cases hj
theorem wp_region_own {id : Nat} {a0 : Act} {w : World} (M V : Nat) (g : Tmp) (Sp : Nat → Value → Value → World → Prop) (hm : P.follows .mixedOrders = true)
    (hf : fineB ops a0.tmps.size = true) (hM : dstAt ops M = some g) (hVM : M ∈ depsAt ops V) (hg : ∀ i, i ≠ M → i < ops.size → dstAt ops i ≠ some g)
    (hmono : ∀ j u x w w', Gr w w' → Sp j u x w → Sp j u x w') (hu0 : ownOf (a0.tmps.getD g undef) = none)
    (hop : ∀ i o, ops[i]? = some o → i ≠ M → i ≠ V → ∀ a W, Gr w W → Good2 M V ops w.drew a0 g Sp i a W → wpOp P ops Q i (Owes Gr (fun v w' => Sp i (a.tmps.getD g undef) (match o.dst with | some _ => v | none => undef) w') a W o.dst) a W)
    (hopM : ∀ o, ops[M]? = some o → ∀ a W, Gr w W → Good2 M V ops w.drew a0 g Sp M a W → wpOp P ops Q M (fun a' w' => ∃ v, a' = a.put (some g) v ∧ Gr W w' ∧ (∀ j x, j ≠ M → j ≠ V → Sp j (a0.tmps.getD g undef) x W → Sp j v x w') ∧ Sp M v v w' ∧ ∀ b, ownOf v = some b → b < w'.heap.size) a W)
    (hopV : ∀ o, ops[V]? = some o → V ≠ M → ∀ a W, Gr w W → Good2 M V ops w.drew a0 g Sp V a W → wpOp P ops Q V (fun a' w' => ∃ v, a' = a.put o.dst v ∧ Gr w w' ∧ W.heap.size ≤ w'.heap.size ∧ (∀ j x, j ≠ V → j ≠ M → Sp j (a.tmps.getD g undef) x W → Sp j (a.tmps.getD g undef) x w') ∧ Sp V (a.tmps.getD g undef) (match o.dst with | some _ => v | none => undef) w') a W)
    (hend : ∀ a W, Gr w W → AllDone2 M V ops w.drew a0 g Sp a W → Q .normal a W) : (Code.region id ops true).wp P Q a0 w := by
  have fine := hf
  unfold fineB at fine
  rw [List.all_eq_true] at fine
  have hMs : M < ops.size := by
    unfold dstAt at hM
    cases h : ops[M]? with
    | none => rw [h] at hM; cases hM
    | some o => exact (Array.getElem?_eq_some_iff.1 h).1
  have hgn : g < a0.tmps.size := by
    have := fine M (List.mem_range.2 hMs)
    rw [hM] at this
    simp only [Bool.and_eq_true, decide_eq_true_eq] at this
    exact this.2.1
  refine wp_region_any hm (wpAny_gen (Inv := Mid2 M V ops w.drew a0 g Sp) hf (fun l a w' m => m.lsize) ?_ ?_ ops.size _ a0 _ ?_ ?_)
  · intro l a W i m hi
    obtain ⟨h1, h2, h3⟩ := ready_of hi
    have ho : ops[i]? = some ops[i] := Array.getElem?_eq_getElem h1
    have hd : ops[i].dst = dstAt ops i := by unfold dstAt; rw [ho]; rfl
    by_cases hiM : i = M
    · subst hiM
      refine wpOp_mono ?_ (hopM _ ho a W (gr_drew m.rel) (m.good hi))
      rintro a' w' ⟨v, rfl, hr, hk, hn, hub⟩
      have hu : a.tmps.getD g undef = a0.tmps.getD g undef := m.old g (fun j hj hjd => by
        have hjs : j < ops.size := by have := getD_true_lt hj; rw [m.lsize] at this; exact this
        by_cases hji : j = i
        · subst hji; rw [h2] at hj; cases hj
        · exact hg j hji hjs hjd)
      have hv : (a.put (some g) v).tmps.getD g undef = v := by rw [getD_put, if_pos ⟨rfl, by rw [m.size]; exact hgn⟩]
      have := m.step (v := v) hf hi (Gr.trans m.rel hr) (by rw [hM, hv]; exact hub) (fun j x hj hjl _ hs => by rw [hM, hv]; rw [hu] at hs; exact hk j x hj (fun e => by subst e; have := m.closed j hjl i hVM; rw [h2] at this; cases this) hs) (by rw [hM, hv]; exact hn)
      rw [hM] at this
      exact this
    · have hne : dstAt ops i ≠ some g := hg i hiM h1
      by_cases hiV : i = V
      · subst hiV
        refine wpOp_mono ?_ (hopV _ ho hiM a W (gr_drew m.rel) (m.good hi))
        rintro a' w' ⟨v, rfl, hr, hz, hk, hn⟩
        rw [hd] at hn ⊢
        refine m.step hf hi ⟨hr.os, hr.tape, hr.output, hr.size, hr.block⟩ (fun b hb => by rw [put_other hne] at hb; exact Nat.lt_of_lt_of_le (m.ub b hb) hz) (fun j x hj _ hjM hs => by rw [put_other hne]; exact hk j x hj (fun e => hjM e rfl) hs) (by rw [put_other hne]; exact hn)
      · refine wpOp_mono ?_ (hop i _ ho hiM hiV a W (gr_drew m.rel) (m.good hi))
        rintro a' w' ⟨v, rfl, hr, hn⟩
        rw [hd] at hn ⊢
        exact m.step hf hi (Gr.trans m.rel hr) (fun b hb => by rw [put_other hne] at hb; exact Nat.lt_of_lt_of_le (m.ub b hb) hr.size) (fun j x _ _ _ hs => by rw [put_other hne]; exact hmono _ _ _ _ _ hr hs) (by rw [put_other hne]; exact hn)
  · intro l a W m hall
    refine hend a W (gr_drew m.rel) ⟨m.size, m.defers, m.rel, fun j hj hne d hd => ?_, fun j hj hne hd => ?_, fun t ht => m.old t (fun j hj => ht j (by have := getD_true_lt hj; rw [m.lsize] at this; exact this))⟩
    · have := m.sp j (hall j hj) (fun e => absurd e hne)
      unfold valAt at this
      rw [hd] at this
      exact this
    · have := m.sp j (hall j hj) (fun e => absurd e hne)
      unfold valAt at this
      rw [hd] at this
      exact this
  · exact Nat.le_trans List.countP_le_length (by simp)
  · have hno : ∀ j, (Array.replicate ops.size false).getD j false = false := by
      intro j
      rw [Array.getD_eq_getD_getElem?, Array.getElem?_replicate]
      split <;> rfl
    exact ⟨by simp, rfl, rfl, Gr.refl _, (fun b hb => by rw [hu0] at hb; cases hb), fun i hi => absurd hi (by rw [hno]; simp), fun i hi _ => absurd hi (by rw [hno]; simp), fun _ _ => rfl⟩
end
end Go.Proofs.Ytcmkjoepndbicaa
