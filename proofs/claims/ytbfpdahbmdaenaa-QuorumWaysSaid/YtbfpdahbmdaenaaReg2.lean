/-
  A drawn region whose last operation waits for all others and may write.
-/
import Derived.Test.YtbfpdahbmdaenaaReg
import Derived.Test.YtbfpdahbmdaenaaPlaces
namespace Go.Proofs.Ytbfpdahbmdaenaa
open Go Go.RowKit

section
variable {P : Program} {ops : Array Oper} {Q : Exit → Act → World → Prop}

theorem cnt_step {l : Array Bool} {n i : Nat} (h1 : i < n) (hil : i < l.size) (h2 : l.getD i false = false) :
    (List.range n).countP (fun k => !(l.setIfInBounds i true).getD k false) < (List.range n).countP (fun k => !l.getD k false) := by
  have e : (List.range n).countP (fun k => !l.getD k false) = (List.range n).countP (fun k => !(l.setIfInBounds i true).getD k false) + (List.range n).countP (fun k => k == i) := by
    generalize List.range n = L
    induction L with
    | nil => rfl
    | cons k L ihL =>
      simp only [List.countP_cons]
      rw [ihL, getD_setB hil]
      by_cases hk : k = i
      · subst hk; rw [h2]; simp; omega
      · have : (k == i) = false := by simpa using hk
        rw [this]; simp; omega
  have hp : 0 < (List.range n).countP (fun k => k == i) := List.countP_pos_iff.2 ⟨i, List.mem_range.2 h1, by simp⟩
  omega

theorem Mid.step {R : World → World → Prop} {w0 : World} {a0 : Act} {Sp : Nat → Value → World → Prop} {l : Array Bool} {a : Act} {w w' : World} {i : Nat} {v : Value}
    (htrans : ∀ a b c, R a b → R b c → R a c) (hmono : ∀ i v w w', R w w' → Sp i v w → Sp i v w') (hf : fineB ops a0.tmps.size = true)
    (m : Mid ops R w0 a0 Sp l a w) (hi : i ∈ Region.ready .any ops l) (hr : R w w') (hs : ∀ d, dstAt ops i = some d → Sp i v w') :
    Mid ops R w0 a0 Sp (l.setIfInBounds i true) (a.put (dstAt ops i) v) w' := by
  have fine := hf
  unfold fineB at fine
  rw [List.all_eq_true] at fine
  obtain ⟨h1, h2, h3⟩ := ready_of hi
  have hil : i < l.size := by rw [m.lsize]; exact h1
  have hsz : (a.put (dstAt ops i) v).tmps.size = a.tmps.size := by cases dstAt ops i <;> simp [Act.put]
  refine ⟨by simpa using m.lsize, hsz.trans m.size, ?_, htrans _ _ _ m.rel hr, ?_, ?_, ?_⟩
  · rw [← m.defers]; cases dstAt ops i <;> rfl
  · intro k hk j hj
    rw [getD_setB hil] at hk ⊢
    rcases Bool.or_eq_true_iff.1 hk with h | h
    · have : k = i := by simpa using h
      subst this
      rw [h3 j hj]; simp
    · rw [m.closed k h j hj]; simp
  · intro k hk d hd
    rw [getD_setB hil] at hk
    by_cases hki : k = i
    · subst hki
      rw [hd, getD_put]
      have hdn : d < a.tmps.size := by
        have := fine k (List.mem_range.2 h1)
        rw [hd] at this
        simp only [Bool.and_eq_true, decide_eq_true_eq] at this
        rw [m.size]; exact this.2.1
      rw [if_pos ⟨rfl, hdn⟩]
      exact hs d hd
    · have hk' : l.getD k false = true := by
        rcases Bool.or_eq_true_iff.1 hk with h | h
        · exact absurd (by simpa using h) hki
        · exact h
      have hkl : k < ops.size := by have := getD_true_lt hk'; rw [m.lsize] at this; exact this
      have hne : dstAt ops i ≠ some d := by
        intro he
        have := fine i (List.mem_range.2 h1)
        rw [he] at this
        simp only [Bool.and_eq_true, List.all_eq_true] at this
        have h5 := this.2.2 k (List.mem_range.2 hkl)
        rw [hd] at h5
        have : (i == k) = false := by simp; omega
        rw [this] at h5
        simp at h5
      have : (a.put (dstAt ops i) v).tmps.getD d undef = a.tmps.getD d undef := by
        cases he : dstAt ops i with
        | none => rfl
        | some d' =>
          rw [getD_put, if_neg]
          rintro ⟨rfl, _⟩
          exact hne he
      rw [this]
      exact hmono _ _ _ _ hr (m.sp k hk' d hd)
  · intro t ht
    have hne : dstAt ops i ≠ some t := ht i (by rw [getD_setB hil]; simp)
    have : (a.put (dstAt ops i) v).tmps.getD t undef = a.tmps.getD t undef := by
      cases he : dstAt ops i with
      | none => rfl
      | some d' =>
        rw [getD_put, if_neg]
        rintro ⟨rfl, _⟩
        exact hne he
    rw [this]
    exact m.old t (fun j hj => ht j (by rw [getD_setB hil, hj]; simp))

theorem Mid.good {R : World → World → Prop} {w0 : World} {a0 : Act} {Sp : Nat → Value → World → Prop} {l : Array Bool} {a : Act} {w : World} {i : Nat}
    (m : Mid ops R w0 a0 Sp l a w) (hi : i ∈ Region.ready .any ops l) : Good ops R w0 a0 Sp i a w := by
  obtain ⟨h1, h2, h3⟩ := ready_of hi
  refine ⟨m.size, m.defers, m.rel, fun j hj d hd => m.sp j (h3 j hj) d hd, fun t ht => m.old t (fun j hj hd => ?_)⟩
  have hjl : j < ops.size := by have := getD_true_lt hj; rw [m.lsize] at this; exact this
  rcases ht j hjl hd with h | h
  · have := m.closed j hj i h
    rw [h2] at this
    cases this
  · subst h
    rw [h2] at hj
    cases hj

theorem wpAny_last {R : World → World → Prop} {w0 : World} {a0 : Act} {Sp : Nat → Value → World → Prop} (L : Nat)
    (htrans : ∀ a b c, R a b → R b c → R a c) (hmono : ∀ i v w w', R w w' → Sp i v w → Sp i v w') (hf : fineB ops a0.tmps.size = true)
    (hL : L < ops.size) (hLd : dstAt ops L = none)
    (hcl : ∀ l : Array Bool, (∀ i, l.getD i false = true → ∀ j, j ∈ depsAt ops i → l.getD j false = true) → (∀ j, j ∈ depsAt ops L → l.getD j false = true) → ∀ j, j < ops.size → j ≠ L → l.getD j false = true)
    (hop : ∀ i, i < ops.size → i ≠ L → ∀ a w, Good ops R w0 a0 Sp i a w → wpOp P ops Q i (fun a' w' => ∃ v, a' = a.put (dstAt ops i) v ∧ R w w' ∧ ∀ d, dstAt ops i = some d → Sp i v w') a w)
    (hlast : ∀ a w, AllDone ops R w0 a0 Sp a w → wpOp P ops Q L (fun a' w' => Q .normal a' w') a w) :
    ∀ (fuel : Nat) (l : Array Bool) (a : Act) (w : World), (List.range ops.size).countP (fun i => !l.getD i false) ≤ fuel → l.getD L false = false → Mid ops R w0 a0 Sp l a w → wpAny P .any ops Q fuel l a w := by
  intro fuel
  induction fuel with
  | zero =>
    intro l a w hc hn m
    exfalso
    have : 0 < (List.range ops.size).countP (fun i => !l.getD i false) := List.countP_pos_iff.2 ⟨L, List.mem_range.2 hL, by rw [hn]; rfl⟩
    omega
  | succ fuel ih =>
    intro l a w hc hn m
    refine ⟨fun hr => ?_, ?_⟩
    · have := ready_none hf m.lsize hr L hL
      rw [hn] at this
      cases this
    · intro i hi
      obtain ⟨h1, h2, h3⟩ := ready_of hi
      have hil : i < l.size := by rw [m.lsize]; exact h1
      by_cases hiL : i = L
      · subst hiL
        have hall := hcl l m.closed h3
        refine wpOp_mono ?_ (hlast a w ⟨m.size, m.defers, m.rel, fun j hj d hd => m.sp j (hall j hj (by rintro rfl; rw [hLd] at hd; cases hd)) d hd, fun t ht => m.old t (fun j hj => ht j (by have := getD_true_lt hj; rw [m.lsize] at this; exact this))⟩)
        intro a' w' hq
        have hnone : Region.ready .any ops (l.setIfInBounds i true) = [] := by
          cases hr : Region.ready .any ops (l.setIfInBounds i true) with
          | nil => rfl
          | cons k r =>
            exfalso
            have hk : k ∈ Region.ready .any ops (l.setIfInBounds i true) := by rw [hr]; exact List.mem_cons_self
            obtain ⟨k1, k2, _⟩ := ready_of hk
            rw [getD_setB hil] at k2
            by_cases hki : k = i
            · subst hki; simp at k2
            · rw [hall k k1 hki] at k2; simp at k2
        cases fuel with
        | zero => exact ⟨hnone, hq⟩
        | succ f => exact ⟨fun _ => hq, fun k hk => by rw [hnone] at hk; cases hk⟩
      · refine wpOp_mono ?_ (hop i h1 hiL a w (m.good hi))
        rintro a' w' ⟨v, rfl, hr, hs⟩
        refine ih _ _ _ ?_ ?_ (m.step htrans hmono hf hi hr hs)
        · have := cnt_step h1 hil h2; omega
        · rw [getD_setB hil, hn]; simp; omega

theorem wp_region_last {id : Nat} {a0 : Act} {w : World} (L : Nat) (Sp : Nat → Value → World → Prop) (hm : P.follows .mixedOrders = true)
    (hmono : ∀ i v w w', Gr w w' → Sp i v w → Sp i v w')
    (hf : fineB ops a0.tmps.size = true) (hL : L < ops.size) (hLd : dstAt ops L = none)
    (hcl : ∀ l : Array Bool, (∀ i, l.getD i false = true → ∀ j, j ∈ depsAt ops i → l.getD j false = true) → (∀ j, j ∈ depsAt ops L → l.getD j false = true) → ∀ j, j < ops.size → j ≠ L → l.getD j false = true)
    (hop : ∀ i o, ops[i]? = some o → i ≠ L → ∀ a W, Gr w W → Good ops Gr w.drew a0 Sp i a W → wpOp P ops Q i (Owes Gr (Sp i) a W o.dst) a W)
    (hlast : ∀ a W, Gr w W → AllDone ops Gr w.drew a0 Sp a W → wpOp P ops Q L (fun a' w' => Q .normal a' w') a W) : (Code.region id ops true).wp P Q a0 w := by
  refine wp_region_any hm (wpAny_last (R := Gr) (w0 := w.drew) (a0 := a0) (Sp := Sp) L (fun _ _ _ => Gr.trans) hmono hf hL hLd hcl ?_ (fun a W hD => hlast a W (gr_drew hD.rel) hD) ops.size _ a0 _ ?_ ?_ ?_)
  · intro i hi hne a w' hG
    have ho : ops[i]? = some ops[i] := Array.getElem?_eq_getElem hi
    refine wpOp_mono ?_ (hop i _ ho hne a w' (gr_drew hG.rel) hG)
    rintro a' w'' ⟨v, rfl, hr, hs⟩
    exact ⟨v, by unfold dstAt; rw [ho]; rfl, hr, fun _ _ => hs⟩
  · exact Nat.le_trans List.countP_le_length (by simp)
  · rw [Array.getD_eq_getD_getElem?, Array.getElem?_replicate]
    split <;> rfl
  · have hno : ∀ j, (Array.replicate ops.size false).getD j false = false := by
      intro j
      rw [Array.getD_eq_getD_getElem?, Array.getElem?_replicate]
      split <;> rfl
    exact ⟨by simp, rfl, rfl, Gr.refl _, fun i hi => absurd hi (by rw [hno]; simp), fun i hi => absurd hi (by rw [hno]; simp), fun _ _ => rfl⟩

theorem op_any {K : Act → World → Prop} {i : Nat} {o : Oper} {a : Act} {w w1 : World} (ho : ops[i]? = some o) (hg : o.guard = none)
    (hrun : (execOp a.eval o).run P w = .ok .skip w1) (hk : K (a.put o.dst undef) w1) : wpOp P ops Q i K a w := by
  unfold wpOp
  rw [ho]
  simp only [Region.wanted, hg, if_true]
  left
  unfold Oper.wp
  rw [hrun]
  exact hk

/-- A slice of ints; nil without room. -/
def SlN (xs : List Int) : Value → World → Prop := fun v W => ∃ A n c, v = .slice A n c ∧ Rd W A n xs ∧ (A = none → c = 0)
def RoN (vs ls : List Int) : Value → World → Prop := fun v W => ∃ A n c A' n' c', v = .agg #[.slice A n c, .slice A' n' c'] ∧ Rd W A n vs ∧ Rd W A' n' ls ∧ (A = none → c = 0) ∧ (A' = none → c' = 0)
/-- A block of the region's own. -/
def BoxP (N : Nat) (c : Array Value) (t : TypeId) : Value → World → Prop := fun v W => ∃ b, v = .pointer (some ⟨b, 0, none⟩) ∧ N ≤ b ∧ W.heap[b]? = some (.cells c t (0, 0))
def ExP (u : Value) : Value → World → Prop := fun v _ => v = u
theorem SlN.mono {xs : List Int} {v : Value} {w w' : World} (h : Gr w w') (hs : SlN xs v w) : SlN xs v w' := by
  obtain ⟨A, n, c, e, r, q⟩ := hs; exact ⟨A, n, c, e, r.below h, q⟩
theorem RoN.mono {vs ls : List Int} {v : Value} {w w' : World} (h : Gr w w') (hs : RoN vs ls v w) : RoN vs ls v w' := by
  obtain ⟨A, n, c, A', n', c', e, r, r', q⟩ := hs; exact ⟨A, n, c, A', n', c', e, r.below h, r'.below h, q⟩
theorem BoxP.mono {N : Nat} {c : Array Value} {t : TypeId} {v : Value} {w w' : World} (h : Gr w w') (hs : BoxP N c t v w) : BoxP N c t v w' := by
  obtain ⟨b, e, hn, hh⟩ := hs
  exact ⟨b, e, hn, by rw [h.block b (Array.getElem?_eq_some_iff.1 hh).1]; exact hh⟩
end

end Go.Proofs.Ytbfpdahbmdaenaa
