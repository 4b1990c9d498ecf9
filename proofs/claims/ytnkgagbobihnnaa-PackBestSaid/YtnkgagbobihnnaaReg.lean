/-
  Rules for drawn regions: an invariant over the operations that are done. Printed by mk_reg.py from this project's own texts.
-/
import Derived.Test.YtnkgagbobihnnaaWir
import Derived.RegionTactic
namespace Go.Proofs.Ytnkgagbobihnnaa
open Go Go.RowKit

def depsAt (ops : Array Oper) (i : Nat) : List Nat := match ops[i]? with
  | some o => (o.after.toList.filter (Region.binds .any)).map (·.on)
  | none => []
def dstAt (ops : Array Oper) (i : Nat) : Option Tmp := (ops[i]?).bind (·.dst)
/-- Each slot is written once at most, inside the frame; whoever waits waits for an earlier one. -/
def fineB (ops : Array Oper) (n : Nat) : Bool :=
  (List.range ops.size).all fun i => (depsAt ops i).all (fun j => decide (j < i)) && (match dstAt ops i with
    | none => true
    | some d => decide (d < n) && (List.range ops.size).all fun j => i == j || dstAt ops j != some d)

section
variable {P : Program} {ops : Array Oper} {Q : Exit → Act → World → Prop}

/-- What is known when operation i may come up. -/
structure Good (ops : Array Oper) (R : World → World → Prop) (w0 : World) (a0 : Act) (Sp : Nat → Value → World → Prop) (i : Nat) (a : Act) (w : World) : Prop where
  size : a.tmps.size = a0.tmps.size
  defers : a.defers = a0.defers
  rel : R w0 w
  dep : ∀ j, j ∈ depsAt ops i → ∀ d, dstAt ops j = some d → Sp j (a.tmps.getD d undef) w
  old : ∀ t, (∀ j, j < ops.size → dstAt ops j = some t → i ∈ depsAt ops j ∨ j = i) → a.tmps.getD t undef = a0.tmps.getD t undef

/-- What is known when all have come. -/
structure AllDone (ops : Array Oper) (R : World → World → Prop) (w0 : World) (a0 : Act) (Sp : Nat → Value → World → Prop) (a : Act) (w : World) : Prop where
  size : a.tmps.size = a0.tmps.size
  defers : a.defers = a0.defers
  rel : R w0 w
  sp : ∀ j, j < ops.size → ∀ d, dstAt ops j = some d → Sp j (a.tmps.getD d undef) w
  old : ∀ t, (∀ j, j < ops.size → dstAt ops j ≠ some t) → a.tmps.getD t undef = a0.tmps.getD t undef

structure Mid (ops : Array Oper) (R : World → World → Prop) (w0 : World) (a0 : Act) (Sp : Nat → Value → World → Prop) (l : Array Bool) (a : Act) (w : World) : Prop where
  lsize : l.size = ops.size
  size : a.tmps.size = a0.tmps.size
  defers : a.defers = a0.defers
  rel : R w0 w
  closed : ∀ i, l.getD i false = true → ∀ j, j ∈ depsAt ops i → l.getD j false = true
  sp : ∀ j, l.getD j false = true → ∀ d, dstAt ops j = some d → Sp j (a.tmps.getD d undef) w
  old : ∀ t, (∀ j, l.getD j false = true → dstAt ops j ≠ some t) → a.tmps.getD t undef = a0.tmps.getD t undef

theorem getD_true_lt {l : Array Bool} {i : Nat} (h : l.getD i false = true) : i < l.size := by
  rcases Nat.lt_or_ge i l.size with h1 | h1
  · exact h1
  · rw [Array.getD_eq_getD_getElem?, Array.getElem?_eq_none h1] at h; simp at h

theorem getD_setB {l : Array Bool} {i j : Nat} (hi : i < l.size) : (l.setIfInBounds i true).getD j false = (j == i || l.getD j false) := by
  simp only [Array.getD_eq_getD_getElem?, Array.getElem?_setIfInBounds]
  by_cases h : i = j
  · subst h; simp [hi]
  · rw [if_neg h]
    have : (j == i) = false := by simp; omega
    rw [this]; rfl

theorem ready_of {i : Nat} {l : Array Bool} (h : i ∈ Region.ready .any ops l) : i < ops.size ∧ l.getD i false = false ∧ ∀ j, j ∈ depsAt ops i → l.getD j false = true := by
  unfold Region.ready at h
  rw [List.mem_filter, List.mem_range] at h
  obtain ⟨h1, h2⟩ := h
  rw [Bool.and_eq_true] at h2
  obtain ⟨h2, h3⟩ := h2
  have ho : ops[i]? = some ops[i] := Array.getElem?_eq_getElem h1
  refine ⟨h1, ?_, ?_⟩
  · rw [Bool.not_eq_true'] at h2
    rw [Array.getD_eq_getD_getElem?] at h2 ⊢
    cases hl : l[i]? <;> simp_all
  · intro j hj
    unfold depsAt at hj
    rw [ho] at h3 hj
    simp only [List.mem_map, List.mem_filter, Array.mem_toList_iff] at hj
    obtain ⟨e, ⟨he, hb⟩, rfl⟩ := hj
    simp only [Option.map_some, Option.getD_some, Array.all_eq_true_iff_forall_mem] at h3
    have := h3 e he
    simpa [hb] using this

theorem ready_none {l : Array Bool} {n : Nat} (hf : fineB ops n = true) (hl : l.size = ops.size) (h : Region.ready .any ops l = []) : ∀ i, i < ops.size → l.getD i false = true := by
  intro i
  induction i using Nat.strongRecOn with
  | _ i ih =>
    intro hi
    cases hv : l.getD i false with
    | true => rfl
    | false =>
      exfalso
      have hm : i ∈ Region.ready .any ops l := by
        unfold Region.ready
        rw [List.mem_filter, List.mem_range]
        refine ⟨hi, ?_⟩
        have ho : ops[i]? = some ops[i] := Array.getElem?_eq_getElem hi
        have hd : ∀ j, j ∈ depsAt ops i → l.getD j false = true := by
          intro j hj
          have hlt : j < i := by
            unfold fineB at hf
            rw [List.all_eq_true] at hf
            have := hf i (List.mem_range.2 hi)
            rw [Bool.and_eq_true, List.all_eq_true] at this
            simpa using this.1 j hj
          exact ih j hlt (by omega)
        rw [Bool.and_eq_true]
        constructor
        · rw [Bool.not_eq_true', Array.getD_eq_getD_getElem?, Array.getElem?_eq_getElem (by omega)]
          rw [Array.getD_eq_getD_getElem?, Array.getElem?_eq_getElem (by omega)] at hv
          exact hv
        · rw [ho]
          simp only [Option.map_some, Option.getD_some, Array.all_eq_true_iff_forall_mem]
          intro e he
          cases hb : Region.binds .any e with
          | false => rfl
          | true =>
            simp only [Bool.not_true, Bool.false_or]
            refine hd _ ?_
            unfold depsAt
            rw [ho]
            simp only [List.mem_map, List.mem_filter, Array.mem_toList_iff]
            exact ⟨e, ⟨he, hb⟩, rfl⟩
      rw [h] at hm
      cases hm

theorem getD_put {a : Act} {d t : Nat} {v : Value} : (a.put (some d) v).tmps.getD t undef = if t = d ∧ d < a.tmps.size then v else a.tmps.getD t undef := by
  simp only [Act.put, Array.getD_eq_getD_getElem?, Array.getElem?_setIfInBounds]
  by_cases h : d = t
  · subst h
    by_cases h2 : d < a.tmps.size <;> simp [h2]
  · rw [if_neg h, if_neg (by omega)]

theorem wpAny_inv {R : World → World → Prop} {w0 : World} {a0 : Act} {Sp : Nat → Value → World → Prop}
    (htrans : ∀ a b c, R a b → R b c → R a c)
    (hmono : ∀ i v w w', R w w' → Sp i v w → Sp i v w')
    (hf : fineB ops a0.tmps.size = true)
    (hop : ∀ i, i < ops.size → ∀ a w, Good ops R w0 a0 Sp i a w → wpOp P ops Q i (fun a' w' => ∃ v, a' = a.put (dstAt ops i) v ∧ R w w' ∧ ∀ d, dstAt ops i = some d → Sp i v w') a w)
    (hend : ∀ a w, AllDone ops R w0 a0 Sp a w → Q .normal a w) :
    ∀ (fuel : Nat) (l : Array Bool) (a : Act) (w : World), (List.range ops.size).countP (fun i => !l.getD i false) ≤ fuel → Mid ops R w0 a0 Sp l a w → wpAny P .any ops Q fuel l a w := by
  have fin : ∀ (l : Array Bool) (a : Act) (w : World), Mid ops R w0 a0 Sp l a w → Region.ready .any ops l = [] → Q .normal a w := by
    intro l a w m hr
    have hall := ready_none hf m.lsize hr
    exact hend a w ⟨m.size, m.defers, m.rel, fun j hj d hd => m.sp j (hall j hj) d hd, fun t ht => m.old t (fun j hj => ht j (by have := getD_true_lt hj; rw [m.lsize] at this; exact this))⟩
  have fine := hf
  unfold fineB at fine
  rw [List.all_eq_true] at fine
  intro fuel
  induction fuel with
  | zero =>
    intro l a w hc m
    have hr : Region.ready .any ops l = [] := by
      cases hr : Region.ready .any ops l with
      | nil => rfl
      | cons i r =>
        exfalso
        have hi : i ∈ Region.ready .any ops l := by rw [hr]; exact List.mem_cons_self
        obtain ⟨h1, h2, _⟩ := ready_of hi
        have : 0 < (List.range ops.size).countP (fun i => !l.getD i false) := List.countP_pos_iff.2 ⟨i, List.mem_range.2 h1, by rw [h2]; rfl⟩
        omega
    exact ⟨hr, fin l a w m hr⟩
  | succ fuel ih =>
    intro l a w hc m
    refine ⟨fin l a w m, ?_⟩
    intro i hi
    obtain ⟨h1, h2, h3⟩ := ready_of hi
    have hil : i < l.size := by rw [m.lsize]; exact h1
    refine wpOp_mono ?_ (hop i h1 a w ⟨m.size, m.defers, m.rel, fun j hj d hd => m.sp j (h3 j hj) d hd, ?_⟩)
    · rintro a' w' ⟨v, rfl, hr, hs⟩
      refine ih _ _ _ ?_ ?_
      · have hlt : (List.range ops.size).countP (fun k => !(l.setIfInBounds i true).getD k false) < (List.range ops.size).countP (fun k => !l.getD k false) := by
          have e : (List.range ops.size).countP (fun k => !l.getD k false) = (List.range ops.size).countP (fun k => !(l.setIfInBounds i true).getD k false) + (List.range ops.size).countP (fun k => k == i) := by
            generalize List.range ops.size = L
            induction L with
            | nil => rfl
            | cons k L ihL =>
              simp only [List.countP_cons]
              rw [ihL, getD_setB hil]
              by_cases hk : k = i
              · subst hk; rw [h2]; simp; omega
              · have : (k == i) = false := by simpa using hk
                rw [this]; simp; omega
          have hp : 0 < (List.range ops.size).countP (fun k => k == i) := List.countP_pos_iff.2 ⟨i, List.mem_range.2 h1, by simp⟩
          omega
        omega
      · have hsz : (a.put (dstAt ops i) v).tmps.size = a.tmps.size := by cases dstAt ops i <;> simp [Act.put]
        refine ⟨by simpa using m.lsize, hsz.trans m.size, ?_, htrans _ _ _ m.rel hr, ?_, ?_, ?_⟩
        · rw [← m.defers]; cases dstAt ops i <;> rfl
        · intro k hk j hj
          rw [getD_setB hil] at hk ⊢
          rcases Bool.or_eq_true_iff.1 hk with h | h
          · have : k = i := by simpa using h
            subst this
            rw [h3 j hj]; simp
          · rw [m.closed k h j hj]; simp
        · intro k hk d hd
          rw [getD_setB hil] at hk
          by_cases hki : k = i
          · subst hki
            rw [hd, getD_put]
            have hdn : d < a.tmps.size := by
              have := fine k (List.mem_range.2 h1)
              rw [hd] at this
              simp only [Bool.and_eq_true, decide_eq_true_eq] at this
              rw [m.size]; exact this.2.1
            rw [if_pos ⟨rfl, hdn⟩]
            exact hs d hd
          · have hk' : l.getD k false = true := by
              rcases Bool.or_eq_true_iff.1 hk with h | h
              · exact absurd (by simpa using h) hki
              · exact h
            have hkl : k < ops.size := by have := getD_true_lt hk'; rw [m.lsize] at this; exact this
            have hne : dstAt ops i ≠ some d := by
              intro he
              have := fine i (List.mem_range.2 h1)
              rw [he] at this
              simp only [Bool.and_eq_true, List.all_eq_true] at this
              have h5 := this.2.2 k (List.mem_range.2 hkl)
              rw [hd] at h5
              have : (i == k) = false := by simp; omega
              rw [this] at h5
              simp at h5
            have : (a.put (dstAt ops i) v).tmps.getD d undef = a.tmps.getD d undef := by
              cases he : dstAt ops i with
              | none => rfl
              | some d' =>
                rw [getD_put, if_neg]
                rintro ⟨rfl, _⟩
                exact hne he
            rw [this]
            exact hmono _ _ _ _ hr (m.sp k hk' d hd)
        · intro t ht
          have hne : dstAt ops i ≠ some t := ht i (by rw [getD_setB hil]; simp)
          have : (a.put (dstAt ops i) v).tmps.getD t undef = a.tmps.getD t undef := by
            cases he : dstAt ops i with
            | none => rfl
            | some d' =>
              rw [getD_put, if_neg]
              rintro ⟨rfl, _⟩
              exact hne he
          rw [this]
          exact m.old t (fun j hj => ht j (by rw [getD_setB hil, hj]; simp))
    · intro t ht
      refine m.old t (fun j hj hd => ?_)
      have hjl : j < ops.size := by have := getD_true_lt hj; rw [m.lsize] at this; exact this
      rcases ht j hjl hd with h | h
      · have := m.closed j hj i h
        rw [h2] at this
        cases this
      · subst h
        rw [h2] at hj
        cases hj

/-- What an operation owes: a value, a world that the first one leads to, what is told of the value. -/
def Owes (R : World → World → Prop) (S : Value → World → Prop) (a : Act) (w : World) (dst : Option Tmp) (a' : Act) (w' : World) : Prop :=
  ∃ v, a' = a.put dst v ∧ R w w' ∧ S v w'

theorem wp_region_inv {id : Nat} {a0 : Act} {w : World} (R : World → World → Prop) (Sp : Nat → Value → World → Prop) (hm : P.follows .mixedOrders = true)
    (hrefl : ∀ a, R a a) (htrans : ∀ a b c, R a b → R b c → R a c)
    (hmono : ∀ i v w w', R w w' → Sp i v w → Sp i v w')
    (hf : fineB ops a0.tmps.size = true)
    (hop : ∀ i o, ops[i]? = some o → ∀ a w', Good ops R w.drew a0 Sp i a w' → wpOp P ops Q i (Owes R (Sp i) a w' o.dst) a w')
    (hend : ∀ a w', AllDone ops R w.drew a0 Sp a w' → Q .normal a w') : (Code.region id ops true).wp P Q a0 w := by
  refine wp_region_any hm (wpAny_inv (R := R) (w0 := w.drew) (a0 := a0) (Sp := Sp) htrans hmono hf ?_ hend ops.size _ a0 _ ?_ ?_)
  · intro i hi a w' hG
    have ho : ops[i]? = some ops[i] := Array.getElem?_eq_getElem hi
    refine wpOp_mono ?_ (hop i _ ho a w' hG)
    rintro a' w'' ⟨v, rfl, hr, hs⟩
    exact ⟨v, by unfold dstAt; rw [ho]; rfl, hr, fun _ _ => hs⟩
  · exact Nat.le_trans List.countP_le_length (by simp)
  · have hno : ∀ j, (Array.replicate ops.size false).getD j false = false := by
      intro j
      rw [Array.getD_eq_getD_getElem?, Array.getElem?_replicate]
      split <;> rfl
    exact ⟨by simp, rfl, rfl, hrefl _, fun i hi => absurd hi (by rw [hno]; simp), fun i hi => absurd hi (by rw [hno]; simp), fun _ _ => rfl⟩

theorem op_value {R : World → World → Prop} {S : Value → World → Prop} {i : Nat} {o : Oper} {a : Act} {w w1 : World} (ho : ops[i]? = some o) (hg : o.guard = none) (v : Value)
    (hrun : (execOp a.eval o).run P w = .ok (.value v) w1) (hr : R w w1) (hs : S v w1) : wpOp P ops Q i (Owes R S a w o.dst) a w := by
  unfold wpOp
  rw [ho]
  simp only [Region.wanted, hg, if_true]
  left
  unfold Oper.wp
  rw [hrun]
  exact ⟨v, rfl, hr, hs⟩

theorem op_skip {R : World → World → Prop} {S : Value → World → Prop} {i : Nat} {o : Oper} {a : Act} {w w1 : World} (ho : ops[i]? = some o) (hg : o.guard = none)
    (hrun : (execOp a.eval o).run P w = .ok .skip w1) (hr : R w w1) (hs : S undef w1) : wpOp P ops Q i (Owes R S a w o.dst) a w := by
  unfold wpOp
  rw [ho]
  simp only [Region.wanted, hg, if_true]
  left
  unfold Oper.wp
  rw [hrun]
  exact ⟨undef, rfl, hr, hs⟩

theorem op_call {R : World → World → Prop} {S : Value → World → Prop} {i : Nat} {o : Oper} {a : Act} {w : World} (ho : ops[i]? = some o) (hg : o.guard = none) (f : FuncId) (args : Array Value)
    (hrun : (execOp a.eval o).run P w = .ok (.enter f args) w) (hc : Calls P f args w fun e w1 => ∃ v, e = .returned v ∧ R w w1 ∧ S v w1) : wpOp P ops Q i (Owes R S a w o.dst) a w := by
  unfold wpOp
  rw [ho]
  simp only [Region.wanted, hg, if_true]
  left
  unfold Oper.wp
  rw [hrun]
  refine hc.mono ?_
  rintro e w1 ⟨v, rfl, hr, hs⟩
  exact ⟨v, rfl, hr, hs⟩

/-- The same under a guard that says yes. -/
theorem op_value_g {R : World → World → Prop} {S : Value → World → Prop} {i : Nat} {o : Oper} {a : Act} {w w1 : World} (ho : ops[i]? = some o) (hw : Region.wanted o (yielded ops a.tmps) = true) (v : Value)
    (hrun : (execOp a.eval o).run P w = .ok (.value v) w1) (hr : R w w1) (hs : S v w1) : wpOp P ops Q i (Owes R S a w o.dst) a w := by
  unfold wpOp
  rw [ho]
  simp only [hw, if_true]
  left
  unfold Oper.wp
  rw [hrun]
  exact ⟨v, rfl, hr, hs⟩

theorem op_call_g {R : World → World → Prop} {S : Value → World → Prop} {i : Nat} {o : Oper} {a : Act} {w : World} (ho : ops[i]? = some o) (hw : Region.wanted o (yielded ops a.tmps) = true) (f : FuncId) (args : Array Value)
    (hrun : (execOp a.eval o).run P w = .ok (.enter f args) w) (hc : Calls P f args w fun e w1 => ∃ v, e = .returned v ∧ R w w1 ∧ S v w1) : wpOp P ops Q i (Owes R S a w o.dst) a w := by
  unfold wpOp
  rw [ho]
  simp only [hw, if_true]
  left
  unfold Oper.wp
  rw [hrun]
  refine hc.mono ?_
  rintro e w1 ⟨v, rfl, hr, hs⟩
  exact ⟨v, rfl, hr, hs⟩

/-- Under a guard that says no. -/
theorem op_idle {R : World → World → Prop} {S : Value → World → Prop} {i : Nat} {o : Oper} {a : Act} {w : World} (ho : ops[i]? = some o) (hw : Region.wanted o (yielded ops a.tmps) = false)
    (hr : R w w) (hs : S undef w) : wpOp P ops Q i (Owes R S a w o.dst) a w := by
  unfold wpOp
  rw [ho]
  simp only [hw]
  exact ⟨undef, rfl, hr, hs⟩

/-- The region's slots. -/
def slotsB (ops : Array Oper) (n : Nat) (S : List Nat) : Bool := S.all (fun d => decide (d < n)) && (List.range ops.size).all fun j => match dstAt ops j with
  | none => true
  | some d => S.contains d

theorem puts_getD (S : List Nat) (f : Nat → Value) : ∀ (a : Act) (t : Nat), (∀ d ∈ S, d < a.tmps.size) → (S.foldl (fun b d => b.put (some d) (f d)) a).tmps.getD t undef = if t ∈ S then f t else a.tmps.getD t undef := by
  induction S with
  | nil => intro a t _; simp
  | cons d S ih =>
    intro a t h
    rw [List.foldl_cons, ih _ _ (fun x hx => by simp [Act.put]; exact h x (List.mem_cons_of_mem _ hx))]
    by_cases h1 : t ∈ S
    · rw [if_pos h1, if_pos (List.mem_cons_of_mem _ h1)]
    · rw [if_neg h1, getD_put]
      by_cases h2 : t = d
      · subst h2
        rw [if_pos ⟨rfl, h t List.mem_cons_self⟩, if_pos List.mem_cons_self]
      · rw [if_neg (fun h => h2 h.1), if_neg (by simp [h1, h2])]
theorem puts_size (S : List Nat) (f : Nat → Value) : ∀ a : Act, (S.foldl (fun b d => b.put (some d) (f d)) a).tmps.size = a.tmps.size ∧ (S.foldl (fun b d => b.put (some d) (f d)) a).defers = a.defers := by
  induction S with
  | nil => intro a; exact ⟨rfl, rfl⟩
  | cons d S ih =>
    intro a
    rw [List.foldl_cons]
    obtain ⟨h1, h2⟩ := ih (a.put (some d) (f d))
    exact ⟨h1.trans (by simp [Act.put]), h2.trans rfl⟩

/-- The frame behind the region, written out. -/
theorem AllDone.frame {R : World → World → Prop} {w0 : World} {a0 : Act} {Sp : Nat → Value → World → Prop} {a : Act} {w : World} (h : AllDone ops R w0 a0 Sp a w) (S : List Nat) (hS : slotsB ops a0.tmps.size S = true) :
    a = S.foldl (fun b d => b.put (some d) (a.tmps.getD d undef)) a0 := by
  unfold slotsB at hS
  rw [Bool.and_eq_true, List.all_eq_true, List.all_eq_true] at hS
  obtain ⟨h1, h2⟩ := puts_size S (fun d => a.tmps.getD d undef) a0
  obtain ⟨tm, df⟩ := a
  have e2 : df = a0.defers := h.defers
  have e1 : tm = (S.foldl (fun b d => b.put (some d) (tm.getD d undef)) a0).tmps := by
    apply Array.ext
    · rw [h1]; exact h.size
    · intro t ht1 ht2
      have g1 : tm.getD t undef = tm[t] := by rw [Array.getD_eq_getD_getElem?, Array.getElem?_eq_getElem ht1]; rfl
      have g2 := puts_getD S (fun d => tm.getD d undef) a0 t (fun d hd => by simpa using hS.1 d hd)
      rw [Array.getD_eq_getD_getElem?, Array.getElem?_eq_getElem ht2] at g2
      have g2' : (S.foldl (fun b d => b.put (some d) (tm.getD d undef)) a0).tmps[t] = if t ∈ S then tm.getD t undef else a0.tmps.getD t undef := g2
      rw [g2']
      by_cases hn : t ∈ S
      · rw [if_pos hn]; exact g1.symm
      · rw [if_neg hn, ← g1]
        refine h.old t (fun j hj hd => hn ?_)
        have := hS.2 j (List.mem_range.2 hj)
        rw [hd] at this
        simpa using this
  have : (S.foldl (fun b d => b.put (some d) (tm.getD d undef)) a0) = { tmps := (S.foldl (fun b d => b.put (some d) (tm.getD d undef)) a0).tmps, defers := (S.foldl (fun b d => b.put (some d) (tm.getD d undef)) a0).defers } := rfl
  rw [this, ← e1, e2]
  congr 1
  exact h2.symm
theorem wanted_of {a : Act} {o : Oper} {j d : Nat} {b want : Bool} (hg : o.guard = some (j, want)) (hd : dstAt ops j = some d) (hv : a.tmps.getD d undef = .bool b) : Region.wanted o (yielded ops a.tmps) = (b == want) := by
  unfold dstAt at hd
  have ht : a.tmps[d]? = some (.bool b) := by
    rw [Array.getD_eq_getD_getElem?] at hv
    cases h : a.tmps[d]? with
    | none => rw [h] at hv; simp [undef] at hv
    | some x => rw [h] at hv; simpa using hv
  simp [Region.wanted, hg, yielded, hd, ht]
theorem wanted_yes {a : Act} {o : Oper} {j d : Nat} {b : Bool} (hg : o.guard = some (j, b)) (hd : dstAt ops j = some d) (hv : a.tmps.getD d undef = .bool b) : Region.wanted o (yielded ops a.tmps) = true := by
  rw [wanted_of hg hd hv]; simp
theorem wanted_no {a : Act} {o : Oper} {j d : Nat} {b : Bool} (hg : o.guard = some (j, !b)) (hd : dstAt ops j = some d) (hv : a.tmps.getD d undef = .bool b) : Region.wanted o (yielded ops a.tmps) = false := by
  rw [wanted_of hg hd hv]; cases b <;> rfl
theorem wanted_none {o : Oper} {f : Nat → Option Bool} (hg : o.guard = none) : Region.wanted o f = true := by simp [Region.wanted, hg]

/-- What lay there lies there still. -/
def Gr (a b : World) : Prop := Below a.heap.size a b
theorem Gr.refl (a : World) : Gr a a := Below.refl _ _
theorem Gr.trans {a b c : World} (h : Gr a b) (k : Gr b c) : Gr a c := Below.trans h (k.mono h.size)
theorem gr_drew {w W : World} (h : Gr w.drew W) : Gr w W := ⟨h.os, h.tape, h.output, h.size, h.block⟩
end

section
variable {P : Program} {ops : Array Oper} {Q : Exit → Act → World → Prop}

theorem cnt_step {l : Array Bool} {n i : Nat} (h1 : i < n) (hil : i < l.size) (h2 : l.getD i false = false) :
    (List.range n).countP (fun k => !(l.setIfInBounds i true).getD k false) < (List.range n).countP (fun k => !l.getD k false) := by
  have e : (List.range n).countP (fun k => !l.getD k false) = (List.range n).countP (fun k => !(l.setIfInBounds i true).getD k false) + (List.range n).countP (fun k => k == i) := by
    generalize List.range n = L
    induction L with
    | nil => rfl
    | cons k L ihL =>
      simp only [List.countP_cons]
      rw [ihL, getD_setB hil]
      by_cases hk : k = i
      · subst hk; rw [h2]; simp; omega
      · have : (k == i) = false := by simpa using hk
        rw [this]; simp; omega
  have hp : 0 < (List.range n).countP (fun k => k == i) := List.countP_pos_iff.2 ⟨i, List.mem_range.2 h1, by simp⟩
  omega

theorem Mid.step {R : World → World → Prop} {w0 : World} {a0 : Act} {Sp : Nat → Value → World → Prop} {l : Array Bool} {a : Act} {w w' : World} {i : Nat} {v : Value}
    (htrans : ∀ a b c, R a b → R b c → R a c) (hmono : ∀ i v w w', R w w' → Sp i v w → Sp i v w') (hf : fineB ops a0.tmps.size = true)
    (m : Mid ops R w0 a0 Sp l a w) (hi : i ∈ Region.ready .any ops l) (hr : R w w') (hs : ∀ d, dstAt ops i = some d → Sp i v w') :
    Mid ops R w0 a0 Sp (l.setIfInBounds i true) (a.put (dstAt ops i) v) w' := by
  have fine := hf
  unfold fineB at fine
  rw [List.all_eq_true] at fine
  obtain ⟨h1, h2, h3⟩ := ready_of hi
  have hil : i < l.size := by rw [m.lsize]; exact h1
  have hsz : (a.put (dstAt ops i) v).tmps.size = a.tmps.size := by cases dstAt ops i <;> simp [Act.put]
  refine ⟨by simpa using m.lsize, hsz.trans m.size, ?_, htrans _ _ _ m.rel hr, ?_, ?_, ?_⟩
  · rw [← m.defers]; cases dstAt ops i <;> rfl
  · intro k hk j hj
    rw [getD_setB hil] at hk ⊢
    rcases Bool.or_eq_true_iff.1 hk with h | h
    · have : k = i := by simpa using h
      subst this
      rw [h3 j hj]; simp
    · rw [m.closed k h j hj]; simp
  · intro k hk d hd
    rw [getD_setB hil] at hk
    by_cases hki : k = i
    · subst hki
      rw [hd, getD_put]
      have hdn : d < a.tmps.size := by
        have := fine k (List.mem_range.2 h1)
        rw [hd] at this
        simp only [Bool.and_eq_true, decide_eq_true_eq] at this
        rw [m.size]; exact this.2.1
      rw [if_pos ⟨rfl, hdn⟩]
      exact hs d hd
    · have hk' : l.getD k false = true := by
        rcases Bool.or_eq_true_iff.1 hk with h | h
        · exact absurd (by simpa using h) hki
        · exact h
      have hkl : k < ops.size := by have := getD_true_lt hk'; rw [m.lsize] at this; exact this
      have hne : dstAt ops i ≠ some d := by
        intro he
        have := fine i (List.mem_range.2 h1)
        rw [he] at this
        simp only [Bool.and_eq_true, List.all_eq_true] at this
        have h5 := this.2.2 k (List.mem_range.2 hkl)
        rw [hd] at h5
        have : (i == k) = false := by simp; omega
        rw [this] at h5
        simp at h5
      have : (a.put (dstAt ops i) v).tmps.getD d undef = a.tmps.getD d undef := by
        cases he : dstAt ops i with
        | none => rfl
        | some d' =>
          rw [getD_put, if_neg]
          rintro ⟨rfl, _⟩
          exact hne he
      rw [this]
      exact hmono _ _ _ _ hr (m.sp k hk' d hd)
  · intro t ht
    have hne : dstAt ops i ≠ some t := ht i (by rw [getD_setB hil]; simp)
    have : (a.put (dstAt ops i) v).tmps.getD t undef = a.tmps.getD t undef := by
      cases he : dstAt ops i with
      | none => rfl
      | some d' =>
        rw [getD_put, if_neg]
        rintro ⟨rfl, _⟩
        exact hne he
    rw [this]
    exact m.old t (fun j hj => ht j (by rw [getD_setB hil, hj]; simp))

theorem Mid.good {R : World → World → Prop} {w0 : World} {a0 : Act} {Sp : Nat → Value → World → Prop} {l : Array Bool} {a : Act} {w : World} {i : Nat}
    (m : Mid ops R w0 a0 Sp l a w) (hi : i ∈ Region.ready .any ops l) : Good ops R w0 a0 Sp i a w := by
  obtain ⟨h1, h2, h3⟩ := ready_of hi
  refine ⟨m.size, m.defers, m.rel, fun j hj d hd => m.sp j (h3 j hj) d hd, fun t ht => m.old t (fun j hj hd => ?_)⟩
  have hjl : j < ops.size := by have := getD_true_lt hj; rw [m.lsize] at this; exact this
  rcases ht j hjl hd with h | h
  · have := m.closed j hj i h
    rw [h2] at this
    cases this
  · subst h
    rw [h2] at hj
    cases hj

theorem wpAny_last {R : World → World → Prop} {w0 : World} {a0 : Act} {Sp : Nat → Value → World → Prop} (L : Nat)
    (htrans : ∀ a b c, R a b → R b c → R a c) (hmono : ∀ i v w w', R w w' → Sp i v w → Sp i v w') (hf : fineB ops a0.tmps.size = true)
    (hL : L < ops.size) (hLd : dstAt ops L = none)
    (hcl : ∀ l : Array Bool, (∀ i, l.getD i false = true → ∀ j, j ∈ depsAt ops i → l.getD j false = true) → (∀ j, j ∈ depsAt ops L → l.getD j false = true) → ∀ j, j < ops.size → j ≠ L → l.getD j false = true)
    (hop : ∀ i, i < ops.size → i ≠ L → ∀ a w, Good ops R w0 a0 Sp i a w → wpOp P ops Q i (fun a' w' => ∃ v, a' = a.put (dstAt ops i) v ∧ R w w' ∧ ∀ d, dstAt ops i = some d → Sp i v w') a w)
    (hlast : ∀ a w, AllDone ops R w0 a0 Sp a w → wpOp P ops Q L (fun a' w' => Q .normal a' w') a w) :
    ∀ (fuel : Nat) (l : Array Bool) (a : Act) (w : World), (List.range ops.size).countP (fun i => !l.getD i false) ≤ fuel → l.getD L false = false → Mid ops R w0 a0 Sp l a w → wpAny P .any ops Q fuel l a w := by
  intro fuel
  induction fuel with
  | zero =>
    intro l a w hc hn m
    exfalso
    have : 0 < (List.range ops.size).countP (fun i => !l.getD i false) := List.countP_pos_iff.2 ⟨L, List.mem_range.2 hL, by rw [hn]; rfl⟩
    omega
  | succ fuel ih =>
    intro l a w hc hn m
    refine ⟨fun hr => ?_, ?_⟩
    · have := ready_none hf m.lsize hr L hL
      rw [hn] at this
      cases this
    · intro i hi
      obtain ⟨h1, h2, h3⟩ := ready_of hi
      have hil : i < l.size := by rw [m.lsize]; exact h1
      by_cases hiL : i = L
      · subst hiL
        have hall := hcl l m.closed h3
        refine wpOp_mono ?_ (hlast a w ⟨m.size, m.defers, m.rel, fun j hj d hd => m.sp j (hall j hj (by rintro rfl; rw [hLd] at hd; cases hd)) d hd, fun t ht => m.old t (fun j hj => ht j (by have := getD_true_lt hj; rw [m.lsize] at this; exact this))⟩)
        intro a' w' hq
        have hnone : Region.ready .any ops (l.setIfInBounds i true) = [] := by
          cases hr : Region.ready .any ops (l.setIfInBounds i true) with
          | nil => rfl
          | cons k r =>
            exfalso
            have hk : k ∈ Region.ready .any ops (l.setIfInBounds i true) := by rw [hr]; exact List.mem_cons_self
            obtain ⟨k1, k2, _⟩ := ready_of hk
            rw [getD_setB hil] at k2
            by_cases hki : k = i
            · subst hki; simp at k2
            · rw [hall k k1 hki] at k2; simp at k2
        cases fuel with
        | zero => exact ⟨hnone, hq⟩
        | succ f => exact ⟨fun _ => hq, fun k hk => by rw [hnone] at hk; cases hk⟩
      · refine wpOp_mono ?_ (hop i h1 hiL a w (m.good hi))
        rintro a' w' ⟨v, rfl, hr, hs⟩
        refine ih _ _ _ ?_ ?_ (m.step htrans hmono hf hi hr hs)
        · have := cnt_step h1 hil h2; omega
        · rw [getD_setB hil, hn]; simp; omega

theorem wp_region_last {id : Nat} {a0 : Act} {w : World} (L : Nat) (Sp : Nat → Value → World → Prop) (hm : P.follows .mixedOrders = true)
    (hmono : ∀ i v w w', Gr w w' → Sp i v w → Sp i v w')
    (hf : fineB ops a0.tmps.size = true) (hL : L < ops.size) (hLd : dstAt ops L = none)
    (hcl : ∀ l : Array Bool, (∀ i, l.getD i false = true → ∀ j, j ∈ depsAt ops i → l.getD j false = true) → (∀ j, j ∈ depsAt ops L → l.getD j false = true) → ∀ j, j < ops.size → j ≠ L → l.getD j false = true)
    (hop : ∀ i o, ops[i]? = some o → i ≠ L → ∀ a W, Gr w W → Good ops Gr w.drew a0 Sp i a W → wpOp P ops Q i (Owes Gr (Sp i) a W o.dst) a W)
    (hlast : ∀ a W, Gr w W → AllDone ops Gr w.drew a0 Sp a W → wpOp P ops Q L (fun a' w' => Q .normal a' w') a W) : (Code.region id ops true).wp P Q a0 w := by
  refine wp_region_any hm (wpAny_last (R := Gr) (w0 := w.drew) (a0 := a0) (Sp := Sp) L (fun _ _ _ => Gr.trans) hmono hf hL hLd hcl ?_ (fun a W hD => hlast a W (gr_drew hD.rel) hD) ops.size _ a0 _ ?_ ?_ ?_)
  · intro i hi hne a w' hG
    have ho : ops[i]? = some ops[i] := Array.getElem?_eq_getElem hi
    refine wpOp_mono ?_ (hop i _ ho hne a w' (gr_drew hG.rel) hG)
    rintro a' w'' ⟨v, rfl, hr, hs⟩
    exact ⟨v, by unfold dstAt; rw [ho]; rfl, hr, fun _ _ => hs⟩
  · exact Nat.le_trans List.countP_le_length (by simp)
  · rw [Array.getD_eq_getD_getElem?, Array.getElem?_replicate]
    split <;> rfl
  · have hno : ∀ j, (Array.replicate ops.size false).getD j false = false := by
      intro j
      rw [Array.getD_eq_getD_getElem?, Array.getElem?_replicate]
      split <;> rfl
    exact ⟨by simp, rfl, rfl, Gr.refl _, fun i hi => absurd hi (by rw [hno]; simp), fun i hi => absurd hi (by rw [hno]; simp), fun _ _ => rfl⟩

theorem op_any {K : Act → World → Prop} {i : Nat} {o : Oper} {a : Act} {w w1 : World} (ho : ops[i]? = some o) (hg : o.guard = none)
    (hrun : (execOp a.eval o).run P w = .ok .skip w1) (hk : K (a.put o.dst undef) w1) : wpOp P ops Q i K a w := by
  unfold wpOp
  rw [ho]
  simp only [Region.wanted, hg, if_true]
  left
  unfold Oper.wp
  rw [hrun]
  exact hk

/-- A block of the region's own. -/
def BoxP (N : Nat) (c : Array Value) (t : TypeId) : Value → World → Prop := fun v W => ∃ b, v = .pointer (some ⟨b, 0, none⟩) ∧ N ≤ b ∧ W.heap[b]? = some (.cells c t (0, 0))
def ExP (u : Value) : Value → World → Prop := fun v _ => v = u
theorem BoxP.mono {N : Nat} {c : Array Value} {t : TypeId} {v : Value} {w w' : World} (h : Gr w w') (hs : BoxP N c t v w) : BoxP N c t v w' := by
  obtain ⟨b, e, hn, hh⟩ := hs
  exact ⟨b, e, hn, by rw [h.block b (Array.getElem?_eq_some_iff.1 hh).1]; exact hh⟩
end

end Go.Proofs.Ytnkgagbobihnnaa
