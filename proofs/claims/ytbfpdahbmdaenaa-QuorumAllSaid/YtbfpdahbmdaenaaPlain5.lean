/-
  Two majorities share a voter.
-/
import Derived.Test.YtbfpdahbmdaenaaPlain4
import Derived.Test.YtbfpdahbmdaenaaMajor
namespace Go.Proofs.Ytbfpdahbmdaenaa
open Go.RowKit

/-- The sum over the five nodes. -/
def sum5 (f : Int → Nat) : Nat := f 0 + f 1 + f 2 + f 3 + f 4
def ind (b : Bool) : Nat := if b then 1 else 0

theorem sum5_add (f g : Int → Nat) : sum5 (fun i => f i + g i) = sum5 f + sum5 g := by unfold sum5; dsimp only; omega
theorem sum5_one (x : Int) (h : 0 ≤ x ∧ x < 5) (c : Nat) : sum5 (fun i => if x = i then c else 0) = c := by
  unfold sum5
  rcases (by omega : x = 0 ∨ x = 1 ∨ x = 2 ∨ x = 3 ∨ x = 4) with rfl | rfl | rfl | rfl | rfl <;> simp

theorem count5 {vs : List Int} (hn : vs.Nodup) (hr : ∀ x ∈ vs, 0 ≤ x ∧ x < 5) (p : Int → Bool) : vs.countP p = sum5 (fun i => ind (inB vs i && p i)) := by
  induction vs with
  | nil => simp [sum5, ind, inB]
  | cons x vs ih =>
    rw [List.nodup_cons] at hn
    have e : (fun i => ind (inB (x :: vs) i && p i)) = fun i => ind (inB vs i && p i) + (if x = i then ind (p x) else 0) := by
      funext i
      by_cases h : x = i
      · subst h
        have h1 : inB vs x = false := by rw [Bool.eq_false_iff]; intro h; exact hn.1 (inB_iff.1 h)
        have h2 : inB (x :: vs) x = true := inB_iff.2 List.mem_cons_self
        rw [h1, h2, if_pos rfl]
        simp [ind]
      · have : inB (x :: vs) i = inB vs i := by
          rw [Bool.eq_iff_iff, inB_iff, inB_iff, List.mem_cons]
          constructor
          · rintro (h' | h')
            · exact absurd h'.symm h
            · exact h'
          · exact .inr
        rw [this, if_neg h]; rfl
    rw [List.countP_cons, ih hn.2 (fun y hy => hr y (List.mem_cons_of_mem _ hy)), e, sum5_add, sum5_one x (hr x List.mem_cons_self)]
    rfl

theorem good_nodup {vs ls : List Int} (h : goodB vs ls = true) : vs.Nodup ∧ ∀ x ∈ vs, 0 ≤ x ∧ x < 5 := by
  unfold goodB wellB at h
  rw [Bool.and_eq_true, decide_eq_true_eq, decide_eq_true_eq, well_iff, List.nodup_append] at h
  exact ⟨h.1.1.1, fun x hx => h.1.2 x (List.mem_append.2 (.inl hx))⟩
theorem length5 {vs : List Int} (hn : vs.Nodup) (hr : ∀ x ∈ vs, 0 ≤ x ∧ x < 5) : vs.length = sum5 (fun i => ind (inB vs i)) := by
  have := count5 hn hr (fun _ => true)
  rw [List.countP_true] at this
  rw [this]
  congr 1
  funext i
  rw [Bool.and_true]

theorem five (vs vs' a b : List Int) (i : Int) (h : ¬ (inB a i = true ∧ inB b i = true ∧ inB vs i = true)) : ∃ u s : Nat, ind (inB vs i && inB a i) + ind (inB vs' i && inB b i) ≤ ind (inB vs i) + u ∧
    ind (inB vs' i) + s = ind (inB vs i) + u ∧ u + s = (if vot vs i = vot vs' i then 0 else 1) := by
  have e : (if vot vs i = vot vs' i then 0 else 1) = (if inB vs i = inB vs' i then 0 else 1) := by
    by_cases h : inB vs i = inB vs' i
    · rw [if_pos h, if_pos (vot_ne.2 h)]
    · rw [if_neg h, if_neg (fun h' => h (vot_ne.1 h'))]
  rw [e]
  refine ⟨ind (!inB vs i && inB vs' i), ind (inB vs i && !inB vs' i), ?_⟩
  revert h
  cases inB vs i <;> cases inB vs' i <;> cases inB a i <;> cases inB b i <;> simp [ind]

/-- Two majorities, the second of a roster whose voters differ by one at most, share a voter of the first. -/
theorem share {vs ls vs' a b : List Int} (h : goodB vs ls = true) (h' : vs'.Nodup ∧ ∀ x ∈ vs', 0 ≤ x ∧ x < 5) (hd : dif (vot vs) (vot vs') 5 ≤ 1) (ha : major vs a = true) (hb : major vs' b = true) :
    ∃ n ∈ a, inB b n = true ∧ inB vs n = true := by
  refine Classical.byContradiction fun hc => ?_
  have hno : ∀ i, ¬ (inB a i = true ∧ inB b i = true ∧ inB vs i = true) := fun i ⟨x, y, z⟩ => hc ⟨i, inB_iff.1 x, y, z⟩
  obtain ⟨n1, r1⟩ := good_nodup h
  obtain ⟨n2, r2⟩ := h'
  unfold major at ha hb
  rw [decide_eq_true_eq, length5 n1 r1, count5 n1 r1] at ha
  rw [decide_eq_true_eq, length5 n2 r2, count5 n2 r2] at hb
  unfold sum5 at ha hb
  simp only [dif] at hd
  obtain ⟨u0, s0, p0, q0, t0⟩ := five vs vs' a b 0 (hno 0)
  obtain ⟨u1, s1, p1, q1, t1⟩ := five vs vs' a b 1 (hno 1)
  obtain ⟨u2, s2, p2, q2, t2⟩ := five vs vs' a b 2 (hno 2)
  obtain ⟨u3, s3, p3, q3, t3⟩ := five vs vs' a b 3 (hno 3)
  obtain ⟨u4, s4, p4, q4, t4⟩ := five vs vs' a b 4 (hno 4)
  have c0 : ((0 : Nat) : Int) = 0 := rfl
  have c1 : ((0 + 1 : Nat) : Int) = 1 := rfl
  have c2 : ((0 + 1 + 1 : Nat) : Int) = 2 := rfl
  have c3 : ((0 + 1 + 1 + 1 : Nat) : Int) = 3 := rfl
  have c4 : ((0 + 1 + 1 + 1 + 1 : Nat) : Int) = 4 := rfl
  rw [c0, c1, c2, c3, c4, ← t0, ← t1, ← t2, ← t3, ← t4] at hd
  dsimp only at ha hb
  omega

/-- The same as the law has it. -/
theorem share_law {vs ls vs' ls' a b : List Int} (h : goodB vs ls = true) (h' : vs' = vs ∨ errM vs ls vs' ls' = 0) (ha : major vs a = true) (hb : major vs' b = true) :
    a.any (fun n => inB b n && inB vs n) = true := by
  have : ∃ n ∈ a, inB b n = true ∧ inB vs n = true := by
    rcases h' with rfl | h'
    · exact share h (good_nodup h) (by rw [dif_self]; omega) ha hb
    · exact share h (good_nodup (errM_ok h').2.1) (one_le h') ha hb
  obtain ⟨n, hn, h1, h2⟩ := this
  rw [List.any_eq_true]
  exact ⟨n, hn, by simp [h1, h2]⟩

end Go.Proofs.Ytbfpdahbmdaenaa
