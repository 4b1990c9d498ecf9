/-
  The tree of digests, plainly; where it lies.
-/
import Derived.Test.YtcmkjoepndbicaaPrs
namespace Go.Proofs.Ytcmkjoepndbicaa
open Go Go.RowKit

/-- The digit of a pair's place at a depth. -/
def dg (ka kb : BitVec 64) (at_ : Nat) (p : Pr) : Nat := (sumU ka kb p.1.data.toList).toNat / 2 ^ (60 - 4 * at_) % 16
theorem dg_lt (ka kb : BitVec 64) (at_ : Nat) (p : Pr) : dg ka kb at_ p < 16 := Nat.mod_lt _ (by omega)
theorem dg_bits (ka kb : BitVec 64) (at_ : Nat) (p : Pr) : bits .and .u64 (((sumU ka kb p.1.data.toList).toNat : Int) / 2 ^ (60 - 4 * at_)) 15 = (dg ka kb at_ p : Int) := by
  unfold dg
  generalize sumU ka kb p.1.data.toList = x
  have hx := x.isLt
  rw [show ((x.toNat : Int) / 2 ^ (60 - 4 * at_)) = ((x.toNat / 2 ^ (60 - 4 * at_) : Nat) : Int) by push_cast; rfl]
  have hle : x.toNat / 2 ^ (60 - 4 * at_) ≤ x.toNat := Nat.div_le_self _ _
  have := bits_and_u64_nat (x.toNat / 2 ^ (60 - 4 * at_)) 15 (by omega) (by omega)
  rw [show ((15 : Nat) : Int) = 15 from rfl] at this
  rw [this, Nat.and_two_pow_sub_one_eq_mod _ 4]
/-- The pairs of one digit. -/
def kid (ka kb : BitVec 64) (at_ i : Nat) (l : List Pr) : List Pr := l.filter fun p => dg ka kb at_ p == i
theorem kid_le (ka kb : BitVec 64) (at_ i : Nat) (l : List Pr) : (kid ka kb at_ i l).length ≤ l.length := List.length_filter_le _ _
/-- The digest of a part that may be parted f times yet. -/
def digU (ka kb : BitVec 64) : Nat → List Pr → BitVec 64
  | 0, l => if l = [] then 0 else sumU ka kb (numB l.length ++ l.flatMap fun p => sgB (pairU ka kb p).toNat)
  | f + 1, l => if l = [] then 0 else sumU ka kb ((List.range 16).flatMap fun i => sgB (digU ka kb f (kid ka kb (3 - f) i l)).toNat)
theorem digU_nil (ka kb : BitVec 64) (f : Nat) : digU ka kb f [] = 0 := by cases f <;> simp [digU]
/-- Block b is the part of the pairs l; all its blocks are of S. -/
def Tr (ka kb : BitVec 64) (S : Nat → Prop) : Nat → List Pr → World → Nat → Prop
  | 0, l, w, b => S b ∧ ∃ A n c, w.heap[b]? = some (.cells #[.int .u64 ((digU ka kb 0 l).toNat : Int), .slice none 0 0, .slice A n c] 111 (0, 0)) ∧ n ≤ c ∧ RP w S A n l
  | f + 1, l, w, b => S b ∧ ∃ A n c, w.heap[b]? = some (.cells #[.int .u64 ((digU ka kb (f + 1) l).toNat : Int), .slice A n c, .slice none 0 0] 111 (0, 0)) ∧
      ((l = [] ∧ n = 0) ∨ (l ≠ [] ∧ n = 16 ∧ ∃ g, A = some ⟨g, 0, none⟩ ∧ S g ∧ g < w.heap.size ∧ ∀ i, i < 16 → ∃ k, w.cell? ⟨g, i, none⟩ = some (.pointer (some ⟨k, 0, none⟩)) ∧ Tr ka kb S f (kid ka kb (3 - f) i l) w k))
theorem Tr.same {ka kb : BitVec 64} {S : Nat → Prop} {w w' : World} (hs : Same S w w') : ∀ (f : Nat) {l : List Pr} {b : Nat}, Tr ka kb S f l w b → Tr ka kb S f l w' b
  | 0, l, b, ⟨hb, A, n, c, h, hc, hr⟩ => ⟨hb, A, n, c, (hs.2 b hb (Array.getElem?_eq_some_iff.1 h).1).trans h, hc, hr.same hs⟩
  | f + 1, l, b, ⟨hb, A, n, c, h, hr⟩ => by
    refine ⟨hb, A, n, c, (hs.2 b hb (Array.getElem?_eq_some_iff.1 h).1).trans h, ?_⟩
    rcases hr with hr | ⟨h1, h2, g, e, hg, hl, hk⟩
    · exact .inl hr
    · refine .inr ⟨h1, h2, g, e, hg, Nat.lt_of_lt_of_le hl hs.1, fun i hi => ?_⟩
      obtain ⟨k, hc, ht⟩ := hk i hi
      exact ⟨k, (hs.cell hg hl).trans hc, Tr.same hs f ht⟩
theorem Tr.below {ka kb : BitVec 64} {S : Nat → Prop} {f : Nat} {w w' : World} {l : List Pr} {b : Nat} (h : Tr ka kb S f l w b) (hb : Below w.heap.size w w') : Tr ka kb S f l w' b := h.same (Same.of_below hb S)
theorem Tr.relax {ka kb : BitVec 64} {S S' : Nat → Prop} {w : World} (hS : ∀ b, S b → b < w.heap.size → S' b) : ∀ (f : Nat) {l : List Pr} {b : Nat}, Tr ka kb S f l w b → Tr ka kb S' f l w b
  | 0, l, b, ⟨hb, A, n, c, h, hc, hr⟩ => ⟨hS b hb (Array.getElem?_eq_some_iff.1 h).1, A, n, c, h, hc, hr.relax hS⟩
  | f + 1, l, b, ⟨hb, A, n, c, h, hr⟩ => by
    refine ⟨hS b hb (Array.getElem?_eq_some_iff.1 h).1, A, n, c, h, ?_⟩
    rcases hr with hr | ⟨h1, h2, g, e, hg, hl, hk⟩
    · exact .inl hr
    · refine .inr ⟨h1, h2, g, e, hS g hg hl, hl, fun i hi => ?_⟩
      obtain ⟨k, hc, ht⟩ := hk i hi
      exact ⟨k, hc, Tr.relax hS f ht⟩
theorem Tr.sum {ka kb : BitVec 64} {S : Nat → Prop} {f : Nat} {w : World} {l : List Pr} {b : Nat} (h : Tr ka kb S f l w b) : b < w.heap.size ∧ w.cell? ⟨b, 0, none⟩ = some (.int .u64 ((digU ka kb f l).toNat : Int)) := by
  cases f with
  | zero => obtain ⟨_, A, n, c, h, _⟩ := h; exact ⟨(Array.getElem?_eq_some_iff.1 h).1, blk_cell h rfl⟩
  | succ f => obtain ⟨_, A, n, c, h, _⟩ := h; exact ⟨(Array.getElem?_eq_some_iff.1 h).1, blk_cell h rfl⟩
/-- An empty part. -/
theorem tr_nil (ka kb : BitVec 64) (f : Nat) (S : Nat → Prop) {w : World} {b : Nat} (hb : S b) (h : w.heap[b]? = some (.cells #[.int .u64 0, .slice none 0 0, .slice none 0 0] 111 (0, 0))) : Tr ka kb S f [] w b := by
  cases f with
  | zero => exact ⟨hb, none, 0, 0, by rw [digU_nil]; exact h, Nat.le_refl _, RP.nil _ _ _⟩
  | succ f => exact ⟨hb, none, 0, 0, by rw [digU_nil]; exact h, .inl ⟨rfl, rfl⟩⟩

/-! The sixteen rows. -/
def fans (F : Nat → Value) : Array Value := #[F 0, F 1, F 2, F 3, F 4, F 5, F 6, F 7, F 8, F 9, F 10, F 11, F 12, F 13, F 14, F 15]
theorem fans_get (F : Nat → Value) {d : Nat} (h : d < 16) : (fans F)[d]? = some (F d) := by
  match d, h with
  | 0, _ => rfl | 1, _ => rfl | 2, _ => rfl | 3, _ => rfl | 4, _ => rfl | 5, _ => rfl | 6, _ => rfl | 7, _ => rfl
  | 8, _ => rfl | 9, _ => rfl | 10, _ => rfl | 11, _ => rfl | 12, _ => rfl | 13, _ => rfl | 14, _ => rfl | 15, _ => rfl
  | k + 16, h => exact absurd h (by omega)
theorem fans_size (F : Nat → Value) : (fans F).size = 16 := rfl
def upd (F : Nat → Value) (d : Nat) (v : Value) : Nat → Value := fun i => if i = d then v else F i
theorem fans_set (F : Nat → Value) {d : Nat} (h : d < 16) (v : Value) : (fans F).setIfInBounds d v = fans (upd F d v) := by
  match d, h with
  | 0, _ => rfl | 1, _ => rfl | 2, _ => rfl | 3, _ => rfl | 4, _ => rfl | 5, _ => rfl | 6, _ => rfl | 7, _ => rfl
  | 8, _ => rfl | 9, _ => rfl | 10, _ => rfl | 11, _ => rfl | 12, _ => rfl | 13, _ => rfl | 14, _ => rfl | 15, _ => rfl
  | k + 16, h => exact absurd h (by omega)
/-- Block X is the sixteen rows of the pairs L; each is its own. -/
structure Fan (w : World) (X : Nat) (F : Nat → Value) (L : Nat → List Pr) : Prop where
  blk : w.heap[X]? = some (.cells (fans F) 129 (0, 0))
  own : ∀ d, d < 16 → OwnP w (X + 1) (F d) (L d)
  dj : ∀ d e, d < 16 → e < 16 → d ≠ e → Dj (F d) (F e)
theorem Fan.below {w w' : World} {X : Nat} {F : Nat → Value} {L : Nat → List Pr} (h : Fan w X F L) (hb : Below w.heap.size w w') : Fan w' X F L :=
  ⟨(hb.block _ (Array.getElem?_eq_some_iff.1 h.blk).1).trans h.blk, fun d hd => (h.own d hd).below hb, h.dj⟩
theorem Dj.nextP {W : World} {base : Nat} {v u u' : Value} {xs : List Pr} (h : OwnP W base v xs) (hd : Dj v u) (hu : u.ownBlock = u'.ownBlock ∨ ∃ b, u'.ownBlock = some b ∧ W.heap.size ≤ b) : Dj v u' := by
  rcases hu with hu | ⟨b, hu, hb⟩
  · unfold Dj; rw [← hu]; exact hd
  · unfold Dj
    cases hv : v.ownBlock with
    | none => exact .inl rfl
    | some c =>
      right; right
      rw [hu]
      have := (h.lt c hv).2
      intro e
      injection e
      omega
/-- One more pair. -/
theorem Fan.put {w w1 : World} {X : Nat} {F : Nat → Value} {L : Nat → List Pr} (h : Fan w X F L) {d : Nat} (hd : d < 16) {v : Value} {l : List Pr} (ho : OwnP w1 (X + 1) v l) (hg : w.grownBy w1 (F d).ownBlock)
    (hv : (F d).ownBlock = v.ownBlock ∨ ∃ b, v.ownBlock = some b ∧ w.heap.size ≤ b) : Fan (w1.setCell ⟨X, d, none⟩ v) X (upd F d v) (fun i => if i = d then l else L i) := by
  have hX : X < w.heap.size := (Array.getElem?_eq_some_iff.1 h.blk).1
  refine ⟨?_, fun e he => ?_, fun e e' he he' hne => ?_⟩
  · have hb : w1.heap[X]? = some (.cells (fans F) 129 (0, 0)) := (hg.block X hX (by
      intro e
      have := ((h.own d hd).lt X e.symm).1
      omega)).trans h.blk
    rw [blk_set v hb, fans_set F hd]
  · refine OwnP.far ?_ (by omega)
    by_cases hed : e = d
    · subst hed
      simpa [upd] using ho
    · simp only [upd, hed, if_false]
      exact (h.own e he).grow hg (h.dj e d he hd hed)
  · by_cases h1 : e = d
    · have h2 : e' ≠ d := by omega
      subst h1
      simp only [upd, h2, if_true, if_false]
      exact (Dj.nextP (h.own e' he') (h.dj e' e he' hd (by omega)) hv).symm
    · by_cases h2 : e' = d
      · subst h2
        simp only [upd, h1, if_true, if_false]
        exact Dj.nextP (h.own e he) (h.dj e e' he hd h1) hv
      · simp only [upd, h1, h2, if_false]
        exact h.dj e e' he he' hne
theorem kid_succ (ka kb : BitVec 64) (at_ i : Nat) (l : List Pr) {k : Nat} {x : Pr} (hx : l[k]? = some x) : kid ka kb at_ i (l.take (k + 1)) = if i = dg ka kb at_ x then kid ka kb at_ i (l.take k) ++ [x] else kid ka kb at_ i (l.take k) := by
  obtain ⟨hk, rfl⟩ := List.getElem?_eq_some_iff.1 hx
  unfold kid
  rw [List.take_succ_eq_append_getElem hk, List.filter_append]
  by_cases h : i = dg ka kb at_ l[k]
  · rw [if_pos h]
    simp [← h]
  · rw [if_neg h]
    have : ¬ dg ka kb at_ l[k] = i := fun e => h e.symm
    simp [this]
end Go.Proofs.Ytcmkjoepndbicaa
