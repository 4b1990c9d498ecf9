/-
  QuorumAsks: small laws for its walk.
-/
import Derived.Test.YtbfpdahbmdaenaaReg2
import Derived.Test.YtbfpdahbmdaenaaPlain7
import Derived.Test.YtbfpdahbmdaenaaRAll
import Derived.Test.YtbfpdahbmdaenaaEq
import Derived.Test.YtbfpdahbmdaenaaVotes
namespace Go.Proofs.Ytbfpdahbmdaenaa
open Go Go.RowKit

def askSp (B N : Nat) (s1 s2 : Value) (vs ls : List Int) : Nat → Value → World → Prop
  | 0 => ExP (.pointer (some ⟨B, 0, none⟩))
  | 1 => ExP s1
  | 2 => SlN vs
  | 3 => ExP (.pointer (some ⟨B, 1, none⟩))
  | 4 => ExP s2
  | 5 => SlN ls
  | 6 => RoN vs ls
  | 7 => BoxP N #[.slice none 0 0, .slice none 0 0] 24
  | _ => fun _ _ => True
theorem askSp_mono (B N : Nat) (s1 s2 : Value) (vs ls : List Int) : ∀ i v w w', Gr w w' → askSp B N s1 s2 vs ls i v w → askSp B N s1 s2 vs ls i v w' := by
  intro i v w w' hg h
  match i, h with
  | 0, h => exact h
  | 1, h => exact h
  | 2, h => exact SlN.mono hg h
  | 3, h => exact h
  | 4, h => exact h
  | 5, h => exact SlN.mono hg h
  | 6, h => exact RoN.mono hg h
  | 7, h => exact BoxP.mono hg h
  | q + 8, _ => trivial

theorem other_block (w : World) (p : Addr) (v : Value) {i : Nat} (h : i ≠ p.block) : (w.setCell p v).heap[i]? = w.heap[i]? := by
  simp [World.setCell, Array.getElem?_modify, Ne.symm h]
theorem cell_other (w : World) (p q : Addr) (v : Value) (h : q.block ≠ p.block) : (w.setCell p v).cell? q = w.cell? q := by
  unfold World.cell?
  rw [other_block w p v h]
theorem size_set (w : World) (p : Addr) (v : Value) : (w.setCell p v).heap.size = w.heap.size := by simp [World.setCell]

theorem Rd.box {W : World} {A : Option Addr} {n : Nat} {xs : List Int} {b : Nat} {s t : Value} {f : Nat × Nat} {T : TypeId} (h : Rd W A n xs) (hb : W.heap[b]? = some (.cells #[s, t] T f)) (hs : ∀ k x, s ≠ .int k x) (ht : ∀ k x, t ≠ .int k x) (o : Nat) (v : Value) : Rd (W.setCell ⟨b, o, none⟩ v) A n xs :=
  ⟨h.len, h.bd, fun hn => by
    obtain ⟨b', o', e, hlt, hc⟩ := h.cells hn
    have hne : b' ≠ b := by
      rintro rfl
      have := hc 0 hn
      simp only [World.cell?, hb, Nat.add_zero] at this
      match o', this with
      | 0, this => simp at this; exact hs _ _ this
      | 1, this => simp at this; exact ht _ _ this
      | q + 2, this => simp at this
    exact ⟨b', o', e, by rw [size_set]; exact hlt, fun j hj => by rw [cell_other _ _ _ _ hne]; exact hc j hj⟩⟩

theorem vote_eq (vs : List Int) (x : Int) : decide (0 < vs.countP (· == x)) = inB vs x := by
  cases h : inB vs x with
  | true =>
    rw [decide_eq_true_eq, List.countP_pos_iff]
    exact ⟨x, inB_iff.1 h, by simp⟩
  | false =>
    rw [decide_eq_false_iff_not, List.countP_pos_iff]
    rintro ⟨y, hy, he⟩
    have : y = x := by simpa using he
    subst this
    rw [inB_iff.2 hy] at h
    cases h
theorem has_eq (vs ls : List Int) (x : Int) : decide (0 < vs.countP (· == x) + ls.countP (· == x)) = (inB vs x || inB ls x) := by
  rw [← vote_eq, ← vote_eq, Bool.eq_iff_iff, Bool.or_eq_true, decide_eq_true_eq, decide_eq_true_eq, decide_eq_true_eq]
  omega
theorem eqB_refl (xs : List Int) : eqB xs xs = true := by simp [eqB]

/-- A row that may be written. -/
def Wr (W : World) (B : Nat) (A : Option Addr) (m : Nat) : Prop := 0 < m → ∃ g cur, A = some ⟨g, 0, none⟩ ∧ B ≤ g ∧ W.heap[g]? = some (.cells cur 3 (0, 0)) ∧ m ≤ cur.size
theorem Own.wr {W : World} {base n c : Nat} {A : Option Addr} {xs : List Int} (h : Own W base (.slice A n c) xs) (hn : n = xs.length) : Wr W base A n := by
  intro h0
  unfold Own at h
  rcases h.2 with ⟨h1, h2⟩ | ⟨g, cap, cur, h1, h2, h3, h4, _, h5, _⟩
  · have : xs.length = 0 := by simpa using h2
    omega
  · cases h1
    exact ⟨g, cur, rfl, h2, h3, by simp at h4 h5; omega⟩
theorem Wr.below {w w' : World} {B : Nat} {A : Option Addr} {m : Nat} (h : Wr w B A m) (hg : Gr w w') : Wr w' B A m := by
  intro h0
  obtain ⟨g, cur, hA, hge, hh, hc⟩ := h h0
  exact ⟨g, cur, hA, hge, by rw [hg.block g (Array.getElem?_eq_some_iff.1 hh).1]; exact hh, hc⟩

end Go.Proofs.Ytbfpdahbmdaenaa
