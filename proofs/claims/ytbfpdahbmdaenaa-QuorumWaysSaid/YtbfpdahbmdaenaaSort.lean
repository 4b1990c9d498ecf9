/-
  slices.Sort at []int, on a row of the call's own.
-/
import Derived.Test.YtbfpdahbmdaenaaLib
import Derived.Test.YtbfpdahbmdaenaaShelf
import Derived.Sort.OwnSortedInts
namespace Go.Proofs.Ytbfpdahbmdaenaa
open Go.RowKit

def sorted (xs : List Int) : List Int := xs.mergeSort fun x y => decide (x ≤ y)
theorem sorted_length (xs : List Int) : (sorted xs).length = xs.length := by unfold sorted; exact List.length_mergeSort _
theorem sorted_perm (xs : List Int) : (sorted xs).Perm xs := List.mergeSort_perm _ _
theorem sorted_pair (xs : List Int) : (sorted xs).Pairwise (· ≤ ·) := by
  have := List.pairwise_mergeSort (le := fun x y : Int => decide (x ≤ y)) (fun a b c h1 h2 => by simp at *; omega) (fun a b => by simp; omega) xs
  exact this.imp (by intro a b h; simpa using h)

/-- An owned row of ints. -/
def Own (W : World) (base : Nat) (v : Value) (xs : List Int) : Prop := W.ownsRow base 3 1 v xs.length (xs.map (Value.int .i64))
theorem Own.nil (W : World) (base : Nat) : Own W base (.slice none 0 0) [] := World.ownsRow_nil _ _ _ _
theorem Own.alloc {W : World} {base : Nat} {v : Value} {xs : List Int} (h : Own W base v xs) (o : Obj) : Own (W.alloc o) base v xs := World.ownsRow.alloc h o
theorem Own.kept {W W' : World} {base : Nat} {v : Value} {xs : List Int} {r : Option Nat} (h : Own W base v xs) (hg : W.grownBy W' r) (hr : v.ownBlock ≠ r ∨ v.ownBlock = none) : Own W' base v xs := by
  refine World.ownsRow.kept h hg ?_
  rcases hr with hr | hr
  · cases r with
    | none => cases hv : v.ownBlock <;> simp
    | some k => cases hv : v.ownBlock with
      | none => simp
      | some b => simp; rintro rfl; exact hr hv
  · rw [hr]; simp
theorem Own.below {W W' : World} {base : Nat} {v : Value} {xs : List Int} (h : Own W base v xs) (hb : Below W.heap.size W W') : Own W' base v xs :=
  World.ownsRow.kept h (⟨hb.os, hb.tape, hb.output, hb.size, fun i hi _ => hb.block i hi⟩ : W.grownBy W' none) (by cases v.ownBlock <;> simp)

theorem Own.base_le {W : World} {base : Nat} {v : Value} {xs : List Int} (h : Own W base v xs) (k : Nat) (hk : v.ownBlock = some k) : base ≤ k := by
  unfold Own at h
  rcases h.2 with ⟨rfl, _⟩ | ⟨g, cap, cur, rfl, hb, _⟩
  · simp [Value.ownBlock] at hk
  · have : g = k := by simpa [Value.ownBlock] using hk
    omega
/-- Behind an append to an owned row. -/
theorem below_app {B base : Nat} {w0 wr w1 : World} {v : Value} {xs : List Int} {o : Obj} (hW : Below B w0 wr) (hsz : B ≤ wr.heap.size) (hown : Own wr base v xs) (hbase : B ≤ base) (hg : (wr.alloc o).grownBy w1 v.ownBlock) : Below B w0 w1 ∧ wr.heap.size + 1 ≤ w1.heap.size :=
  ⟨(hW.alloc hsz o).grown hg (by simp; omega) (fun k hk => Nat.le_trans hbase (hown.base_le k hk)), by have := hg.size; simpa using this⟩

/-- What an owned row reads as. -/
theorem Own.form {W : World} {base : Nat} {v : Value} {xs : List Int} (h : Own W base v xs) : ∃ A c, v = .slice A xs.length c ∧ (xs.length * 8 ≤ 140737488351232 → Rd W A xs.length xs) := by
  have h' := h
  unfold Own at h'
  rcases h'.2 with ⟨rfl, h0⟩ | ⟨g, cap, cur, rfl, hb, hh, h1, h2, h3, h4⟩
  · have : xs.length = 0 := by simpa using h0
    rw [this]
    exact ⟨none, 0, rfl, fun _ => ⟨this, by omega, fun h => absurd h (by omega)⟩⟩
  · refine ⟨_, cap, rfl, fun hbd => ⟨rfl, hbd, fun _ => ⟨g, 0, rfl, (Array.getElem?_eq_some_iff.1 hh).1, fun j hj => ?_⟩⟩⟩
    rw [Nat.zero_add]
    have := World.ownsRow.cellAt h' j (by omega)
    rw [this, rd_lt hj]
    simp [List.getElem?_eq_getElem hj]

theorem sort_any (v : Value) (xs : List Int) (w : World) (base : Nat) (h : Own w base v xs) (hl : xs.length < 4611686018427387904) :
    Calls Try.prog 41 #[v] w fun e w' => e = .returned (.tuple #[]) ∧ Own w' base v (sorted xs) ∧ w.grownBy w' v.ownBlock := by
  have h' := h
  unfold Own at h'
  rcases h'.2 with ⟨rfl, h0⟩ | ⟨g, cap, cur, rfl, hb, hh, h1, h2, h3, h4⟩
  · have hx : xs = [] := by simpa using h0
    subst hx
    refine (Try.slices_Sort_int_none none 0 w).mono ?_
    rintro e w' ⟨rfl, rfl⟩
    exact ⟨rfl, by simpa [sorted] using Own.nil w' base, World.grownBy.refl _ _⟩
  · refine (Try.slices_Sort_int g 0 cap xs w (holds_of_blockI hh (by simpa using h4)) (Array.getElem?_eq_some_iff.1 hh).1 hl).mono ?_
    rintro e w' ⟨rfl, n, os, rfl⟩
    refine ⟨rfl, ?_, by simpa [Value.ownBlock] using grownBy_sortedI _⟩
    have := ownsRow_sortedI (n := n) (os := os) (base := base) (ts := sorted xs) (sorted_length xs) hb hh h1 h2 h3
    unfold Own
    rw [sorted_length]
    exact this

end Go.Proofs.Ytbfpdahbmdaenaa
