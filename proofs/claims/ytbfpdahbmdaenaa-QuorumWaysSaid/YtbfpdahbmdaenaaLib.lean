/-
  Small laws of this seat's own: a slice of integers that is read; what a call leaves of the world.
-/
import Derived.Test.YtbfpdahbmdaenaaRows
import Derived.WalkKit
import Derived.WalkSpells
import Derived.WalkLawsBesides
import Derived.Deep.LoopGhost
import Derived.Deep.Draws
namespace Go.Proofs.Ytbfpdahbmdaenaa
open Go.RowKit

/-- A fact kept from the walk. -/
structure Kp (p : Prop) : Prop where mk :: (it : p)

theorem ret_int {k : IntKind} {a b : Int} (h : a = b) : Ending.returned (.int k a) = .returned (.int k b) := by rw [h]
theorem ret_bool {a b : Bool} (h : a = b) : Ending.returned (.bool a) = .returned (.bool b) := by rw [h]

/-- The j-th number; 0 behind the end. -/
def rd (xs : List Int) (j : Nat) : Int := xs.getD j 0
theorem rd_lt {xs : List Int} {j : Nat} (h : j < xs.length) : rd xs j = xs[j] := by
  unfold rd
  rw [List.getD_eq_getElem?_getD, List.getElem?_eq_getElem h]
  rfl

/-- A slice of ints, as read: nil, empty or not. -/
structure Rd (w : World) (A : Option Addr) (n : Nat) (xs : List Int) : Prop where
  len : xs.length = n
  bd : n * 8 ≤ 140737488351232
  cells : 0 < n → ∃ b o, A = some ⟨b, o, none⟩ ∧ b < w.heap.size ∧ ∀ j, j < n → w.cell? ⟨b, o + j, none⟩ = some (.int .i64 (rd xs j))

theorem Rd.below {w w' : World} {A : Option Addr} {n : Nat} {xs : List Int} (h : Rd w A n xs) (hb : Below w.heap.size w w') : Rd w' A n xs :=
  ⟨h.len, h.bd, fun hn => by
    obtain ⟨b, o, e, hlt, hc⟩ := h.cells hn
    exact ⟨b, o, e, Nat.lt_of_lt_of_le hlt hb.size, fun j hj => (hb.cell (p := ⟨b, o + j, none⟩) hlt).trans (hc j hj)⟩⟩

theorem Rd.get {w : World} {A : Option Addr} {n : Nat} {xs : List Int} (h : Rd w A n xs) {k : Nat} (hk : k < n) :
    ∃ b o, A = some ⟨b, o, none⟩ ∧ b < w.heap.size ∧ w.cell? ⟨b, o + k, none⟩ = some (.int .i64 (rd xs k)) := by
  obtain ⟨b, o, e, hlt, hc⟩ := h.cells (by omega)
  exact ⟨b, o, e, hlt, hc k hk⟩

/-- How many of the first k have p. -/
def cnt (p : Int → Bool) (xs : List Int) (k : Nat) : Nat := (xs.take k).countP p
theorem cnt_zero (p : Int → Bool) (xs : List Int) : cnt p xs 0 = 0 := by simp [cnt]
theorem cnt_le (p : Int → Bool) (xs : List Int) (k : Nat) : cnt p xs k ≤ k := Nat.le_trans List.countP_le_length (List.length_take_le _ _)
theorem cnt_hit {p : Int → Bool} {xs : List Int} {k : Nat} (h : k < xs.length) (hp : p (rd xs k) = true) : cnt p xs (k + 1) = cnt p xs k + 1 := by
  unfold cnt
  rw [List.take_succ_eq_append_getElem h, List.countP_append, List.countP_singleton, ← rd_lt h, if_pos hp]
theorem cnt_miss {p : Int → Bool} {xs : List Int} {k : Nat} (h : k < xs.length) (hp : p (rd xs k) = false) : cnt p xs (k + 1) = cnt p xs k := by
  unfold cnt
  rw [List.take_succ_eq_append_getElem h, List.countP_append, List.countP_singleton, ← rd_lt h, if_neg (by simp [hp]), Nat.add_zero]
theorem cnt_all (p : Int → Bool) (xs : List Int) : cnt p xs xs.length = xs.countP p := by simp [cnt]
theorem cnt_cp (p : Int → Bool) (xs : List Int) : xs.countP p ≤ xs.length := List.countP_le_length
theorem Rd.le {w : World} {A : Option Addr} {n : Nat} {xs : List Int} (h : Rd w A n xs) : xs.length * 8 ≤ 140737488351232 := by rw [h.len]; exact h.bd
theorem below_drewN {B : Nat} {w W : World} (h : Below B w W) (n : Nat) : Below B w (W.drewN n) := ⟨h.os, h.tape, h.output, h.size, h.block⟩
theorem Rd.drewN {w : World} {A : Option Addr} {n : Nat} {xs : List Int} (h : Rd w A n xs) (m : Nat) : Rd (w.drewN m) A n xs := h.below (below_drewN (Below.refl _ _) m)

end Go.Proofs.Ytbfpdahbmdaenaa
