/-
  A block that is known whole: a row of numbers, of bytes.
-/
import Derived.Test.YtnkgagbobihnnaaReg2
import Derived.Deep.OwnRows
import Derived.Laws.OwnMore
namespace Go.Proofs.Ytnkgagbobihnnaa
open Go Go.RowKit

def row (xs : List Int) : Array Value := (xs.map (Value.int .i64)).toArray
/-- Block g is this row. -/
def Blk (w : World) (g : Nat) (xs : List Int) : Prop := w.heap[g]? = some (.cells (row xs) 3 (0, 0))
theorem row_get {xs : List Int} {j : Nat} (hj : j < xs.length) : (row xs)[j]? = some (.int .i64 (rd xs j)) := by
  unfold row
  rw [List.getElem?_toArray, List.getElem?_map, List.getElem?_eq_getElem hj, rd_lt hj]
  rfl
theorem Blk.cell {w : World} {g : Nat} {xs : List Int} (h : Blk w g xs) {j : Nat} (hj : j < xs.length) : w.cell? ⟨g, j, none⟩ = some (.int .i64 (rd xs j)) := blk_cell h (row_get hj)
theorem Blk.free {w : World} {g : Nat} {xs : List Int} (h : Blk w g xs) (j : Nat) : w.frozen? ⟨g, j, none⟩ = false := blk_free h
theorem Blk.lt {w : World} {g : Nat} {xs : List Int} (h : Blk w g xs) : g < w.heap.size := (Array.getElem?_eq_some_iff.1 h).1
theorem row_set (xs : List Int) (k : Nat) (v : Int) : (row xs).setIfInBounds k (.int .i64 v) = row (xs.set k v) := by
  unfold row
  rw [List.setIfInBounds_toArray, List.map_set]
theorem Blk.store {w : World} {g : Nat} {xs : List Int} (h : Blk w g xs) (k : Nat) (v : Int) : Blk (w.setCell ⟨g, k, none⟩ (.int .i64 v)) g (xs.set k v) := by
  unfold Blk
  rw [blk_set _ h, row_set]
theorem Blk.kept {w w' : World} {g : Nat} {xs : List Int} {r : Option Nat} (h : Blk w g xs) (hg : w.grownBy w' r) (hne : some g ≠ r) : Blk w' g xs := (hg.block g h.lt hne).trans h
theorem Blk.below {w w' : World} {g B : Nat} {xs : List Int} (h : Blk w g xs) (hb : Below B w w') (hlt : g < B) : Blk w' g xs := (hb.block g hlt).trans h
theorem Blk.rd {w : World} {g : Nat} {xs : List Int} (h : Blk w g xs) (hb : xs.length * 8 ≤ 140737488351232) : Rd w (some ⟨g, 0, none⟩) xs.length xs :=
  ⟨rfl, hb, fun _ => ⟨g, 0, rfl, h.lt, fun j hj => by rw [Nat.zero_add]; exact h.cell hj⟩⟩
theorem Blk.own {w : World} {g base : Nat} {xs : List Int} (h : Blk w g xs) (hb : base ≤ g) (hl : xs.length ≤ 1000000000) : Own w base (.slice (some ⟨g, 0, none⟩) xs.length xs.length) xs := by
  unfold Own
  refine ⟨by simp, .inr ⟨g, xs.length, row xs, rfl, hb, h, Nat.le_refl _, by unfold maxLen; omega, by simp [row], ?_⟩⟩
  rw [Nat.mul_one]
  unfold row
  rw [List.take_of_length_le (by simp)]

theorem Rd.grown {w w' : World} {A : Option Addr} {n : Nat} {xs : List Int} {g : Nat} (h : Rd w A n xs) (hg : w.grownBy w' (some g)) (hne : 0 < n → ∀ b o, A = some ⟨b, o, none⟩ → b ≠ g) : Rd w' A n xs :=
  ⟨h.len, h.bd, fun hn => by
    obtain ⟨b, o, e, hlt, hc⟩ := h.cells hn
    refine ⟨b, o, e, Nat.lt_of_lt_of_le hlt hg.size, fun j hj => ?_⟩
    have := hg.block b hlt (by have := hne hn b o e; simpa using this)
    rw [← hc j hj]
    unfold World.cell?
    rw [this]⟩

/-- A new row of zeros. -/
def zrow (n : Nat) : Array Value := row (List.replicate n 0)
theorem madeCells_zrow (n : Nat) : madeCells #[.int .i64 0] n = zrow n := by
  apply Array.ext'
  rw [toList_madeCells_one]
  simp [zrow, row]
theorem make_ints (n : Nat) (hn : n ≤ 1000000000) (w : World) : (Instr.makeSlice 22 (.int .i64 (n : Int)) (.int .i64 (n : Int))).run Try.prog w = .ok (.slice (some ⟨w.heap.size, 0, none⟩) n n) (w.alloc (.cells (zrow n) 3)) := by
  rw [← madeCells_zrow]
  exact run_make_row' 22 3 (.int .i64 0) 8 Try.underlying22 Try.info3' rfl .i64 .i64 n (by omega) (by omega) w
theorem blk_zrow (w : World) (n : Nat) : Blk (w.alloc (.cells (zrow n) 3)) w.heap.size (List.replicate n 0) := blk_new w _

theorem rd_set {l : List Int} {k : Nat} {v : Int} (hk : k < l.length) : rd (l.set k v) k = v := by
  unfold rd
  rw [List.getD_eq_getElem?_getD, List.getElem?_set, if_pos rfl, if_pos hk]
  rfl
/-- Block g is these bytes. -/
def Bky (w : World) (g : Nat) (bs : List UInt8) : Prop := w.heap[g]? = some (.cells (bvs bs).toArray 5 (0, 0))
theorem Bky.cell {w : World} {g : Nat} {bs : List UInt8} (h : Bky w g bs) {j : Nat} (hj : j < bs.length) : w.cell? ⟨g, j, none⟩ = some (.int .u8 (byte bs j)) :=
  blk_cell h (by rw [List.getElem?_toArray]; exact bvs_get bs hj)
theorem Bky.free {w : World} {g : Nat} {bs : List UInt8} (h : Bky w g bs) (j : Nat) : w.frozen? ⟨g, j, none⟩ = false := blk_free h
theorem Bky.lt {w : World} {g : Nat} {bs : List UInt8} (h : Bky w g bs) : g < w.heap.size := (Array.getElem?_eq_some_iff.1 h).1
theorem Bky.store {w : World} {g : Nat} {bs : List UInt8} (h : Bky w g bs) (k : Nat) (b : UInt8) : Bky (w.setCell ⟨g, k, none⟩ (.int .u8 (b.toNat : Int))) g (bs.set k b) := by
  unfold Bky
  rw [blk_set _ h, List.setIfInBounds_toArray]
  unfold bvs
  rw [List.map_set]
theorem Bky.kept {w w' : World} {g : Nat} {bs : List UInt8} {r : Option Nat} (h : Bky w g bs) (hg : w.grownBy w' r) (hne : some g ≠ r) : Bky w' g bs := (hg.block g h.lt hne).trans h
theorem Bky.below {w w' : World} {g B : Nat} {bs : List UInt8} (h : Bky w g bs) (hb : Below B w w') (hlt : g < B) : Bky w' g bs := (hb.block g hlt).trans h
theorem Bky.rb {w : World} {g : Nat} {bs : List UInt8} (h : Bky w g bs) (hb : bs.length ≤ 140737488355328) : Rb w (some ⟨g, 0, none⟩) bs.length bs :=
  ⟨rfl, hb, fun _ => ⟨g, 0, rfl, h.lt, fun j hj => by rw [Nat.zero_add]; exact h.cell hj⟩⟩
theorem Bky.own {w : World} {g base : Nat} {bs : List UInt8} (h : Bky w g bs) (hb : base ≤ g) (hl : bs.length ≤ 1000000000) : OwnB w base (.slice (some ⟨g, 0, none⟩) bs.length bs.length) bs := by
  unfold OwnB
  refine ⟨by simp [bvs], .inr ⟨g, bs.length, (bvs bs).toArray, rfl, hb, h, Nat.le_refl _, by unfold maxLen; omega, by simp [bvs], ?_⟩⟩
  rw [Nat.mul_one]
  rw [List.take_of_length_le (by simp [bvs])]
/-- A new row of zeros. -/
def zbytes (n : Nat) : Array Value := (bvs (List.replicate n 0)).toArray
theorem madeCells_zbytes (n : Nat) : madeCells #[.int .u8 0] n = zbytes n := by
  apply Array.ext'
  rw [toList_madeCells_one]
  simp [zbytes, bvs]
theorem make_zeros (n : Nat) (hn : n ≤ 1000000000) (w : World) : (Instr.makeSlice 29 (.int .i64 (n : Int)) (.int .i64 (n : Int))).run Try.prog w = .ok (.slice (some ⟨w.heap.size, 0, none⟩) n n) (w.alloc (.cells (zbytes n) 5)) := by
  rw [← madeCells_zbytes]
  exact run_make_row' 29 5 (.int .u8 0) 1 Try.underlying29 Try.info5' rfl .i64 .i64 n (by omega) (by omega) w
theorem bky_zeros (w : World) (n : Nat) : Bky (w.alloc (.cells (zbytes n) 5)) w.heap.size (List.replicate n 0) := blk_new w _

end Go.Proofs.Ytnkgagbobihnnaa
