/-
  slices.SortStableFunc on a row of the call's own, by how many a map has of each.
-/
import Derived.Test.YtemnhmnompehoaaMap
namespace Go.Proofs.Ytemnhmnompehoaa
open Go Go.RowKit Go.Sort

/-- Of two the one that has more comes first; of one number the lesser one. -/
def leH (f : Int → Int) (x y : Int) : Bool := decide (f y < f x ∨ (f x = f y ∧ x ≤ y))

def toW (xs : List Int) (h : ∀ x ∈ xs, Wf x) : Array W64 := (xs.attach.map fun x => (⟨x.1, h x.1 x.2⟩ : W64)).toArray
theorem toW_size {xs : List Int} {h : ∀ x ∈ xs, Wf x} : (toW xs h).size = xs.length := by simp [toW]
theorem toW_get {xs : List Int} {h : ∀ x ∈ xs, Wf x} {j : Nat} (hj : j < xs.length) : ((toW xs h)[j]!).1 = rd xs j := by
  rw [getElem!_pos _ _ (by rw [toW_size]; exact hj), rd_lt hj]
  simp [toW]
theorem toW_map {xs : List Int} {h : ∀ x ∈ xs, Wf x} : (toW xs h).toList.map (·.1) = xs := by
  simp [toW]

theorem heap_sortedW {w : World} {g n : Nat} {os : Array Obj} {cur : Array Value} {e : TypeId} {fr : Nat × Nat} (d : Array W64) (hb : w.heap[g]? = some (.cells cur e fr)) :
    (sortWorld encW w g 0 n d os).heap[g]? = some (.cells (putCells encW 0 d cur) e fr) := by
  have hg : g < w.heap.size := (Array.getElem?_eq_some_iff.1 hb).1
  unfold sortWorld
  rw [heap_grow_old _ _ (by simpa using hg)]
  simp [putRow, mapBlock, Sort.ahead, Array.getElem?_modify, hb, onCells]
theorem take_putCellsW (cur : Array Value) (d : Array W64) (h : d.size ≤ cur.size) : (putCells encW 0 d cur).toList.take d.size = (d.toList.map (·.1)).map (Value.int .i64) := by
  apply List.ext_getElem?
  intro j
  by_cases hj : j < d.size
  · rw [List.getElem?_take_of_lt hj, Array.getElem?_toList]
    simp [putCells, hj, show j < cur.size by omega, encW]
  · rw [List.getElem?_take_eq_none (by omega), List.getElem?_eq_none (by simp; omega)]

theorem sortStable_own (p b n : Nat) (f : Int → Int) (v : Value) (xs : List Int) (w : World) (base : Nat) (hx : xs ≠ []) (hc : w.cell? ⟨p, 0, none⟩ = some (.map (some b))) (h : IM w b n f) (hp : p < base) (hb : b < base) (hf : ∀ z, 0 ≤ f z ∧ f z ≤ 1000000000)
    (ho : Own w base v xs) (hasc : xs.Pairwise (· ≤ ·)) (hwf : ∀ x ∈ xs, Wf x) (hl : xs.length ≤ 1000000) :
    Calls Try.prog 58 #[v, .func (.func 59) #[] #[.pointer (some ⟨p, 0, none⟩)]] w fun e w' => e = .returned (.tuple #[]) ∧ Own w' base v (xs.mergeSort (leH f)) ∧ w.grownBy w' v.ownBlock := by
  unfold Own at ho
  rcases ho.2 with ⟨_, h0⟩ | ⟨g, cap, cur, hv, hbg, hh, h1, h2, h3, h4⟩
  · exact absurd (by simpa using h0) hx
  · subst hv
    rw [Nat.mul_one] at h3 h4
    have hcell : ∀ j, j < xs.length → w.cell? ⟨g, 0 + j, none⟩ = some (.int .i64 (rd xs j)) := fun j hj => by
      have e : (cur.toList.take xs.length)[j]? = some (.int .i64 (rd xs j)) := by rw [h4, List.getElem?_map, List.getElem?_eq_getElem hj, rd_lt hj]; rfl
      rw [List.getElem?_take, if_pos hj] at e
      rw [Nat.zero_add]
      exact blk_cell hh (by simpa using e)
    have hH : Holds encW w g 0 (toW xs hwf) := fun j hj => by
      rw [toW_size] at hj
      exact ⟨by rw [hcell j hj]; unfold encW; rw [toW_get hj], by simp [World.frozen?, hh]⟩
    have R : Row1 encW w g 0 (toW xs hwf) := ⟨fun x => rfl, hH, (Array.getElem?_eq_some_iff.1 hh).1⟩
    have hpg : p ≠ g := by omega
    have hbg' : b ≠ g := by omega
    refine (sortStable_any (kyH f) p g 0 cap xs.length (toW xs hwf) (toW xs hwf) w w R toW_size toW_size (SW.start hH) (by omega) (cmp59 p b n g 0 xs.length f w hc h hpg hbg' hf) (fun i j hij hj => ?_)).mono ?_
    · show ((toW xs hwf)[i]!).1 ≤ ((toW xs hwf)[j]!).1
      rw [toW_get (by omega), toW_get hj, rd_lt (by omega), rd_lt hj]
      exact List.pairwise_iff_getElem.1 hasc i j (by omega) hj hij
    · rintro e w' ⟨rfl, d', ⟨m, os, rfl⟩, P, S⟩
      have hd' : d'.size = xs.length := P.1.trans toW_size
      have hu := sorted_unique_holds (lt := rB (kyH f)) (rB_swo _) (fun x y a b => Subtype.ext (rB_total (κ := kyH f) a b)) (toW xs hwf) d' (by rw [toW_size]; exact P) (by rw [toW_size]; exact S)
      have hm : d'.toList.map (·.1) = xs.mergeSort (leH f) := by
        rw [hu]
        rw [List.map_mergeSort (s := leH f) (by
          intro x _ y _
          show (!rB (kyH f) y x) = leH f x.1 y.1
          unfold leH
          cases hr : rB (kyH f) y x with
          | true =>
            rw [rB_iff] at hr
            have hr' : - f y.1 < - f x.1 ∨ (- f y.1 = - f x.1 ∧ y.1 < x.1) := hr
            symm
            simp only [Bool.not_true, decide_eq_false_iff_not]
            omega
          | false =>
            rw [rB_no] at hr
            have hr' : ¬ (- f y.1 < - f x.1 ∨ (- f y.1 = - f x.1 ∧ y.1 < x.1)) := hr
            symm
            simp only [Bool.not_false, decide_eq_true_eq]
            omega), toW_map]
      refine ⟨rfl, ?_, grownBy_sorted⟩
      have hb' := heap_sortedW (n := m) (os := os) d' hh
      unfold Own
      rw [← hm]
      refine ⟨by simp, .inr ⟨g, cap, _, ?_, hbg, hb', by simpa [hd'] using h1, h2, by simpa [putCells] using h3, ?_⟩⟩
      · rw [show (d'.toList.map (·.1)).length = xs.length by simp [hd']]
      · rw [Nat.mul_one, show (d'.toList.map (·.1)).length = d'.size by simp]
        exact take_putCellsW cur d' (by rw [hd', h3]; exact h1)

end Go.Proofs.Ytemnhmnompehoaa
