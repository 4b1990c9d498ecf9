/-
  A slice of ints, a roster, an array of five that came in: as the walks take them.
-/
import Derived.Test.YtbfpdahbmdaenaaPlaces
import Derived.ProofKit
import Derived.OpenShut
import Derived.SizedLaws
import Derived.ChangeOld
import Derived.Lib.SmallJoins
namespace Go.Proofs.Ytbfpdahbmdaenaa
open Go.ChangeShapes Go.WideShapes Go.ChangeAt Go.RowKit Go.Joins

variable {H : Type} {enc : TypeId × Value → H} {W : World}

theorem sl_open' {fuel : Nat} {cs : List Value} {y : DataW H × List MemPlace} (h : DataW.trod enc Try.prog W 0 (fun _ => true) true fuel 22 cs = some y) (hz : ∀ x ∈ DataW.weights Try.prog 22 y.1, x ≤ reachBytes) :
    ∃ A n c xs, cs = [.slice A n c] ∧ Rd W A n xs := by
  rcases open_ints Try.underlying22 Try.underlying3 (by kernel_rfl) h with ⟨rfl, _⟩ | ⟨a, l, c, zs, rfl, _, hl, hm, hzs, rfl, hcell, _⟩
  · exact ⟨none, 0, 0, [], rfl, rfl, by decide, fun h => absurd h (by decide)⟩
  · have hzl : zs.length = c := by simpa using hzs
    have hb : c * 8 ≤ 140737488351232 := by
      have := hz ((l + (c - l)) * 8) (by
        simp only [DataW.weights, Try.underlying22, List.mem_cons]
        left
        rw [show Try.prog.bytesOf 3 = 8 by kernel_rfl]
        simp only [lits, List.length_map, List.length_take, List.length_drop]
        rw [hzl, Nat.min_eq_left hl])
      unfold reachBytes at this
      omega
    refine ⟨some a, l, c, zs.take l, rfl, by rw [List.length_take]; omega, by omega, fun h0 => ?_⟩
    obtain ⟨b, off, spot⟩ := a
    have h1 := hcell 0 (by omega)
    have hspot : spot = none := by simpa [Addr.add] using World.cell?_spot h1
    subst hspot
    refine ⟨b, off, rfl, World.block_lt_of_cell? W _ (by simpa [Addr.add] using h1), fun j hj => ?_⟩
    have := hcell j (by omega)
    have e : (⟨b, off, none⟩ : Addr).add j = ⟨b, off + j, none⟩ := by unfold Addr.add; split <;> simp_all
    rw [e] at this
    rw [this]
    unfold rd
    simp [hj]

theorem ro_open {base : Nat} {v : Value} {d : DataW H} {p : List MemPlace} (hv : Value.okWide Try.prog W .any base 24 v) (h : DataW.Trod enc Try.prog W 0 (fun _ => true) true 24 v d p) (hz : ∀ x ∈ DataW.weights Try.prog 24 d, x ≤ reachBytes) :
    ∃ A n c B m e vs ls, v = .agg #[.slice A n c, .slice B m e] ∧ Rd W A n vs ∧ Rd W B m ls := by
  obtain ⟨c0, c1, y0, y1, m, rfl, rfl, rfl, h0, h1⟩ := open_agg2 Try.underlying24 (by kernel_rfl) (by kernel_rfl) hv h
  have e : DataW.weights Try.prog 24 (.agg [y0.1, y1.1]) = DataW.weights Try.prog 22 y0.1 ++ (DataW.weights Try.prog 22 y1.1 ++ []) := by
    simp only [DataW.weights, Try.underlying24, DataW.weightsEach, List.map_cons, List.map_nil]
  rw [e] at hz
  obtain ⟨A, n, c, vs, e0, r0⟩ := sl_open' h0 (fun x hx => hz x (List.mem_append.2 (.inl hx)))
  obtain ⟨B, m', e', ls, e1, r1⟩ := sl_open' h1 (fun x hx => hz x (List.mem_append.2 (.inr (List.mem_append.2 (.inl hx)))))
  simp only [List.cons.injEq, and_true] at e0 e1
  subst e0 e1
  exact ⟨_, _, _, _, _, _, _, _, rfl, r0, r1⟩

theorem sl_open {base : Nat} {v : Value} {d : DataW H} {p : List MemPlace} (hv : Value.okWide Try.prog W .any base 22 v) (h : DataW.Trod enc Try.prog W 0 (fun _ => true) true 22 v d p) (hz : ∀ x ∈ DataW.weights Try.prog 22 d, x ≤ reachBytes) :
    ∃ A n c xs, v = .slice A n c ∧ Rd W A n xs := by
  obtain ⟨A0, n0, c0, rfl⟩ := okWide_slice Try.underlying22 hv
  obtain ⟨fuel, hf⟩ := h
  obtain ⟨A, n, c, xs, e, r⟩ := sl_open' hf hz
  simp [Value.cells] at e
  obtain ⟨rfl, rfl, rfl⟩ := e
  exact ⟨_, _, _, _, rfl, r⟩

theorem arr_open {base : Nat} {v : Value} {d : DataW H} {p : List MemPlace} (hv : Value.okWide Try.prog W .any base 25 v) (h : DataW.Trod enc Try.prog W 0 (fun _ => true) true 25 v d p) :
    ∃ r : Int → Int, v = .agg (arr5 r) := by
  have hv' : ∃ cs : Array Value, v = .agg cs ∧ cs.size = 5 := by
    simp only [Value.okWide, Try.underlying25] at hv
    obtain ⟨cs, h1, h2, _⟩ := hv
    exact ⟨cs, h1, h2.trans (by kernel_rfl)⟩
  obtain ⟨cs, rfl, hsz⟩ := hv'
  obtain ⟨fuel, hf⟩ := h
  obtain ⟨xs, m, rfl, _, _, hxl, he⟩ := DataW.trod_array Try.underlying25 hf
  have key : ∀ i, i < 5 → ∃ x, cs[i]? = some (.int .i64 x) := by
    intro i hi
    have := he i hi
    rw [show Try.prog.cellsOf 3 = 1 by kernel_rfl, List.getElem?_eq_getElem (by omega)] at this
    obtain ⟨x, hx, _⟩ := DataW.trod_int Try.underlying3 this
    refine ⟨x, ?_⟩
    have h0 : ((cs.toList.drop (i * 1)).take 1)[0]? = some (.int .i64 x) := by
      have : (Value.agg cs).cells.toList = cs.toList := rfl
      rw [this] at hx
      rw [hx]; rfl
    rw [List.getElem?_take_of_lt (by omega), List.getElem?_drop] at h0
    simpa using h0
  have hc : ∀ i, i < 5 → ∃ x, cs[i]? = some (.int .i64 x) := key
  obtain ⟨x0, h0⟩ := hc 0 (by omega)
  obtain ⟨x1, h1⟩ := hc 1 (by omega)
  obtain ⟨x2, h2⟩ := hc 2 (by omega)
  obtain ⟨x3, h3⟩ := hc 3 (by omega)
  obtain ⟨x4, h4⟩ := hc 4 (by omega)
  refine ⟨fun m => if m = 0 then x0 else if m = 1 then x1 else if m = 2 then x2 else if m = 3 then x3 else x4, ?_⟩
  congr 1
  apply Array.ext_getElem?
  intro i
  by_cases hi : i < 5
  · match i, hi with
    | 0, _ => exact h0
    | 1, _ => exact h1
    | 2, _ => exact h2
    | 3, _ => exact h3
    | 4, _ => exact h4
  · rw [Array.getElem?_eq_none (by omega), Array.getElem?_eq_none (by show 5 ≤ i; omega)]

theorem sl_open2' {fuel : Nat} {cs : List Value} {y : DataW H × List MemPlace} (h : DataW.trod enc Try.prog W 0 (fun _ => true) true fuel 22 cs = some y) (hz : ∀ x ∈ DataW.weights Try.prog 22 y.1, x ≤ reachBytes) :
    ∃ A n c xs, cs = [.slice A n c] ∧ Rd W A n xs ∧ (A = none → c = 0) := by
  obtain ⟨A, n, c, xs, rfl, r⟩ := sl_open' h hz
  refine ⟨A, n, c, xs, rfl, r, ?_⟩
  rintro rfl
  rcases open_ints Try.underlying22 Try.underlying3 (by kernel_rfl) h with ⟨e, _⟩ | ⟨a, l, c', zs, e, _⟩
  · simp at e; exact e.2
  · simp at e
theorem ro_open2 {base : Nat} {v : Value} {d : DataW H} {p : List MemPlace} (hv : Value.okWide Try.prog W .any base 24 v) (h : DataW.Trod enc Try.prog W 0 (fun _ => true) true 24 v d p) (hz : ∀ x ∈ DataW.weights Try.prog 24 d, x ≤ reachBytes) :
    ∃ A n c B m e vs ls, v = .agg #[.slice A n c, .slice B m e] ∧ Rd W A n vs ∧ Rd W B m ls ∧ (A = none → c = 0) ∧ (B = none → e = 0) := by
  obtain ⟨c0, c1, y0, y1, m, rfl, rfl, rfl, h0, h1⟩ := open_agg2 Try.underlying24 (by kernel_rfl) (by kernel_rfl) hv h
  have e : DataW.weights Try.prog 24 (.agg [y0.1, y1.1]) = DataW.weights Try.prog 22 y0.1 ++ (DataW.weights Try.prog 22 y1.1 ++ []) := by
    simp only [DataW.weights, Try.underlying24, DataW.weightsEach, List.map_cons, List.map_nil]
  rw [e] at hz
  obtain ⟨A, n, c, vs, e0, r0, f0⟩ := sl_open2' h0 (fun x hx => hz x (List.mem_append.2 (.inl hx)))
  obtain ⟨B, m', e', ls, e1, r1, f1⟩ := sl_open2' h1 (fun x hx => hz x (List.mem_append.2 (.inr (List.mem_append.2 (.inl hx)))))
  simp only [List.cons.injEq, and_true] at e0 e1
  subst e0 e1
  exact ⟨_, _, _, _, _, _, _, _, rfl, r0, r1, f0, f1⟩
theorem sl_open2 {base : Nat} {v : Value} {d : DataW H} {p : List MemPlace} (hv : Value.okWide Try.prog W .any base 22 v) (h : DataW.Trod enc Try.prog W 0 (fun _ => true) true 22 v d p) (hz : ∀ x ∈ DataW.weights Try.prog 22 d, x ≤ reachBytes) :
    ∃ A n c xs, v = .slice A n c ∧ Rd W A n xs ∧ (A = none → c = 0) := by
  obtain ⟨A0, n0, c0, rfl⟩ := okWide_slice Try.underlying22 hv
  obtain ⟨fuel, hf⟩ := h
  obtain ⟨A, n, c, xs, e, r, f⟩ := sl_open2' hf hz
  simp [Value.cells] at e
  obtain ⟨rfl, rfl, rfl⟩ := e
  exact ⟨_, _, _, _, rfl, r, f⟩

end Go.Proofs.Ytbfpdahbmdaenaa
