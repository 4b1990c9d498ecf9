/-
  A slice of ints that came in: as the walks take it.
-/
import Derived.Test.YtnkgagbobihnnaaBas
import Derived.ProofKit
import Derived.OpenShut
import Derived.SizedLaws
import Derived.ChangeOld
import Derived.Lib.SmallJoins
namespace Go.Proofs.Ytnkgagbobihnnaa
open Go.ChangeShapes Go.WideShapes Go.ChangeAt Go.RowKit Go.Joins

abbrev Wf (x : Int) : Prop := (Lit.int .i64 x).wf = true

variable {H : Type} {enc : TypeId × Value → H} {W : World}

theorem sl_open' {fuel : Nat} {cs : List Value} {y : DataW H × List MemPlace} (h : DataW.trod enc Try.prog W 0 (fun _ => true) true fuel 22 cs = some y) (hz : ∀ x ∈ DataW.weights Try.prog 22 y.1, x ≤ reachBytes) :
    ∃ A n c xs, cs = [.slice A n c] ∧ Rd W A n xs ∧ (A = none → c = 0) ∧ ∀ x ∈ xs, Wf x := by
  rcases open_ints Try.underlying22 Try.underlying3 (by kernel_rfl) h with ⟨rfl, _⟩ | ⟨a, l, c, zs, rfl, _, hl, hm, hzs, rfl, hcell, hwf⟩
  · exact ⟨none, 0, 0, [], rfl, ⟨rfl, by decide, fun h => absurd h (by decide)⟩, fun _ => rfl, fun x hx => by simp at hx⟩
  · have hzl : zs.length = c := by simpa using hzs
    have hb : c * 8 ≤ 140737488351232 := by
      have := hz ((l + (c - l)) * 8) (by
        simp only [DataW.weights, Try.underlying22, List.mem_cons]
        left
        rw [show Try.prog.bytesOf 3 = 8 by kernel_rfl]
        simp only [lits, List.length_map, List.length_take, List.length_drop]
        rw [hzl, Nat.min_eq_left hl])
      unfold reachBytes at this
      omega
    refine ⟨some a, l, c, zs.take l, rfl, ⟨by rw [List.length_take]; omega, by omega, fun h0 => ?_⟩, (fun h => by cases h), fun x hx => hwf x (List.mem_of_mem_take hx)⟩
    obtain ⟨b, off, spot⟩ := a
    have h1 := hcell 0 (by omega)
    have hspot : spot = none := by simpa [Addr.add] using World.cell?_spot h1
    subst hspot
    refine ⟨b, off, rfl, World.block_lt_of_cell? W _ (by simpa [Addr.add] using h1), fun j hj => ?_⟩
    have := hcell j (by omega)
    have e : (⟨b, off, none⟩ : Addr).add j = ⟨b, off + j, none⟩ := by unfold Addr.add; split <;> simp_all
    rw [e] at this
    rw [this]
    unfold rd
    simp [hj]

set_option maxRecDepth 100000 in
theorem sl_open2 {base : Nat} {v : Value} {d : DataW H} {p : List MemPlace} (hv : Value.okWide Try.prog W .any base 22 v) (h : DataW.Trod enc Try.prog W 0 (fun _ => true) true 22 v d p) (hz : ∀ x ∈ DataW.weights Try.prog 22 d, x ≤ reachBytes) :
    ∃ A n c xs, v = .slice A n c ∧ Rd W A n xs ∧ (A = none → c = 0) ∧ ∀ x ∈ xs, Wf x := by
  obtain ⟨A0, n0, c0, rfl⟩ := okWide_slice Try.underlying22 hv
  obtain ⟨fuel, hf⟩ := h
  obtain ⟨A, n, c, xs, e, r, f, g⟩ := sl_open' hf hz
  simp [Value.cells] at e
  obtain ⟨rfl, rfl, rfl⟩ := e
  exact ⟨_, _, _, _, rfl, r, f, g⟩

end Go.Proofs.Ytnkgagbobihnnaa
