/-
  Bytes that came in.
-/
import Derived.Test.YtnkgagbobihnnaaBas
namespace Go.Proofs.Ytnkgagbobihnnaa
open Go.ChangeShapes Go.WideShapes Go.ChangeAt Go.RowKit Go.Joins Go.Deep
attribute [local go_sem ↓] Go.wp_at_zero Go.wp_at_succ

theorem add_plain (b o j : Nat) : (⟨b, o, none⟩ : Addr).add j = ⟨b, o + j, none⟩ := by unfold Addr.add; split <;> simp_all
def byte (bs : List UInt8) (j : Nat) : Int := ((bs.getD j 0).toNat : Int)
/-- A slice of bytes, as read. -/
structure Rb (w : World) (A : Option Addr) (n : Nat) (bs : List UInt8) : Prop where
  len : bs.length = n
  bd : n ≤ 140737488355328
  cells : 0 < n → ∃ b o, A = some ⟨b, o, none⟩ ∧ b < w.heap.size ∧ ∀ j, j < n → w.cell? ⟨b, o + j, none⟩ = some (.int .u8 (byte bs j))
theorem Rb.below {w w' : World} {A : Option Addr} {n : Nat} {bs : List UInt8} (h : Rb w A n bs) (hb : Below w.heap.size w w') : Rb w' A n bs :=
  ⟨h.len, h.bd, fun hn => by
    obtain ⟨b, o, e, hl, hc⟩ := h.cells hn
    exact ⟨b, o, e, Nat.lt_of_lt_of_le hl hb.size, fun j hj => (hb.cell (p := ⟨b, o + j, none⟩) hl).trans (hc j hj)⟩⟩
theorem byte_bd (bs : List UInt8) (j : Nat) : 0 ≤ byte bs j ∧ byte bs j ≤ 255 := by unfold byte; have := (bs.getD j 0).toNat_lt; omega
theorem bytes_str (bs : List UInt8) : strOfNums ((List.range bs.length).map (byte bs)) = ⟨bs.toArray⟩ := by
  unfold strOfNums
  congr 2
  apply List.ext_getElem (by simp)
  intro i h1 h2
  simp [byte, List.getElem?_eq_getElem h2]
theorem Rb.conv {w : World} {A : Option Addr} {n : Nat} {bs : List UInt8} (h : Rb w A n bs) (c : Nat) : (convert 29 9 (.slice A n c)).run Try.prog w = .ok (.string ⟨bs.toArray⟩) w := by
  rcases Nat.eq_zero_or_pos n with h0 | h0
  · have hb : bs = [] := List.eq_nil_of_length_eq_zero (by rw [h.len, h0])
    subst h0
    subst hb
    cases A with
    | none => exact run_convert_bytes_nil w 29 5 Try.underlying29 Try.underlying5 0 c 9 Try.underlying9
    | some a =>
      obtain ⟨b, o, sp⟩ := a
      rw [run_convert_bytes_string w 29 9 5 _ 0 c Try.underlying29 Try.underlying5 Try.underlying9, run_bytesToString w _ 0 c [] (by
        have := run_loadCells_list (P := Try.prog) w ⟨b, o, sp⟩ [] (fun j v hj => by simp at hj)
        simpa using this)]
      rfl
  · obtain ⟨b, o, rfl, _, hc⟩ := h.cells h0
    have := run_convert_bytes_arg (P := Try.prog) w 29 5 Try.underlying29 Try.underlying5 b o n c ((List.range bs.length).map (byte bs)) (by simp [h.len]) (fun i hi => by
      rw [hc i hi]
      congr 2
      rw [List.getD_eq_getElem?_getD, List.getElem?_map, List.getElem?_range (by rw [h.len]; exact hi)]
      rfl) 9 Try.underlying9
    rw [this, bytes_str]

variable {H : Type} {enc : TypeId × Value → H} {W : World}
set_option maxRecDepth 100000 in
theorem bytes_open {base : Nat} {v : Value} {d : DataW H} {p : List MemPlace} (hv : Value.okWide Try.prog W .any base 29 v) (h : DataW.Trod enc Try.prog W 0 (fun _ => true) true 29 v d p) (hz : ∀ x ∈ DataW.weights Try.prog 29 d, x ≤ reachBytes) :
    ∃ A n c bs, v = .slice A n c ∧ Rb W A n bs ∧ (A = none → c = 0) := by
  obtain ⟨A0, n0, c0, rfl⟩ := okWide_slice Try.underlying29 hv
  obtain ⟨fuel, hf⟩ := h
  rcases open_ints Try.underlying29 Try.underlying5 (by kernel_rfl) hf with ⟨e, _⟩ | ⟨a, l, c, zs, e, _, hl, hm, hzs, hx, hcell, hwf⟩
  · simp [Value.cells] at e
    obtain ⟨rfl, rfl, rfl⟩ := e
    exact ⟨none, 0, 0, [], rfl, ⟨rfl, by decide, fun h => absurd h (by decide)⟩, fun _ => rfl⟩
  · simp [Value.cells] at e
    obtain ⟨rfl, rfl, rfl⟩ := e
    simp only [Prod.mk.injEq] at hx
    simp only [if_true] at hzs
    have hb : c0 ≤ 140737488351232 := by
      have hw := hz ((n0 + (c0 - n0)) * 1)
      rw [hx.1] at hw
      have := hw (by
        simp only [DataW.weights, Try.underlying29, List.mem_cons]
        left
        rw [show Try.prog.bytesOf 5 = 1 by kernel_rfl]
        simp [lits]
        omega)
      unfold reachBytes at this
      omega
    refine ⟨some a, n0, c0, (zs.take n0).map fun n => UInt8.ofNat n.toNat, rfl, ⟨by simp; omega, by omega, fun h0 => ?_⟩, (fun h => by cases h)⟩
    obtain ⟨b, off, spot⟩ := a
    have h1 := hcell 0 (by omega)
    have hspot : spot = none := by simpa [Addr.add] using World.cell?_spot h1
    subst hspot
    refine ⟨b, off, rfl, World.block_lt_of_cell? W _ (by simpa [Addr.add] using h1), fun j hj => ?_⟩
    have := hcell j (by omega)
    rw [add_plain] at this
    rw [this]
    congr 2
    have hb := range_u8 hwf j
    unfold byte
    rw [List.getD_eq_getElem?_getD, List.getD_eq_getElem?_getD, List.getElem?_map, List.getElem?_take, if_pos hj]
    have hjl : j < zs.length := by omega
    rw [List.getElem?_eq_getElem hjl] at hb ⊢
    simp only [Option.map_some, Option.getD_some] at hb ⊢
    simp only [UInt8.toNat_ofNat']
    omega

end Go.Proofs.Ytnkgagbobihnnaa
