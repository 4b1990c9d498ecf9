/-
  slices.Equal of events.
-/
import Derived.Test.YtemnhmnompehoaaPass
namespace Go.Proofs.Ytemnhmnompehoaa
open Go Go.RowKit

set_option maxHeartbeats 4000000 in
theorem eqE_same (A B : Option Addr) (n c d : Nat) (ks : List Ev) (w : World) (h1 : RE w A n ks) (h2 : RE w B n ks) :
    Calls Try.prog 38 #[.slice A n c, .slice B n d] w fun e w' => e = .returned (.bool true) ∧ Below w.heap.size w w' := by
  have hbd := h1.bd
  have H1 := Kp.mk h1
  have H2 := Kp.mk h2
  clear h1 h2
  go_enter Try.func38, Try.ntmps38
  go_wp2
  go_loopw [13] (fun i wr => ∃ k : Nat, k ≤ n ∧ i = .int .i64 k ∧ Kp (∃ q, wr = w.drewN q)) (fun i _ => n - (intOf i).toNat)
  case atStart => exact ⟨0, by omega, rfl, ⟨0, rfl⟩⟩
  case round =>
    obtain ⟨k, hk, rfl, HW⟩ := hrel
    by_cases hkn : k < n
    · obtain ⟨x, hx⟩ : ∃ x, ks[k]? = some x := ⟨_, List.getElem?_eq_getElem (by rw [H1.it.len]; exact hkn)⟩
      obtain ⟨b1, o1, hA, _, f0, f1, f2, f3, f4, f5⟩ := H1.it.get hx
      obtain ⟨b2, o2, hB, _, g0, g1, g2, g3, g4, g5⟩ := H2.it.get hx
      cases hA
      cases hB
      have F : Kp ((wr.cell? ⟨b1, o1 + k * 6, none⟩ = some (.int .i64 x.pos) ∧ wr.cell? ⟨b1, o1 + k * 6 + 1, none⟩ = some (.string x.key) ∧ wr.cell? ⟨b1, o1 + k * 6 + 2, none⟩ = some (.bool x.had) ∧ wr.cell? ⟨b1, o1 + k * 6 + 3, none⟩ = some (.string x.old) ∧ wr.cell? ⟨b1, o1 + k * 6 + 4, none⟩ = some (.bool x.has) ∧ wr.cell? ⟨b1, o1 + k * 6 + 5, none⟩ = some (.string x.now)) ∧
          (wr.cell? ⟨b2, o2 + k * 6, none⟩ = some (.int .i64 x.pos) ∧ wr.cell? ⟨b2, o2 + k * 6 + 1, none⟩ = some (.string x.key) ∧ wr.cell? ⟨b2, o2 + k * 6 + 2, none⟩ = some (.bool x.had) ∧ wr.cell? ⟨b2, o2 + k * 6 + 3, none⟩ = some (.string x.old) ∧ wr.cell? ⟨b2, o2 + k * 6 + 4, none⟩ = some (.bool x.has) ∧ wr.cell? ⟨b2, o2 + k * 6 + 5, none⟩ = some (.string x.now))) := ⟨by
        obtain ⟨q, rfl⟩ := HW.it
        exact ⟨⟨f0, f1, f2, f3, f4, f5⟩, g0, g1, g2, g3, g4, g5⟩⟩
      clear f0 f1 f2 f3 f4 f5 g0 g1 g2 g3 g4 g5 hx
      obtain ⟨⟨f0, f1, f2, f3, f4, f5⟩, g0, g1, g2, g3, g4, g5⟩ := F.it
      have hd : decide ((k : Int) < (n : Int)) = true := by simp; omega
      go_wp2
      go_quiet (fail)
      go_wp2
      go_roundw
      case rel => exact ⟨k + 1, by omega, by go_num, ⟨by obtain ⟨q, rfl⟩ := HW.it; exact ⟨_, World.drewN_drewN ..⟩⟩⟩
      case measure => simp [intOf]; omega
    · obtain rfl : k = n := by omega
      go_wp2
      go_ret
      exact ⟨rfl, by obtain ⟨q, rfl⟩ := HW.it; exact below_drewN (Below.refl _ _) q⟩
end Go.Proofs.Ytemnhmnompehoaa
