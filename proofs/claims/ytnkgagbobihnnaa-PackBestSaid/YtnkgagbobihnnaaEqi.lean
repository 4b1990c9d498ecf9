/-
  slices.Equal at []int.
-/
import Derived.Test.YtnkgagbobihnnaaBas
import Derived.Deep.QuietTactic
import Derived.BigQuiet
namespace Go.Proofs.Ytnkgagbobihnnaa
open Go Go.RowKit

set_option maxHeartbeats 400000 in
theorem equal_any (A B : Option Addr) (n c m d : Nat) (xs ys : List Int) (w : World) (h1 : Rd w A n xs) (h2 : Rd w B m ys) :
    Calls Try.prog 18 #[.slice A n c, .slice B m d] w fun e w' => e = .returned (.bool (eqB xs ys)) ∧ ∃ q, w' = w.drewN q := by
  have hb1 := h1.bd
  have hb2 := h2.bd
  have HL1 : Kp (xs.length = n) := ⟨h1.len⟩
  have HL2 : Kp (ys.length = m) := ⟨h2.len⟩
  have H1 := Kp.mk h1
  have H2 := Kp.mk h2
  clear h1 h2
  by_cases hnm : n = m
  · subst hnm
    have hne : ((n : Int) != (n : Int)) = false := by simp
    go_enter Try.func18, Try.ntmps18
    go_wp2
    go_loopw [13] (fun i wr => ∃ k : Nat, k ≤ n ∧ i = .int .i64 k ∧ Kp (∀ j, j < k → rd xs j = rd ys j) ∧ Kp (∃ q, wr = w.drewN q)) (fun i _ => n - (intOf i).toNat)
    case atStart => exact ⟨0, by omega, rfl, ⟨fun j hj => by omega⟩, ⟨0, rfl⟩⟩
    case round =>
      obtain ⟨k, hk, rfl, hs, hW⟩ := hrel
      by_cases hkn : k < n
      · obtain ⟨b1, o1, hA, _, e1⟩ := H1.it.get hkn
        obtain ⟨b2, o2, hB, _, e2⟩ := H2.it.get hkn
        cases hA
        cases hB
        have f1 : wr.cell? ⟨b1, o1 + k, none⟩ = some (.int .i64 (rd xs k)) := by obtain ⟨q, rfl⟩ := hW.it; exact e1
        have f2 : wr.cell? ⟨b2, o2 + k, none⟩ = some (.int .i64 (rd ys k)) := by obtain ⟨q, rfl⟩ := hW.it; exact e2
        have hd : decide ((k : Int) < (n : Int)) = true := by simp; omega
        clear e1 e2
        by_cases hx : rd xs k = rd ys k
        · have hx' : (rd xs k != rd ys k) = false := by rw [hx]; simp
          have HX := Kp.mk hx
          clear hx
          go_wp2_with fail
          go_quiet (fail)
          go_wp2
          go_roundw
          case rel => exact ⟨k + 1, by omega, by go_num, ⟨fun j hj => by rcases Nat.lt_succ_iff_lt_or_eq.1 hj with h | rfl; exact hs.it j h; exact HX.it⟩, ⟨by obtain ⟨q, rfl⟩ := hW.it; exact ⟨_, World.drewN_drewN ..⟩⟩⟩
          case measure => simp [intOf]; omega
        · have hx' : (rd xs k != rd ys k) = true := by simpa using hx
          have HV := Kp.mk (eqB_part (xs := xs) (ys := ys) (k := k) hx)
          clear hx
          go_wp2_with fail
          go_quiet (fail)
          go_wp2
          go_ret
          exact ⟨ret_bool HV.it.symm, by obtain ⟨q, rfl⟩ := hW.it; exact ⟨_, World.drewN_drewN ..⟩⟩
      · have HV := Kp.mk (eqB_all (xs := xs) (ys := ys) (by rw [HL1.it, HL2.it]) (fun j hj => hs.it j (by rw [HL1.it] at hj; omega)))
        go_wp2
        go_ret
        exact ⟨ret_bool HV.it.symm, hW.it⟩
  · have hne : ((n : Int) != (m : Int)) = true := by simp; omega
    have HV := Kp.mk (eqB_len (xs := xs) (ys := ys) (by rw [HL1.it, HL2.it]; exact hnm))
    clear hnm
    go_enter Try.func18, Try.ntmps18
    go_wp2
    go_ret
    exact ⟨ret_bool HV.it.symm, 0, rfl⟩

theorem equal_gr (A B : Option Addr) (n c m d : Nat) (xs ys : List Int) (w : World) (h1 : Rd w A n xs) (h2 : Rd w B m ys) :
    Calls Try.prog 18 #[.slice A n c, .slice B m d] w fun e w' => e = .returned (.bool (eqB xs ys)) ∧ Below w.heap.size w w' :=
  (equal_any A B n c m d xs ys w h1 h2).mono fun _ _ ⟨a, q, b⟩ => ⟨a, by rw [b]; exact below_drewN (Below.refl _ _) q⟩

end Go.Proofs.Ytnkgagbobihnnaa
