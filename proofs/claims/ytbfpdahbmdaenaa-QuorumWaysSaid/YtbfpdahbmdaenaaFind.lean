/-
  slices.Index, slices.Contains at []int.
-/
import Derived.Test.YtbfpdahbmdaenaaLib
namespace Go.Proofs.Ytbfpdahbmdaenaa
open Go.RowKit

/-- Does x stand in xs? -/
def inB (xs : List Int) (x : Int) : Bool := xs.contains x
theorem inB_iff {xs : List Int} {x : Int} : inB xs x = true ↔ x ∈ xs := by unfold inB; simp

/-- Where x stands first; -1. -/
def idxOf (xs : List Int) (x : Int) : Int := if inB xs x then (xs.idxOf x : Int) else -1

theorem idxOf_hit (xs : List Int) (x : Int) (k : Nat) (hk : k < xs.length) (hx : rd xs k = x) (hb : ∀ j, j < k → rd xs j ≠ x) : idxOf xs x = k := by
  unfold idxOf
  have hk' : xs[k] = x := by rw [← hx, rd_lt hk]
  have hm : x ∈ xs := by rw [← hk']; exact List.getElem_mem _
  rw [if_pos (inB_iff.2 hm)]
  congr 1
  have h1 : xs.idxOf x < xs.length := List.idxOf_lt_length_of_mem hm
  have h2 : xs[xs.idxOf x] = x := List.getElem_idxOf h1
  have h3 : ¬ xs.idxOf x < k := fun h => hb _ h (by rw [rd_lt h1]; exact h2)
  have h4 : ¬ k < xs.idxOf x := fun h => by
    have := List.not_of_lt_findIdx (p := (· == x)) (xs := xs) h
    simp [hk'] at this
  omega

theorem idxOf_miss (xs : List Int) (x : Int) (hb : ∀ j, j < xs.length → rd xs j ≠ x) : idxOf xs x = -1 := by
  unfold idxOf
  rw [if_neg]
  rw [inB_iff]
  intro hm
  obtain ⟨i, hi, e⟩ := List.getElem_of_mem hm
  exact hb i hi (by rw [rd_lt hi]; exact e)

set_option maxHeartbeats 400000 in
theorem index_any (A : Option Addr) (n c : Nat) (xs : List Int) (x : Int) (w : World) (h : Rd w A n xs) :
    Calls Try.prog 47 #[.slice A n c, .int .i64 x] w fun e w' => e = .returned (.int .i64 (idxOf xs x)) ∧ w = w' := by
  have hbd := h.bd
  have hlen : Kp (xs.length = n) := ⟨h.len⟩
  have HR := Kp.mk h
  clear h
  go_enter Try.func47, Try.ntmps47
  go_wp2
  go_loop [8] (fun i => ∃ k : Nat, k ≤ n ∧ i = .int .i64 k ∧ Kp (∀ j, j < k → rd xs j ≠ x)) (fun i => n - (intOf i).toNat)
  case atStart => exact ⟨0, by omega, rfl, ⟨fun j hj => by omega⟩⟩
  case round =>
    obtain ⟨k, hk, rfl, hb⟩ := hrel
    by_cases hkn : k < n
    · obtain ⟨b, o, hA, hlt, hcell⟩ := HR.it.get hkn
      cases hA
      by_cases hx : rd xs k = x
      · have hx' : (x == rd xs k) = true := by rw [hx]; simp
        have HV : Kp (idxOf xs x = k) := ⟨idxOf_hit xs x k (by rw [hlen.it]; exact hkn) hx hb.it⟩
        clear hx
        go_wp2
        go_ret
        exact ⟨ret_int HV.it.symm, rfl⟩
      · have hx' : (x == rd xs k) = false := by rw [beq_eq_false_iff_ne]; exact fun h => hx h.symm
        have HX := Kp.mk hx
        clear hx
        go_wp2
        go_round
        case rel => exact ⟨k + 1, by omega, by go_num, ⟨fun j hj => by rcases Nat.lt_succ_iff_lt_or_eq.1 hj with h | h; exact hb.it j h; subst h; exact HX.it⟩⟩
        case measure => simp [intOf]; omega
    · have HV : Kp (idxOf xs x = -1) := ⟨idxOf_miss xs x (fun j hj => hb.it j (by rw [hlen.it] at hj; omega))⟩
      go_wp2
      go_ret
      exact ⟨ret_int HV.it.symm, rfl⟩

theorem idxOf_geq (xs : List Int) (x : Int) : decide (idxOf xs x ≥ 0) = inB xs x := by
  unfold idxOf
  cases h : inB xs x <;> simp

set_option maxHeartbeats 400000 in
theorem contains_any (A : Option Addr) (n c : Nat) (xs : List Int) (x : Int) (w : World) (h : Rd w A n xs) :
    Calls Try.prog 27 #[.slice A n c, .int .i64 x] w fun e w' => e = .returned (.bool (inB xs x)) ∧ w = w' := by
  go_enter Try.func27, Try.ntmps27
  go_wp2_with (go_at_call 47; refine (index_any _ _ _ xs _ _ h).mono ?_; rintro e w' ⟨rfl, rfl⟩)
  go_ret
  exact ⟨ret_bool (idxOf_geq xs x), rfl⟩

set_option maxHeartbeats 400000 in
theorem times_any (A : Option Addr) (n c : Nat) (xs : List Int) (x : Int) (w : World) (h : Rd w A n xs) :
    Calls Try.prog 44 #[.slice A n c, .int .i64 x] w fun e w' => e = .returned (.int .i64 (xs.countP (· == x) : Nat)) ∧ w = w' := by
  have hbd := h.bd
  have hlen : Kp (xs.length = n) := ⟨h.len⟩
  have HR := Kp.mk h
  clear h
  go_enter Try.func44, Try.ntmps44
  go_wp2
  go_loop [5, 10] (fun t i => ∃ k : Nat, k ≤ n ∧ i = .int .i64 k ∧ t = .int .i64 (cnt (· == x) xs k : Nat)) (fun _ i => n - (intOf i).toNat)
  case atStart => exact ⟨0, by omega, rfl, by rw [cnt_zero]; rfl⟩
  case round =>
    obtain ⟨k, hk, rfl, rfl⟩ := hrel
    have hcb := cnt_le (· == x) xs k
    by_cases hkn : k < n
    · obtain ⟨b, o, hA, hlt, hcell⟩ := HR.it.get hkn
      cases hA
      have hl : k < xs.length := by rw [hlen.it]; exact hkn
      by_cases hx : (rd xs k == x) = true
      · have HV := Kp.mk (cnt_hit (p := (· == x)) hl hx)
        clear hl
        go_wp2
        go_round
        case rel => exact ⟨k + 1, by omega, by go_num, by rw [HV.it]; go_num⟩
        case measure => simp [intOf]; omega
      · rw [Bool.not_eq_true] at hx
        have HV := Kp.mk (cnt_miss (p := (· == x)) hl hx)
        clear hl
        go_wp2
        go_round
        case rel => exact ⟨k + 1, by omega, by go_num, by rw [HV.it]⟩
        case measure => simp [intOf]; omega
    · have HV : Kp (cnt (· == x) xs k = xs.countP (· == x)) := ⟨by rw [show k = xs.length by rw [hlen.it]; omega, cnt_all]⟩
      go_wp2
      go_ret
      exact ⟨ret_int (by rw [HV.it]), rfl⟩

theorem times_same (A : Option Addr) (n c : Nat) (xs : List Int) (x : Int) (w : World) (h : Rd w A n xs) :
    Calls Try.prog 44 #[.slice A n c, .int .i64 x] w fun e w' => e = .returned (.int .i64 (xs.countP (· == x) : Nat)) ∧ w' = w :=
  (times_any A n c xs x w h).mono fun _ _ ⟨a, b⟩ => ⟨a, b.symm⟩

end Go.Proofs.Ytbfpdahbmdaenaa
