/-
  Majority, and the reference's one.
-/
import Derived.Test.YtbfpdahbmdaenaaVotes
namespace Go.Proofs.Ytbfpdahbmdaenaa
open Go.RowKit

/-- More than half of vs stand in some. -/
def major (vs some : List Int) : Bool := decide (vs.length < 2 * vs.countP (fun v => inB some v))

theorem major_eq (vs some : List Int) : major vs some = (decide (0 < vs.length) && decide (vs.countP (fun v => inB some v) > vs.length / 2)) := by
  unfold major
  have := cnt_cp (fun v => inB some v) vs
  rw [Bool.eq_iff_iff]
  simp only [decide_eq_true_eq, Bool.and_eq_true]
  omega

theorem times_pos (xs : List Int) (x : Int) : decide ((xs.countP (· == x) : Int) > 0) = inB xs x := by
  rw [Bool.eq_iff_iff, inB_iff]
  simp only [decide_eq_true_eq]
  have : (0 < xs.countP (· == x)) ↔ x ∈ xs := by
    rw [List.countP_pos_iff]; simp
  rw [← this]
  omega

section
variable (A1 A2 A3 : Option Addr) (n1 c1 n2 c2 n3 c3 : Nat) (vs some : List Int) (w : World) (h1 : Rd w A1 n1 vs) (h3 : Rd w A3 n3 some)
include h1 h3

set_option maxHeartbeats 400000 in
theorem majority_any : Calls Try.prog 16 #[.agg #[.slice A1 n1 c1, .slice A2 n2 c2], .slice A3 n3 c3] w fun e w' =>
    e = .returned (.bool (major vs some)) ∧ Below w.heap.size w w' := by
  have hb : Below w.heap.size w (w.alloc (.cells #[.slice A1 n1 c1, .slice A2 n2 c2] 24)) := (Below.refl _ _).alloc (Nat.le_refl _) _
  have HA := Kp.mk (h1.below hb)
  have HB := Kp.mk (h3.below hb)
  have hbd := h1.bd
  have hlen : Kp (vs.length = n1) := ⟨h1.len⟩
  clear hb h1 h3
  go_enter Try.func16, Try.ntmps16
  go_wp2
  go_loop [5, 11] (fun t i => ∃ k : Nat, k ≤ n1 ∧ i = .int .i64 k ∧ t = .int .i64 (cnt (fun v => inB some v) vs k : Nat)) (fun _ i => n1 - (intOf i).toNat)
  case atStart => exact ⟨0, by omega, rfl, by rw [cnt_zero]; rfl⟩
  case round =>
    obtain ⟨k, hk, rfl, rfl⟩ := hrel
    have hcb := cnt_le (fun v => inB some v) vs k
    by_cases hkn : k < n1
    · obtain ⟨b, o, hA, hlt, hcell⟩ := HA.it.get hkn
      cases hA
      have hl : k < vs.length := by rw [hlen.it]; exact hkn
      cases hx : inB some (rd vs k) with
      | true =>
        have HV := Kp.mk (cnt_hit (p := fun v => inB some v) hl hx)
        have HX := Kp.mk hx
        clear hl hx
        go_wp2_with (go_at_call 27; refine (contains_any _ _ _ some _ _ HB.it).mono ?_; rintro e w' ⟨rfl, rfl⟩; rw [HX.it])
        go_round
        case rel => exact ⟨k + 1, by omega, by go_num, by rw [HV.it]; go_num⟩
        case measure => simp [intOf]; omega
      | false =>
        have HV := Kp.mk (cnt_miss (p := fun v => inB some v) hl hx)
        have HX := Kp.mk hx
        clear hl hx
        go_wp2_with (go_at_call 27; refine (contains_any _ _ _ some _ _ HB.it).mono ?_; rintro e w' ⟨rfl, rfl⟩; rw [HX.it])
        go_round
        case rel => exact ⟨k + 1, by omega, by go_num, by rw [HV.it]⟩
        case measure => simp [intOf]; omega
    · have HV : Kp (cnt (fun v => inB some v) vs k = vs.countP (fun v => inB some v)) := ⟨by rw [show k = vs.length by rw [hlen.it]; omega, cnt_all]⟩
      have HM := Kp.mk (major_eq vs some)
      by_cases hz : 0 < n1
      · go_wp2
        go_ret
        exact ⟨ret_bool (by rw [HM.it, hlen.it, HV.it]; simp [hz]; omega), (Below.refl _ _).alloc (Nat.le_refl _) _⟩
      · go_wp2
        go_ret
        exact ⟨ret_bool (by rw [HM.it, hlen.it]; simp [hz]), (Below.refl _ _).alloc (Nat.le_refl _) _⟩

set_option maxHeartbeats 400000 in
theorem rmajority_any : Calls Try.prog 21 #[.agg #[.slice A1 n1 c1, .slice A2 n2 c2], .slice A3 n3 c3] w fun e w' =>
    e = .returned (.bool (major vs some)) ∧ Below w.heap.size w w' := by
  have hb : Below w.heap.size w (w.alloc (.cells #[.slice A1 n1 c1, .slice A2 n2 c2] 24)) := (Below.refl _ _).alloc (Nat.le_refl _) _
  have HA := Kp.mk (h1.below hb)
  have HB := Kp.mk (h3.below hb)
  have hbd := h1.bd
  have hlen : Kp (vs.length = n1) := ⟨h1.len⟩
  clear hb h1 h3
  go_enter Try.func21, Try.ntmps21
  go_wp2
  go_loop [5, 11] (fun t i => ∃ k : Nat, k ≤ n1 ∧ i = .int .i64 k ∧ t = .int .i64 (cnt (fun v => inB some v) vs k : Nat)) (fun _ i => n1 - (intOf i).toNat)
  case atStart => exact ⟨0, by omega, rfl, by rw [cnt_zero]; rfl⟩
  case round =>
    obtain ⟨k, hk, rfl, rfl⟩ := hrel
    have hcb := cnt_le (fun v => inB some v) vs k
    by_cases hkn : k < n1
    · obtain ⟨b, o, hA, hlt, hcell⟩ := HA.it.get hkn
      cases hA
      have hl : k < vs.length := by rw [hlen.it]; exact hkn
      have HX := Kp.mk (times_pos some (rd vs k))
      cases hx : inB some (rd vs k) with
      | true =>
        have HV := Kp.mk (cnt_hit (p := fun v => inB some v) hl hx)
        have ht : 0 < some.countP (· == rd vs k) := by have := HX.it; rw [hx, decide_eq_true_eq] at this; omega
        clear hl hx
        go_wp2_with (go_at_call 44; refine (times_any _ _ _ some _ _ HB.it).mono ?_; rintro e w' ⟨rfl, rfl⟩)
        go_round
        case rel => exact ⟨k + 1, by omega, by go_num, by rw [HV.it]; go_num⟩
        case measure => simp [intOf]; omega
      | false =>
        have HV := Kp.mk (cnt_miss (p := fun v => inB some v) hl hx)
        have ht : ¬ 0 < some.countP (· == rd vs k) := by have := HX.it; rw [hx, decide_eq_false_iff_not] at this; omega
        clear hl hx
        go_wp2_with (go_at_call 44; refine (times_any _ _ _ some _ _ HB.it).mono ?_; rintro e w' ⟨rfl, rfl⟩)
        go_round
        case rel => exact ⟨k + 1, by omega, by go_num, by rw [HV.it]⟩
        case measure => simp [intOf]; omega
    · have HV : Kp (cnt (fun v => inB some v) vs k = vs.countP (fun v => inB some v)) := ⟨by rw [show k = vs.length by rw [hlen.it]; omega, cnt_all]⟩
      go_wp2
      go_ret
      exact ⟨ret_bool (by unfold major; rw [HV.it, hlen.it]; rw [Bool.eq_iff_iff]; simp only [decide_eq_true_eq]; omega), (Below.refl _ _).alloc (Nat.le_refl _) _⟩
end

end Go.Proofs.Ytbfpdahbmdaenaa
