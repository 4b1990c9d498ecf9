/-
  Votes, Has, Majority; the reference's ones.
-/
import Derived.Test.YtbfpdahbmdaenaaFind
import Derived.Deep.QuietTactic
import Derived.BigQuiet
import Derived.Deep.RegionWith
namespace Go.Proofs.Ytbfpdahbmdaenaa
open Go.RowKit

section
variable (A1 A2 : Option Addr) (n1 c1 n2 c2 : Nat) (vs ls : List Int) (w : World) (h1 : Rd w A1 n1 vs) (h2 : Rd w A2 n2 ls)
include h1

set_option maxHeartbeats 400000 in
theorem votes_any (x : Int) : Calls Try.prog 23 #[.agg #[.slice A1 n1 c1, .slice A2 n2 c2], .int .i64 x] w fun e w' =>
    e = .returned (.bool (inB vs x)) ∧ Below w.heap.size w w' := by
  have hb : Below w.heap.size w (w.alloc (.cells #[.slice A1 n1 c1, .slice A2 n2 c2] 24)) := (Below.refl _ _).alloc (Nat.le_refl _) _
  have HA := Kp.mk (h1.below hb)
  clear hb h1
  go_enter Try.func23, Try.ntmps23
  go_wp2_with (go_at_call 27; refine (contains_any _ _ _ vs _ _ HA.it).mono ?_; rintro e w' ⟨rfl, rfl⟩)
  go_ret
  exact ⟨rfl, (Below.refl _ _).alloc (Nat.le_refl _) _⟩

set_option maxHeartbeats 400000 in
theorem rvotes_any (x : Int) : Calls Try.prog 32 #[.agg #[.slice A1 n1 c1, .slice A2 n2 c2], .int .i64 x] w fun e w' =>
    e = .returned (.bool (decide (0 < vs.countP (· == x)))) ∧ Below w.heap.size w w' := by
  have hb : Below w.heap.size w (w.alloc (.cells #[.slice A1 n1 c1, .slice A2 n2 c2] 24)) := (Below.refl _ _).alloc (Nat.le_refl _) _
  have HA := Kp.mk (h1.below hb)
  clear hb h1
  go_enter Try.func32, Try.ntmps32
  go_wp2_with (go_at_call 44; refine (times_any _ _ _ vs _ _ HA.it).mono ?_; rintro e w' ⟨rfl, rfl⟩)
  go_ret
  exact ⟨ret_bool (by simp), (Below.refl _ _).alloc (Nat.le_refl _) _⟩

include h2
set_option maxHeartbeats 400000 in
theorem has_any (x : Int) : Calls Try.prog 33 #[.agg #[.slice A1 n1 c1, .slice A2 n2 c2], .int .i64 x] w fun e w' =>
    e = .returned (.bool (inB vs x || inB ls x)) ∧ Below w.heap.size w w' := by
  have hb : Below w.heap.size w (w.alloc (.cells #[.slice A1 n1 c1, .slice A2 n2 c2] 24)) := (Below.refl _ _).alloc (Nat.le_refl _) _
  have HA := Kp.mk (h1.below hb)
  have HB := Kp.mk (h2.below hb)
  clear hb h1 h2
  cases hv : inB vs x with
  | true =>
    have HV := Kp.mk hv
    clear hv
    go_enter Try.func33, Try.ntmps33
    go_wp2_with (go_at_call 23; refine (votes_any _ _ _ _ _ _ vs _ HA.it _).mono ?_; rintro e w' ⟨rfl, hb⟩; rw [HV.it])
    go_ret
    exact ⟨rfl, ((Below.refl _ _).alloc (Nat.le_refl _) _).trans (hb.mono (by simp))⟩
  | false =>
    have HV := Kp.mk hv
    clear hv
    go_enter Try.func33, Try.ntmps33
    go_wp2_with (first | (go_at_call 23; refine (votes_any _ _ _ _ _ _ vs _ HA.it _).mono ?_; rintro e w1 ⟨rfl, hb⟩; rw [HV.it]; have hc := (hb.cell (p := ⟨w.heap.size, 1, none⟩) (by simp))) | (go_at_call 27; refine (contains_any _ _ _ ls _ _ (HB.it.below hb)).mono ?_; rintro e w' ⟨rfl, rfl⟩))
    go_ret
    exact ⟨rfl, ((Below.refl _ _).alloc (Nat.le_refl _) _).trans (hb.mono (by simp))⟩

set_option maxHeartbeats 400000 in
theorem rhas_any (x : Int) : Calls Try.prog 34 #[.agg #[.slice A1 n1 c1, .slice A2 n2 c2], .int .i64 x] w fun e w' =>
    e = .returned (.bool (decide (0 < vs.countP (· == x) + ls.countP (· == x)))) ∧ Below w.heap.size w w' := by
  have hb : Below w.heap.size w (w.alloc (.cells #[.slice A1 n1 c1, .slice A2 n2 c2] 24)) := (Below.refl _ _).alloc (Nat.le_refl _) _
  have HA := Kp.mk (h1.below hb)
  have HB := Kp.mk (h2.below hb)
  have hc1 := cnt_cp (· == x) vs
  have hc2 := cnt_cp (· == x) ls
  have l1 := h1.le
  have l2 := h2.le
  clear hb h1 h2
  go_enter Try.func34, Try.ntmps34
  go_wp2_with fail
  go_quiet (first | (go_at_call_of 44 (Value.slice A1 n1 c1); exact Calls.quiet_of_same (times_same _ _ _ vs _ _ (HA.it.drewN _))) | (go_at_call_of 44 (Value.slice A2 n2 c2); exact Calls.quiet_of_same (times_same _ _ _ ls _ _ (HB.it.drewN _))))
  go_wp2
  go_ret
  exact ⟨ret_bool (by rw [Bool.eq_iff_iff]; simp only [decide_eq_true_eq]; omega), below_drewN ((Below.refl _ _).alloc (Nat.le_refl _) _) _⟩

set_option maxHeartbeats 400000 in
theorem way_any (x : Int) : Calls Try.prog 45 #[.agg #[.slice A1 n1 c1, .slice A2 n2 c2], .int .i64 x] w fun e w' =>
    e = .returned (.int .i64 (2 * vs.countP (· == x) + ls.countP (· == x) : Nat)) ∧ Below w.heap.size w w' := by
  have hb : Below w.heap.size w (w.alloc (.cells #[.slice A1 n1 c1, .slice A2 n2 c2] 24)) := (Below.refl _ _).alloc (Nat.le_refl _) _
  have HA := Kp.mk (h1.below hb)
  have HB := Kp.mk (h2.below hb)
  have hc1 := cnt_cp (· == x) vs
  have hc2 := cnt_cp (· == x) ls
  have l1 := h1.le
  have l2 := h2.le
  clear hb h1 h2
  go_enter Try.func45, Try.ntmps45
  go_wp2_with fail
  go_quiet (first | (go_at_call_of 44 (Value.slice A1 n1 c1); exact Calls.quiet_of_same (times_same _ _ _ vs _ _ (HA.it.drewN _))) | (go_at_call_of 44 (Value.slice A2 n2 c2); exact Calls.quiet_of_same (times_same _ _ _ ls _ _ (HB.it.drewN _))))
  go_wp2
  go_ret
  exact ⟨ret_int (by omega), below_drewN ((Below.refl _ _).alloc (Nat.le_refl _) _) _⟩

end
end Go.Proofs.Ytbfpdahbmdaenaa
