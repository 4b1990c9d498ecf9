/-
  of, long.
-/
import Derived.Test.YtbfpdahbmdaenaaMajor
namespace Go.Proofs.Ytbfpdahbmdaenaa
open Go.RowKit

set_option maxHeartbeats 400000 in
theorem of_any (A : Option Addr) (n c : Nat) (w : World) : Calls Try.prog 40 #[.slice A n c] w fun e w' =>
    e = .returned (.agg #[.slice A n c, .slice none 0 0]) ∧ Below w.heap.size w w' := by
  go_enter Try.func40, Try.ntmps40
  go_wp2
  exact bodyPost_ret (v := .agg #[.slice A n c, .slice none 0 0]) (by simp [results, Try.results40, go_sem]) rfl ⟨rfl, (((Below.refl _ _).alloc (Nat.le_refl _) _))⟩

def lon (n1 n2 : Nat) : Bool := decide (500 < n1) || decide (500 < n2)

set_option maxHeartbeats 400000 in
theorem long1_any (A1 A2 : Option Addr) (n1 c1 n2 c2 : Nat) (w : World) : Calls Try.prog 43 #[.agg #[.slice A1 n1 c1, .slice A2 n2 c2]] w fun e w' =>
    e = .returned (.bool (lon n1 n2)) ∧ Below w.heap.size w w' := by
  by_cases h1 : 500 < n1
  · have HL : Kp (lon n1 n2 = true) := ⟨by unfold lon; simp [h1]⟩
    go_enter Try.func43, Try.ntmps43
    go_wp2
    go_ret
    exact ⟨ret_bool HL.it.symm, (Below.refl _ _).alloc (Nat.le_refl _) _⟩
  · have HL : Kp (lon n1 n2 = decide (500 < n2)) := ⟨by unfold lon; simp [h1]⟩
    go_enter Try.func43, Try.ntmps43
    go_wp2
    go_ret
    exact ⟨ret_bool (by rw [HL.it, Bool.eq_iff_iff]; simp only [Bool.or_eq_true, decide_eq_true_eq]; omega), (Below.refl _ _).alloc (Nat.le_refl _) _⟩

/-- A slice of rosters as it lies: two cells each. -/
structure Ros (w : World) (b : Nat) (l : List (Option Addr × Nat × Nat × Option Addr × Nat × Nat)) : Prop where
  lt : b < w.heap.size
  at_ : ∀ j A1 n1 c1 A2 n2 c2, l[j]? = some (A1, n1, c1, A2, n2, c2) → w.cell? ⟨b, j * 2, none⟩ = some (.slice A1 n1 c1) ∧ w.cell? ⟨b, j * 2 + 1, none⟩ = some (.slice A2 n2 c2)

def lonB (x : Option Addr × Nat × Nat × Option Addr × Nat × Nat) : Bool := lon x.2.1 x.2.2.2.2.1

set_option maxHeartbeats 400000 in
theorem idxf_any (b c : Nat) (l : List (Option Addr × Nat × Nat × Option Addr × Nat × Nat)) (w : World) (h : Ros w b l) (hl : l.length ≤ 1000) : Calls Try.prog 52 #[.slice (some ⟨b, 0, none⟩) l.length c, .func (.func 43) #[] #[]] w fun e w' =>
    (∃ r : Int, e = .returned (.int .i64 r) ∧ decide (r ≥ 0) = l.any lonB) ∧ Below w.heap.size w w' := by
  have HR := Kp.mk h
  have hlt := h.lt
  clear h
  go_enter Try.func52, Try.ntmps52
  go_wp2
  go_loopw [8] (fun i wr => ∃ k : Nat, k ≤ l.length ∧ i = .int .i64 k ∧ Below w.heap.size w wr ∧ Kp ((l.take k).any lonB = false)) (fun i _ => l.length - (intOf i).toNat)
  case atStart => exact ⟨0, by omega, rfl, Below.refl _ _, ⟨by simp⟩⟩
  case round =>
    obtain ⟨k, hk, rfl, hb, hno⟩ := hrel
    by_cases hkn : k < l.length
    · obtain ⟨⟨A1, n1, c1, A2, n2, c2⟩, hx⟩ : ∃ x, l[k] = x := ⟨_, rfl⟩
      have hx' : l[k]? = some (A1, n1, c1, A2, n2, c2) := by rw [List.getElem?_eq_getElem hkn, hx]
      obtain ⟨d1, d2⟩ := HR.it.at_ k _ _ _ _ _ _ hx'
      have e1 := (hb.cell (p := ⟨b, k * 2, none⟩) hlt).trans d1
      have e2 := (hb.cell (p := ⟨b, k * 2 + 1, none⟩) hlt).trans d2
      have ht : (l.take (k + 1)).any lonB = ((l.take k).any lonB || lonB (A1, n1, c1, A2, n2, c2)) := by
        rw [List.take_succ_eq_append_getElem hkn, List.any_append, hx]; simp
      have HT := Kp.mk ht
      have hsz := hb.size
      clear hx hx' ht d1 d2
      cases hv : lon n1 n2 with
      | true =>
        have HV := Kp.mk hv
        clear hv
        go_wp2_with (go_at_call 43; refine (long1_any _ _ _ _ _ _ _).mono ?_; rintro e w1 ⟨rfl, hb1⟩; rw [HV.it])
        go_ret
        exact ⟨⟨k, rfl, by rw [← List.take_append_drop (k + 1) l, List.any_append, HT.it, hno.it]; simp [lonB, HV.it]⟩, hb.trans (hb1.mono hsz)⟩
      | false =>
        have HV := Kp.mk hv
        clear hv
        go_wp2_with (go_at_call 43; refine (long1_any _ _ _ _ _ _ _).mono ?_; rintro e w1 ⟨rfl, hb1⟩; rw [HV.it])
        go_roundw
        case rel => exact ⟨k + 1, by omega, by go_num, hb.trans (hb1.mono hsz), ⟨by rw [HT.it, hno.it]; simp [lonB, HV.it]⟩⟩
        case measure => simp [intOf]; omega
    · go_wp2
      go_ret
      exact ⟨⟨-1, rfl, by have := hno.it; rw [List.take_of_length_le (by omega)] at this; rw [this]; rfl⟩, hb⟩

set_option maxHeartbeats 400000 in
theorem long_any (b c : Nat) (l : List (Option Addr × Nat × Nat × Option Addr × Nat × Nat)) (w : World) (h : Ros w b l) (hl : l.length ≤ 1000) : Calls Try.prog 17 #[.slice (some ⟨b, 0, none⟩) l.length c] w fun e w' =>
    e = .returned (.bool (l.any lonB)) ∧ Below w.heap.size w w' := by
  have HC : ∀ W, Ros W b l → Calls Try.prog 42 #[.slice (some ⟨b, 0, none⟩) l.length c, .func (.func 43) #[] #[]] W fun e w' => e = .returned (.bool (l.any lonB)) ∧ Below W.heap.size W w' := by
    intro W hW
    have HW := Kp.mk hW
    clear hW h
    go_enter Try.func42, Try.ntmps42
    go_wp2_with (go_at_call 52; refine (idxf_any _ _ l _ HW.it hl).mono ?_; rintro e w1 ⟨⟨r, rfl, hr⟩, hb1⟩; have HR := Kp.mk hr; clear hr)
    go_ret
    exact ⟨ret_bool HR.it, hb1⟩
  have HW := Kp.mk (HC w h)
  clear HC h
  go_enter Try.func17, Try.ntmps17
  go_wp2_with (go_at_call 42; refine HW.it.mono ?_; rintro e w1 ⟨rfl, hb1⟩)
  go_ret
  exact ⟨rfl, hb1⟩

end Go.Proofs.Ytbfpdahbmdaenaa
