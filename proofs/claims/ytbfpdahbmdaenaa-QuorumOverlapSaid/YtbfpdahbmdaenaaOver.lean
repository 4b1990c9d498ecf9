/-
  The closure of QuorumOverlap, and slices.ContainsFunc over it.
-/
import Derived.Test.YtbfpdahbmdaenaaEq
import Derived.Test.YtbfpdahbmdaenaaVotes
import Derived.Test.YtbfpdahbmdaenaaPlaces
namespace Go.Proofs.Ytbfpdahbmdaenaa
open Go.RowKit

def bothB (ys vs : List Int) (x : Int) : Bool := inB ys x && inB vs x

/-- What the closure has captured: a slice's variable and a roster's. -/
structure Cap (W : World) (p q : Nat) (B : Option Addr) (m d : Nat) (ys : List Int) (A1 A2 : Option Addr) (n1 c1 n2 c2 : Nat) (vs : List Int) : Prop where
  pl : p < W.heap.size
  ql : q < W.heap.size
  c0 : W.cell? ⟨p, 0, none⟩ = some (.slice B m d)
  c1 : W.cell? ⟨q, 0, none⟩ = some (.slice A1 n1 c1)
  c2 : W.cell? ⟨q, 1, none⟩ = some (.slice A2 n2 c2)
  r0 : Rd W B m ys
  r1 : Rd W A1 n1 vs
theorem Cap.below {W W' : World} {p q : Nat} {B : Option Addr} {m d : Nat} {ys : List Int} {A1 A2 : Option Addr} {n1 c1 n2 c2 : Nat} {vs : List Int} (h : Cap W p q B m d ys A1 A2 n1 c1 n2 c2 vs) (hb : Below W.heap.size W W') : Cap W' p q B m d ys A1 A2 n1 c1 n2 c2 vs :=
  ⟨Nat.lt_of_lt_of_le h.pl hb.size, Nat.lt_of_lt_of_le h.ql hb.size, (hb.cell (p := ⟨p, 0, none⟩) h.pl).trans h.c0, (hb.cell (p := ⟨q, 0, none⟩) h.ql).trans h.c1, (hb.cell (p := ⟨q, 1, none⟩) h.ql).trans h.c2, h.r0.below hb, h.r1.below hb⟩

section
variable (p q : Nat) (B : Option Addr) (m d : Nat) (ys : List Int) (A1 A2 : Option Addr) (n1 c1 n2 c2 : Nat) (vs : List Int)

set_option maxHeartbeats 400000 in
theorem clo_any (x : Int) (w : World) (h : Cap w p q B m d ys A1 A2 n1 c1 n2 c2 vs) : Calls Try.prog 26 #[.int .i64 x, .pointer (some ⟨p, 0, none⟩), .pointer (some ⟨q, 0, none⟩)] w fun e w' =>
    e = .returned (.bool (bothB ys vs x)) ∧ Below w.heap.size w w' := by
  have z0 := h.c0
  have z1 := h.c1
  have z2 := h.c2
  have R0 := Kp.mk h.r0
  have R1 := Kp.mk h.r1
  clear h
  cases hv : inB ys x with
  | true =>
    have HV := Kp.mk hv
    have HE : Kp (bothB ys vs x = inB vs x) := ⟨by unfold bothB; rw [hv]; rfl⟩
    clear hv
    go_enter Try.func26, Try.ntmps26
    go_wp2_with (first | (go_at_call 27; refine (contains_any _ _ _ ys _ _ R0.it).mono ?_; rintro e w' ⟨rfl, rfl⟩; rw [HV.it]) | (go_at_call 23; refine (votes_any _ _ _ _ _ _ vs _ R1.it _).mono ?_; rintro e w' ⟨rfl, hb⟩))
    go_ret
    exact ⟨ret_bool HE.it.symm, hb⟩
  | false =>
    have HV := Kp.mk hv
    have HE : Kp (bothB ys vs x = false) := ⟨by unfold bothB; rw [hv]; rfl⟩
    clear hv
    go_enter Try.func26, Try.ntmps26
    go_wp2_with (go_at_call 27; refine (contains_any _ _ _ ys _ _ R0.it).mono ?_; rintro e w' ⟨rfl, rfl⟩; rw [HV.it])
    go_ret
    exact ⟨ret_bool HE.it.symm, Below.refl _ _⟩

set_option maxHeartbeats 1000000 in
theorem idxc_any (A : Option Addr) (n c : Nat) (xs : List Int) (w : World) (h : Cap w p q B m d ys A1 A2 n1 c1 n2 c2 vs) (ha : Rd w A n xs) : Calls Try.prog 46 #[.slice A n c, .func (.func 26) #[] #[.pointer (some ⟨p, 0, none⟩), .pointer (some ⟨q, 0, none⟩)]] w fun e w' =>
    (∃ r : Int, e = .returned (.int .i64 r) ∧ decide (r ≥ 0) = xs.any (bothB ys vs)) ∧ Below w.heap.size w w' := by
  have HR := Kp.mk ha
  have HC := Kp.mk h
  have hbd := ha.bd
  have HL : Kp (xs.length = n) := ⟨ha.len⟩
  clear h ha
  go_enter Try.func46, Try.ntmps46
  go_wp2
  go_loopw [8] (fun i wr => ∃ k : Nat, k ≤ n ∧ i = .int .i64 k ∧ Kp (Below w.heap.size w wr) ∧ Kp ((xs.take k).any (bothB ys vs) = false)) (fun i _ => n - (intOf i).toNat)
  case atStart => exact ⟨0, by omega, rfl, ⟨Below.refl _ _⟩, ⟨by simp⟩⟩
  case round =>
    obtain ⟨k, hk, rfl, hb, hno⟩ := hrel
    by_cases hkn : k < n
    · obtain ⟨b, o, hA, hlt, hc0⟩ := HR.it.get hkn
      cases hA
      have hcell := (hb.it.cell (p := ⟨b, o + k, none⟩) hlt).trans hc0
      have HC' := Kp.mk (HC.it.below hb.it)
      have hl : k < xs.length := by rw [HL.it]; exact hkn
      have HT : Kp ((xs.take (k + 1)).any (bothB ys vs) = ((xs.take k).any (bothB ys vs) || bothB ys vs (rd xs k))) := ⟨by rw [List.take_succ_eq_append_getElem hl, List.any_append, ← rd_lt hl]; simp⟩
      obtain ⟨x, hx⟩ : ∃ x, x = rd xs k := ⟨_, rfl⟩
      rw [← hx] at hcell HT
      clear hc0 hl hx
      cases hv : bothB ys vs x with
      | true =>
        have HV := Kp.mk hv
        clear hv
        go_wp2_with (go_at_call 26; refine (clo_any p q B m d ys A1 A2 n1 c1 n2 c2 vs _ _ HC'.it).mono ?_; rintro e w1 ⟨rfl, hb1⟩; rw [HV.it])
        go_ret
        exact ⟨⟨k, rfl, by rw [← List.take_append_drop (k + 1) xs, List.any_append, HT.it, hno.it, HV.it]; simp⟩, hb.it.trans (hb1.mono hb.it.size)⟩
      | false =>
        have HV := Kp.mk hv
        clear hv
        go_wp2_with (go_at_call 26; refine (clo_any p q B m d ys A1 A2 n1 c1 n2 c2 vs _ _ HC'.it).mono ?_; rintro e w1 ⟨rfl, hb1⟩; rw [HV.it])
        go_roundw
        case rel => exact ⟨k + 1, by omega, by go_num, ⟨hb.it.trans (hb1.mono hb.it.size)⟩, ⟨by rw [HT.it, hno.it, HV.it]; rfl⟩⟩
        case measure => simp [intOf]; omega
    · go_wp2
      go_ret
      exact ⟨⟨-1, rfl, by have := hno.it; rw [List.take_of_length_le (by rw [HL.it]; omega)] at this; rw [this]; rfl⟩, hb.it⟩

set_option maxHeartbeats 400000 in
theorem cont_any (A : Option Addr) (n c : Nat) (xs : List Int) (w : World) (h : Cap w p q B m d ys A1 A2 n1 c1 n2 c2 vs) (ha : Rd w A n xs) : Calls Try.prog 25 #[.slice A n c, .func (.func 26) #[] #[.pointer (some ⟨p, 0, none⟩), .pointer (some ⟨q, 0, none⟩)]] w fun e w' =>
    e = .returned (.bool (xs.any (bothB ys vs))) ∧ Below w.heap.size w w' := by
  have HW := Kp.mk (idxc_any p q B m d ys A1 A2 n1 c1 n2 c2 vs A n c xs w h ha)
  clear h ha
  go_enter Try.func25, Try.ntmps25
  go_wp2_with (go_at_call 46; refine HW.it.mono ?_; rintro e w1 ⟨⟨r, rfl, hr⟩, hb1⟩; have HR := Kp.mk hr; clear hr)
  go_ret
  exact ⟨ret_bool HR.it, hb1⟩
end

end Go.Proofs.Ytbfpdahbmdaenaa
