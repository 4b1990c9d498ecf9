/-
  The example.
-/
import Derived.Test.YtcmkjoepndbicaaAwp
namespace Go.Proofs.Ytcmkjoepndbicaa
open Go Go.RowKit

theorem root_any {ka kb : BitVec 64} {l : List Pr} {t : Nat} {w : World} (h : TreeAt ka kb l t w) : Calls Try.prog 27 #[.pointer (some ⟨t, 0, none⟩)] w fun e w' => e = .returned (.int .u64 ((digU ka kb 4 l).toNat : Int)) ∧ Below w.heap.size w w' := by
  obtain ⟨r, h1, h2⟩ := h
  obtain ⟨hr, r0⟩ := h2.sum
  have t2 : w.cell? ⟨t, 2, none⟩ = some (.pointer (some ⟨r, 0, none⟩)) := blk_cell h1 rfl
  have hl := (Array.getElem?_eq_some_iff.1 h1).1
  obtain ⟨U, hU⟩ : ∃ U, U = digU ka kb 4 l := ⟨_, rfl⟩
  rw [← hU] at r0 ⊢
  clear h1 h2 hU
  go_enter Try.func27, Try.ntmps27
  go_wp2
  go_ret
  exact ⟨rfl, Below.refl _ _⟩
theorem len_any {ka kb : BitVec 64} {l : List Pr} {t : Nat} {w : World} (h : TreeAt ka kb l t w) : Calls Try.prog 29 #[.pointer (some ⟨t, 0, none⟩)] w fun e w' => e = .returned (.int .i64 (l.length : Int)) ∧ Below w.heap.size w w' := by
  obtain ⟨r, h1, h2⟩ := h
  have t3 : w.cell? ⟨t, 3, none⟩ = some (.int .i64 (l.length : Int)) := blk_cell h1 rfl
  have hl := (Array.getElem?_eq_some_iff.1 h1).1
  obtain ⟨n, hn⟩ : ∃ n, n = l.length := ⟨_, rfl⟩
  rw [← hn] at t3 ⊢
  clear h1 h2 hn
  go_enter Try.func29, Try.ntmps29
  go_wp2
  go_ret
  exact ⟨rfl, Below.refl _ _⟩
theorem seed_any (w : World) : Calls Try.prog 45 #[] w fun e w' => e = .returned (.agg #[.int .u64 506097522914230528, .int .u64 1084818905618843912]) ∧ Below w.heap.size w w' := by
  go_enter Try.func45, Try.ntmps45
  go_wp2
  obtain ⟨w1, hw1⟩ : ∃ x : World, x = w.alloc (Obj.cells #[Value.int IntKind.u64 506097522914230528, Value.int IntKind.u64 1084818905618843912] 24) := ⟨_, rfl⟩
  rw [← hw1]
  have h1 : w1.heap[w.heap.size]? = some (.cells #[.int .u64 506097522914230528, .int .u64 1084818905618843912] 24 (0, 0)) := by rw [hw1]; exact blk_new _ _
  have q0 : w1.cell? ⟨w.heap.size, 0, none⟩ = some (.int .u64 506097522914230528) := blk_cell h1 rfl
  have q1 : w1.cell? ⟨w.heap.size, 1, none⟩ = some (.int .u64 1084818905618843912) := blk_cell h1 rfl
  have hb : Below w.heap.size w w1 := by rw [hw1]; exact (Below.refl _ _).alloc (Nat.le_refl _) _
  refine bodyPost_ret (v := .agg #[.int .u64 506097522914230528, .int .u64 1084818905618843912]) ?_ rfl ?_
  · simp [results, go_sem, q0, q1]
  · exact ⟨rfl, hb⟩
theorem lit_ka : ((ka1.toNat : Nat) : Int) = 506097522914230528 := by decide +kernel
theorem lit_kb : ((kb1.toNat : Nat) : Int) = 1084818905618843912 := by decide +kernel
theorem of1 (W : World) : Calls Try.prog 14 #[.agg #[.int .u64 506097522914230528, .int .u64 1084818905618843912], .slice (some ⟨W.heap.size, 0, none⟩) 1 1] (W.alloc (.cells #[.string ⟨#[97]⟩, .string ⟨#[49]⟩] 43)) fun e w' => ∃ t, e = .returned (.pointer (some ⟨t, 0, none⟩)) ∧ TreeAt ka1 kb1 [p1] t w' ∧ Below W.heap.size W w' := by
  have h := of_any ka1 kb1 (some ⟨W.heap.size, 0, none⟩) 1 1 [p1] (W.alloc (.cells #[.string ⟨#[97]⟩, .string ⟨#[49]⟩] 43)) (fun _ => True) ⟨rfl, by decide, fun _ => ⟨W.heap.size, 0, rfl, trivial, by simp, fun i k hk => by
    match i, hk with
    | 0, hk => cases hk; exact ⟨blk_cell (blk_new _ _) rfl, blk_cell (blk_new _ _) rfl⟩⟩⟩ (by omega) (fun p hp => by rw [List.mem_singleton.1 hp]; decide)
  rw [lit_ka, lit_kb, ofP1] at h
  exact h.mono fun e w' ⟨t, he, h1, _, h2⟩ => ⟨t, he, h1, ((Below.refl _ _).alloc (Nat.le_refl _) _).trans (h2.mono (by simp))⟩
theorem of0 (W : World) : Calls Try.prog 14 #[.agg #[.int .u64 506097522914230528, .int .u64 1084818905618843912], .slice none 0 0] W fun e w' => ∃ t, e = .returned (.pointer (some ⟨t, 0, none⟩)) ∧ TreeAt ka1 kb1 [] t w' ∧ Below W.heap.size W w' := by
  have h := of_any ka1 kb1 none 0 0 [] W (fun _ => True) (RP.nil _ _ _) (by omega) (fun p hp => by cases hp)
  rw [lit_ka, lit_kb, ofP0] at h
  exact h.mono fun e w' ⟨t, he, h1, _, h2⟩ => ⟨t, he, h1, h2⟩
theorem sum1 (A : Option Addr) (c : Nat) (W : World) (h : Rb W A 15 bs15) (hc : 15 ≤ c) : Calls Try.prog 19 #[.agg #[.int .u64 506097522914230528, .int .u64 1084818905618843912], .slice A 15 c] W fun e w' => e = .returned (.int .u64 11613035633349379557) ∧ Below W.heap.size W w' := by
  have h := sum_any A 15 c bs15 ka1 kb1 W h hc
  rw [lit_ka, lit_kb, sum15, show (((11613035633349379557#64 : BitVec 64).toNat : Nat) : Int) = 11613035633349379557 by decide +kernel] at h
  exact h
theorem unl1 (s t : Nat) (W : World) (h1 : TreeAt ka1 kb1 [p1] s W) (h2 : TreeAt ka1 kb1 [] t W) : Calls Try.prog 13 #[.pointer (some ⟨s, 0, none⟩), .pointer (some ⟨t, 0, none⟩)] W fun e w' =>
    ∃ b c D P, e = .returned (.tuple #[.slice (some ⟨b, 0, none⟩) 1 c, .agg #[.int .i64 D, .int .i64 P], .int .i64 0]) ∧ w'.cell? ⟨b, 0, none⟩ = some (.string ⟨#[97]⟩) ∧ b < w'.heap.size ∧ Below W.heap.size W w' := by
  refine (unlike2_any ka1 kb1 [p1] [] s t W h1 h2 (by simp) (by simp)).mono ?_
  rintro e w' ⟨v, rfl, ho, hb⟩
  rw [dif4, sort1] at ho
  unfold OwnT at ho
  rcases ho.2 with ⟨_, h0⟩ | ⟨g, cap, cur, rfl, hg, hh, _⟩
  · simp at h0
  · refine ⟨g, cap, _, _, rfl, ?_, (Array.getElem?_eq_some_iff.1 hh).1, hb⟩
    have h9 : OwnT w' W.heap.size (.slice (some ⟨g, 0, none⟩) 1 cap) [p1.1] := ho
    obtain ⟨A, c, hv, _, _, hr⟩ := h9.form (by simp)
    cases hv
    obtain ⟨b, o, e, _, hc⟩ := hr.row (by simp)
    cases e
    have := hc 0 p1.1 rfl
    exact this
theorem root1 {t : Nat} {w : World} (h : TreeAt ka1 kb1 [p1] t w) : Calls Try.prog 27 #[.pointer (some ⟨t, 0, none⟩)] w fun e w' => e = .returned (.int .u64 2557021268201134683) ∧ Below w.heap.size w w' := by
  have h := root_any h
  rw [dig4, show (((2557021268201134683#64 : BitVec 64).toNat : Nat) : Int) = 2557021268201134683 by decide +kernel] at h
  exact h
theorem len1 {t : Nat} {w : World} (h : TreeAt ka1 kb1 [p1] t w) : Calls Try.prog 29 #[.pointer (some ⟨t, 0, none⟩)] w fun e w' => e = .returned (.int .i64 1) ∧ Below w.heap.size w w' := len_any h
theorem eq1 (g cc : Nat) (W : World) (h : W.cell? ⟨g, 0, none⟩ = some (.string ⟨#[97]⟩)) (hl : g < W.heap.size) : Calls Try.prog 17 #[.slice (some ⟨g, 0, none⟩) 1 cc, .slice (some ⟨W.heap.size, 0, none⟩) 1 1] (W.alloc (.cells #[.string ⟨#[97]⟩] 9)) fun e w' => e = .returned (.bool true) ∧ Below W.heap.size W w' := by
  have hb : Below W.heap.size W (W.alloc (.cells #[.string ⟨#[97]⟩] 9)) := (Below.refl _ _).alloc (Nat.le_refl _) _
  refine (Try.slices_Equal_string g 0 1 cc W.heap.size 0 1 1 [⟨#[97]⟩] [⟨#[97]⟩] _ (by simp) (by simp) (by omega) (by omega) (fun j hj => ?_) (fun j hj => ?_)).mono ?_
  · obtain rfl : j = 0 := by simpa using hj
    exact (hb.cell (p := ⟨g, 0, none⟩) hl).trans h
  · obtain rfl : j = 0 := by simpa using hj
    exact blk_cell (blk_new _ _) rfl
  · rintro e w' ⟨rfl, q, rfl⟩
    exact ⟨by simp, below_drewN hb q⟩
set_option linter.unusedVariables false in
set_option maxRecDepth 100000 in
set_option maxHeartbeats 8000000 in
theorem awake_any (w : World) : Calls Try.prog 12 #[] w fun e w' => e = .returned (.bool true) ∧ Below w.heap.size w w' := by
  go_enter Try.func12, Try.ntmps12
  go_upto_region 2 with fail
  refine wp_on (fun w1 => Rb w1 (some ⟨w.heap.size, 0, none⟩) 15 bs15 ∧ Below w.heap.size w w1) ⟨⟨rfl, by decide, fun _ => ⟨w.heap.size, 0, rfl, by simp, fun j hj => by
    rw [Nat.zero_add]
    refine blk_cell (blk_new _ _) ?_
    match j, hj with
    | 0, _ => rfl | 1, _ => rfl | 2, _ => rfl | 3, _ => rfl | 4, _ => rfl | 5, _ => rfl | 6, _ => rfl | 7, _ => rfl
    | 8, _ => rfl | 9, _ => rfl | 10, _ => rfl | 11, _ => rfl | 12, _ => rfl | 13, _ => rfl | 14, _ => rfl
    | k + 15, h => exact absurd h (by omega)⟩⟩, (Below.refl _ _).alloc (Nat.le_refl _) _⟩ (fun w1 hx => ?_)
  obtain ⟨hr, hb1⟩ := hx
  have R1 := Kp.mk hr
  have B1 := Kp.mk hb1
  clear hr hb1
  go_wp2_with fail
  go_at_call 45
  refine (seed_any w1).mono ?_
  rintro e w2 ⟨rfl, hb⟩
  have B2 := Kp.mk (B1.it.trans (hb.mono B1.it.size))
  have R2 := Kp.mk (R1.it.below hb)
  clear hb R1 B1
  go_wp2_with fail
  go_at_call 14
  refine (of1 w2).mono ?_
  rintro e w3 ⟨t, rfl, ht, hb⟩
  have B3 := Kp.mk (B2.it.trans (hb.mono B2.it.size))
  have R3 := Kp.mk (R2.it.below hb)
  have T3 := Kp.mk ht
  clear hb ht R2 B2
  go_wp2_with fail
  go_at_call 45
  refine (seed_any w3).mono ?_
  rintro e w4 ⟨rfl, hb⟩
  have B4 := Kp.mk (B3.it.trans (hb.mono B3.it.size))
  have R4 := Kp.mk (R3.it.below hb)
  have T4 := Kp.mk (T3.it.below hb)
  clear hb R3 B3 T3
  go_wp2_with fail
  go_at_call 14
  refine (of0 w4).mono ?_
  rintro e w5 ⟨s, rfl, hs, hb⟩
  have B5 := Kp.mk (B4.it.trans (hb.mono B4.it.size))
  have R5 := Kp.mk (R4.it.below hb)
  have T5 := Kp.mk (T4.it.below hb)
  have S5 := Kp.mk hs
  clear hb hs R4 B4 T4
  go_wp2_with fail
  go_at_call 13
  refine (unl1 t s w5 T5.it S5.it).mono ?_
  rintro e w6 ⟨g, cc, DD, PP, rfl, hc, hgl, hb⟩
  have B6 := Kp.mk (B5.it.trans (hb.mono B5.it.size))
  have R6 := Kp.mk (R5.it.below hb)
  have T6 := Kp.mk (T5.it.below hb)
  have C6 : Kp (w6.cell? ⟨g, 0, none⟩ = some (.string ⟨#[97]⟩)) := ⟨hc⟩
  have L6 := Kp.mk hgl
  clear hb hc hgl R5 B5 T5 S5
  go_wp2_with fail
  have B7 : Kp (Below w.heap.size w (w6.alloc (Obj.cells #[Value.int IntKind.i64 DD, Value.int IntKind.i64 PP] 30))) := ⟨B6.it.alloc B6.it.size _⟩
  have X7 : Kp (Below w6.heap.size w6 (w6.alloc (Obj.cells #[Value.int IntKind.i64 DD, Value.int IntKind.i64 PP] 30))) := ⟨(Below.refl _ _).alloc (Nat.le_refl _) _⟩
  go_at_call 45
  refine (seed_any _).mono ?_
  rintro e w8 ⟨rfl, hb⟩
  have B8 := Kp.mk (B7.it.trans (hb.mono B7.it.size))
  have X8 : Kp (Below w6.heap.size w6 w8) := ⟨X7.it.trans (hb.mono X7.it.size)⟩
  clear hb B7 X7
  go_wp2_with fail
  go_at_call 19
  refine (sum1 _ 15 w8 (R6.it.below X8.it) (by omega)).mono ?_
  rintro e w9 ⟨rfl, hb⟩
  have B9 := Kp.mk (B8.it.trans (hb.mono B8.it.size))
  have X9 : Kp (Below w6.heap.size w6 w9) := ⟨X8.it.trans (hb.mono X8.it.size)⟩
  clear hb B8 X8
  go_wp2_with fail
  go_at_call 27
  refine (root1 (T6.it.below X9.it)).mono ?_
  rintro e wa ⟨rfl, hb⟩
  have Ba := Kp.mk (B9.it.trans (hb.mono B9.it.size))
  have Xa : Kp (Below w6.heap.size w6 wa) := ⟨X9.it.trans (hb.mono X9.it.size)⟩
  clear hb B9 X9
  go_wp2_with fail
  go_at_call 29
  refine (len1 (T6.it.below Xa.it)).mono ?_
  rintro e wb ⟨rfl, hb⟩
  have Bb := Kp.mk (Ba.it.trans (hb.mono Ba.it.size))
  have Xb : Kp (Below w6.heap.size w6 wb) := ⟨Xa.it.trans (hb.mono Xa.it.size)⟩
  clear hb Ba Xa
  go_wp2_with fail
  go_at_call 17
  refine (eq1 g cc wb ((Xb.it.cell (p := ⟨g, 0, none⟩) L6.it).trans C6.it) (Nat.lt_of_lt_of_le L6.it Xb.it.size)).mono ?_
  rintro e wc ⟨rfl, hb⟩
  have Bc := Kp.mk (Bb.it.trans (hb.mono Bb.it.size))
  clear hb
  go_wp2
  go_ret
  exact ⟨rfl, Bc.it⟩
end Go.Proofs.Ytcmkjoepndbicaa
