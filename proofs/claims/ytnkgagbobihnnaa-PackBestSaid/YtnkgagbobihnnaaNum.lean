/-
  Number as a reader takes it: where it comes whole.
-/
import Derived.Test.YtnkgagbobihnnaaRdr
import Derived.Laws.Bits64
import Derived.Laws.Bits64b
namespace Go.Proofs.Ytnkgagbobihnnaa
open Go Go.RowKit
attribute [local go_sem ↓] Go.wp_at_zero Go.wp_at_succ

/-- Bytes as one number, the highest first. -/
def val (ds : List UInt8) : Nat := ds.foldl (fun x d => x * 256 + d.toNat) 0
theorem val_snoc (ds : List UInt8) (d : UInt8) : val (ds ++ [d]) = val ds * 256 + d.toNat := by unfold val; rw [List.foldl_append]; rfl
theorem val_lt (ds : List UInt8) : val ds < 256 ^ ds.length := by
  generalize hn : ds.length = n
  induction n generalizing ds with
  | zero => rw [List.eq_nil_of_length_eq_zero hn]; decide
  | succ n ih =>
    obtain ⟨a, b, rfl⟩ : ∃ a b, ds = a ++ [b] := by
      have hne : ds ≠ [] := by intro e; rw [e] at hn; simp at hn
      exact ⟨ds.dropLast, ds.getLast hne, (List.dropLast_concat_getLast hne).symm⟩
    rw [List.length_append, List.length_singleton] at hn
    have := ih a (by omega)
    have hb := b.toNat_lt
    rw [val_snoc, Nat.pow_succ]
    omega
theorem val_be (x : Nat) : val (be x) = x := by
  induction x using Nat.strongRecOn with
  | _ x ih =>
    rcases Nat.eq_zero_or_pos x with rfl | h0
    · rw [be_zero]; rfl
    · rw [be_pos h0, val_snoc, ih _ (by omega)]
      have : (UInt8.ofNat (x % 256)).toNat = x % 256 := by simp
      rw [this]; omega
theorem be_head {x : Nat} (h : 0 < x) : byte (be x) 0 ≠ 0 := by
  induction x using Nat.strongRecOn with
  | _ x ih =>
    rw [be_pos h]
    rcases Nat.eq_zero_or_pos (x / 256) with h0 | h0
    · rw [h0, be_zero]
      show ((UInt8.ofNat (x % 256)).toNat : Int) ≠ 0
      simp; omega
    · have h1 := ih (x / 256) (by omega) h0
      have hl : 0 < (be (x / 256)).length := by
        rw [be_pos h0]; simp
      unfold byte at h1 ⊢
      rwa [List.getD_eq_getElem?_getD, List.getElem?_append_left hl, ← List.getD_eq_getElem?_getD]
theorem val_take {ds : List UInt8} {j : Nat} (h : j < ds.length) : (val (ds.take (j + 1)) : Int) = (val (ds.take j) : Int) * 256 + byte ds j := by
  rw [List.take_succ_eq_append_getElem h, val_snoc]
  unfold byte
  rw [List.getD_eq_getElem?_getD, List.getElem?_eq_getElem h]
  simp
theorem or_low (x c : Nat) (hx : x < 72057594037927936) (hc : c < 256) : Go.bits .or .u64 ((x * 256 : Nat) : Int) (c : Int) = ((x * 256 + c : Nat) : Int) := by
  rw [bits_or_u64_nat _ _ (by omega) (by omega)]
  have := Nat.two_pow_add_eq_or_of_lt (i := 8) (b := c) (by omega) x
  rw [Nat.mul_comm x, show (256 : Nat) = 2 ^ 8 by decide, ← this]

set_option maxRecDepth 100000 in
set_option maxHeartbeats 4000000 in
theorem number50 {w : World} {p g n c : Nat} {l : List UInt8} {a k : Nat} {ds : List UInt8} (h : RDR w p (some ⟨g, 0, none⟩) n c l a 0) (hk : byte l a = (k : Int)) (hk8 : k ≤ 8) (ha : a + 1 + k ≤ n) (hds : ds = (l.drop (a + 1)).take k) (hz : 0 < k → byte ds 0 ≠ 0) (hv : val ds < 9223372036854775808) :
    Calls Try.prog 50 #[.pointer (some ⟨p, 0, none⟩)] w fun r w' => r = .returned (.int .i64 (val ds)) ∧ RDR w' p (some ⟨g, 0, none⟩) n c l (a + 1 + k) 0 ∧ w.grownBy w' (some p) := by
  have HD := Kp.mk (dead75 h)
  have HB := Kp.mk (bytes76 h 1 (by omega))
  have HK := Kp.mk hk
  have HDS := Kp.mk hds
  have HDL : Kp (ds.length = k) := ⟨by rw [hds, List.length_take, List.length_drop, h.row.len]; omega⟩
  have HZ := Kp.mk hz
  have HV := Kp.mk hv
  obtain ⟨h0, h1, h2, h3, f1, f2⟩ := h.cells
  have HR := Kp.mk h
  clear h hk hds hz hv
  go_enter Try.func50, Try.ntmps50
  go_wp2_with (go_at_call 75; refine HD.it.mono ?_; rintro e w1 ⟨rfl, rfl⟩)
  go_at_call 76
  refine HB.it.mono ?_
  rintro e w1 ⟨o1, rfl, hr1, hR1, hg1⟩
  have hc1 : w1.cell? ⟨g, o1, none⟩ = some (.int .u8 (k : Int)) := by
    obtain ⟨b, o, e, _, hc⟩ := hr1.cells (by omega)
    cases e
    rw [← HK.it]
    have := hc 0 (by omega)
    rw [Nat.add_zero] at this
    rw [this, byte_take (by omega), byte_drop, Nat.add_zero]
  have HB2 := Kp.mk (bytes76 hR1 k (by omega))
  have G1 := Kp.mk hg1
  clear hr1 hR1 hg1 HB
  have hd8 : decide ((k : Int) > 8) = false := by simp; omega
  go_wp2_with fail
  refine HB2.it.mono ?_
  rintro e w2 ⟨o2, rfl, hr2, hR2, hg2⟩
  rw [← HDS.it] at hr2
  have hc2 := hR2.cells.2.2.1
  have R2 := Kp.mk hr2
  have S2 := Kp.mk hR2
  have G2 : Kp (w.grownBy w2 (some p)) := ⟨G1.it.trans hg2⟩
  clear hr2 hR2 hg2 HB2 HD h0 h1 h2 h3 f1 f2 hc1 G1
  go_wp2
  go_loop [5, 38] (fun x i => ∃ q : Nat, q ≤ k ∧ i = .int .i64 q ∧ x = .int .u64 ((val (ds.take q) : Nat) : Int)) (fun _ i => k - (intOf i).toNat)
  case atStart => exact ⟨0, by omega, rfl, rfl⟩
  case round =>
    obtain ⟨q, hq, rfl, rfl⟩ := hrel
    by_cases hqk : q < k
    · obtain ⟨b1, e1, hA, _, f1⟩ := R2.it.cells (by omega)
      cases hA
      have f2 := f1 q hqk
      obtain ⟨D, hD⟩ : ∃ D, D = ds.getD q 0 := ⟨_, rfl⟩
      obtain ⟨X, hX⟩ : ∃ X, X = val (ds.take q) := ⟨_, rfl⟩
      have hbD : byte ds q = (D.toNat : Int) := by rw [hD]; rfl
      have HN : Kp (((val (ds.take (q + 1)) : Nat) : Int) = ((X * 256 + D.toNat : Nat) : Int)) := ⟨by rw [val_take (by rw [HDL.it]; exact hqk), ← hX, hbD]; simp⟩
      have hX8 : X < 72057594037927936 := by
        have := val_lt (ds.take q)
        rw [List.length_take, HDL.it, Nat.min_eq_left (by omega), ← hX] at this
        exact Nat.lt_of_lt_of_le this (Nat.le_trans (Nat.pow_le_pow_right (by omega) (show q ≤ 7 by omega)) (by decide))
      have hD8 := D.toNat_lt
      rw [hbD] at f2
      have hor := or_low X D.toNat hX8 (by omega)
      rw [← hX]
      rw [Int.natCast_mul] at hor
      have HOR := Kp.mk hor
      clear f1 hD hX hbD hor
      go_wp2
      go_round
      case rel => exact ⟨q + 1, hqk, by go_num, by rw [HN.it, ← HOR.it]; rfl⟩
      case measure => simp [intOf]; omega
    · obtain rfl : q = k := by omega
      have HV2 : Kp (val (ds.take q) = val ds) := ⟨by rw [List.take_of_length_le (by rw [HDL.it]; omega)]⟩
      rw [HV2.it]
      obtain ⟨V, hVV⟩ : ∃ V, V = val ds := ⟨_, rfl⟩
      have hV : V < 9223372036854775808 := by rw [hVV]; exact HV.it
      have HVV := Kp.mk hVV
      rw [← hVV]
      have hmx : decide ((V : Int) > 9223372036854775807) = false := by simp; omega
      clear hVV HV HV2
      rcases Nat.eq_zero_or_pos q with h0 | h0
      · subst h0
        go_wp2
        go_ret
        exact ⟨by rw [HVV.it]; rfl, S2.it, G2.it⟩
      · obtain ⟨b1, e1, hA, _, f1⟩ := R2.it.cells h0
        cases hA
        have f2 := f1 0 h0
        rw [Nat.add_zero] at f2
        have hdz : (byte ds 0 == 0) = false := by simpa using HZ.it h0
        have hdq : decide ((q : Int) > 0) = true := by simp; omega
        clear f1
        go_wp2
        go_ret
        exact ⟨by rw [HVV.it]; rfl, S2.it, G2.it⟩
theorem numB_head {x : Nat} (h : x < 9223372036854775808) {l s : List UInt8} {a : Nat} (hl : l.drop a = numB x ++ s) : byte l a = ((be x).length : Int) ∧ (be x).length ≤ 8 ∧ be x = (l.drop (a + 1)).take (be x).length ∧ a + 1 + (be x).length ≤ l.length := by
  have h8 : (be x).length ≤ 8 := (be_len x 8).2 (by omega)
  have hlen := congrArg List.length hl
  rw [List.length_drop] at hlen
  unfold numB at hl hlen
  simp only [List.cons_append, List.length_cons, List.length_append] at hlen
  have h1 : l.drop (a + 1) = be x ++ s := by
    rw [show l.drop (a + 1) = (l.drop a).drop 1 by rw [List.drop_drop], hl]; rfl
  refine ⟨?_, h8, ?_, by omega⟩
  · have := byte_drop (bs := l) (k := a) (j := 0)
    rw [Nat.add_zero] at this
    rw [← this, hl]
    show ((UInt8.ofNat (be x).length).toNat : Int) = _
    exact u8_of (by omega)
  · rw [h1, List.take_left']
    rfl
/-- A number that was written is read. -/
theorem number_back {w : World} {p g n c : Nat} {l s : List UInt8} {a x : Nat} (h : RDR w p (some ⟨g, 0, none⟩) n c l a 0) (hx : x < 9223372036854775808) (hl : l.drop a = numB x ++ s) :
    Calls Try.prog 50 #[.pointer (some ⟨p, 0, none⟩)] w fun r w' => r = .returned (.int .i64 x) ∧ RDR w' p (some ⟨g, 0, none⟩) n c l (a + (numB x).length) 0 ∧ w.grownBy w' (some p) := by
  obtain ⟨h1, h2, h3, h4⟩ := numB_head hx hl
  have := number50 h h1 h2 (by rw [← h.row.len]; exact h4) h3 (fun h0 => be_head (by
    rcases Nat.eq_zero_or_pos x with e | e
    · rw [e, be_zero] at h0; simp at h0
    · exact e)) (by rw [val_be]; exact hx)
  rw [val_be] at this
  have e : a + 1 + (be x).length = a + (numB x).length := by unfold numB; rw [List.length_cons]; omega
  rwa [e] at this
end Go.Proofs.Ytnkgagbobihnnaa
