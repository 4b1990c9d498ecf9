/-
  Places of bytes in a list of which the last ones stand in front: the reference's.
-/
import Derived.Test.YtnkgagbobihnnaaMtf
namespace Go.Proofs.Ytnkgagbobihnnaa
open Go Go.RowKit
attribute [local go_sem ↓] Go.wp_at_zero Go.wp_at_succ

theorem byte_take {bs : List UInt8} {k j : Nat} (h : j < k) : byte (bs.take k) j = byte bs j := by
  unfold byte
  rw [List.getD_eq_getElem?_getD, List.getD_eq_getElem?_getD, List.getElem?_take_of_lt h]
theorem byte_drop {bs : List UInt8} {k j : Nat} : byte (bs.drop k) j = byte bs (k + j) := by
  unfold byte
  rw [List.getD_eq_getElem?_getD, List.getD_eq_getElem?_getD, List.getElem?_drop]
theorem Rb.take {w : World} {A : Option Addr} {n : Nat} {bs : List UInt8} (h : Rb w A n bs) {k : Nat} (hk : k ≤ n) : Rb w A k (bs.take k) :=
  ⟨by rw [List.length_take, h.len]; omega, by have := h.bd; omega, fun h0 => by
    obtain ⟨b, o, e, hl, hc⟩ := h.cells (by omega)
    exact ⟨b, o, e, hl, fun j hj => by rw [byte_take hj]; exact hc j (by omega)⟩⟩
theorem Rb.drop_some {w : World} {b o n : Nat} {bs : List UInt8} (h : Rb w (some ⟨b, o, none⟩) n bs) {k : Nat} (hk : k ≤ n) : Rb w (some ⟨b, o + k, none⟩) (n - k) (bs.drop k) :=
  ⟨by rw [List.length_drop, h.len], by have := h.bd; omega, fun h0 => by
    obtain ⟨b', o', e, hl, hc⟩ := h.cells (by omega)
    cases e
    exact ⟨b, o + k, rfl, hl, fun j hj => by rw [byte_drop, Nat.add_assoc]; exact hc (k + j) (by omega)⟩⟩

set_option maxRecDepth 100000 in
theorem rall_any (w : World) : Calls Try.prog 46 #[] w fun e w' => ∃ v, e = .returned v ∧ OwnB w' w.heap.size v allB ∧ Below w.heap.size w w' := by
  go_enter Try.func46, Try.ntmps46
  go_wp2
  go_loopw [1, 3] (fun v i wr => ∃ (k : Nat) (A : Option Addr) (c : Nat), k ≤ 256 ∧ i = .int .i64 k ∧ v = .slice A k c ∧ Kp (OwnB wr w.heap.size (.slice A k c) (allB.take k)) ∧ Kp (Below w.heap.size w wr)) (fun _ i _ => 256 - (intOf i).toNat)
  case atStart => exact ⟨0, none, 0, by omega, rfl, rfl, ⟨by rw [List.take_zero]; exact OwnB.nil _ _⟩, ⟨Below.refl _ _⟩⟩
  case round =>
    obtain ⟨k, A, c, hk, rfl, rfl, HO, HB⟩ := hrel
    by_cases hk2 : k < 256
    · have hd : decide ((k : Int) < 256) = true := by simp; omega
      obtain ⟨B, hBe⟩ : ∃ B, B = UInt8.ofNat k := ⟨_, rfl⟩
      have hwr : IntKind.u8.wrap (k : Int) = (B.toNat : Int) := by rw [hBe, u8_wrap, Nat.mod_eq_of_lt hk2]
      have HT : Kp (allB.take (k + 1) = allB.take k ++ [B]) := ⟨by rw [allB_take hk2, hBe]⟩
      have HN : Kp ((allB.take k).length + 1 ≤ 140737488355328) := ⟨by rw [List.length_take]; omega⟩
      have HZ := Kp.mk HB.it.size
      clear hBe
      go_wp2_with (refine app_b1 rfl (.tmp 6) (.tmp 9) rfl w.heap.size _ _ _ B rfl rfl rfl HO.it HZ.it HN.it ?_; intro v4 w4 ho4 hg4; have O4 := Kp.mk ho4; have B4 := Kp.mk (below_ownB HB.it HB.it.size HO.it (Nat.le_refl _) hg4); clear ho4 hg4)
      rw [← HT.it] at O4
      obtain ⟨A4, c4, hv4, _, _, _⟩ := O4.it.form (by rw [List.length_take]; omega)
      rw [List.length_take, allB_len, Nat.min_eq_left (by omega)] at hv4
      subst hv4
      go_roundw
      case rel => exact ⟨k + 1, A4, c4, by omega, by go_num, rfl, O4, B4⟩
      case measure => simp [intOf]; omega
    · obtain rfl : k = 256 := by omega
      have HE : Kp (OwnB wr w.heap.size (.slice A 256 c) allB) := ⟨by have h9 := HO.it; rwa [List.take_of_length_le (by rw [allB_len]; omega)] at h9⟩
      clear HO
      go_wp2
      go_ret
      exact ⟨_, rfl, HE.it, HB.it⟩
end Go.Proofs.Ytnkgagbobihnnaa
