/-
  RotateLeft64, turn.
-/
import Derived.Test.YtcmkjoepndbicaaDig
import Derived.Deep.CutRange
namespace Go.Proofs.Ytcmkjoepndbicaa
open Go Go.RowKit

theorem rot_any (x : BitVec 64) (k : Nat) (w : World) (h0 : 0 < k) (hk : k < 64) :
    Calls Try.prog 101 #[.int .u64 (x.toNat : Int), .int .i64 (k : Int)] w fun e w' => e = .returned (.int .u64 ((rotL x k).toNat : Int)) ∧ w' = w := by
  have e1 : IntKind.u64.wrap (k : Int) = (k : Int) := by rw [IntKind.wrap_u64]; omega
  have e2 : bits .and .u64 (k : Int) 63 = (k : Int) := by
    have h : k &&& 63 = k := by rw [show (63 : Nat) = 2 ^ 6 - 1 from rfl, Nat.and_two_pow_sub_one_eq_mod]; omega
    have := bits_and_u64_nat k 63 (by omega) (by omega)
    rw [h] at this
    exact this
  go_enter Try.func101, Try.ntmps101
  go_wp2
  go_ret
  refine ⟨?_, rfl⟩
  show Ending.returned (Value.int IntKind.u64 (bits BinOp.or IntKind.u64 (IntKind.u64.wrap ((x.toNat : Int) * 2 ^ k)) ((x.toNat : Int) / 2 ^ (64 - k)))) = _
  rw [b_shl, b_shr, b_or]
  rfl

theorem turn_any (x : BitVec 64) (k : Nat) (w : World) (hk : k < 64) :
    Calls Try.prog 80 #[.int .u64 (x.toNat : Int), .int .i64 (k : Int)] w fun e w' => e = .returned (.int .u64 ((turns x k).toNat : Int)) ∧ w' = w := by
  go_enter Try.func80, Try.ntmps80
  go_wp2
  go_loop [0, 7] (fun a i => ∃ q : Nat, q ≤ k ∧ i = .int .i64 q ∧ a = .int .u64 ((turns x q).toNat : Int)) (fun _ i => k - (intOf i).toNat)
  case atStart => exact ⟨0, by omega, rfl, rfl⟩
  case round =>
    obtain ⟨q, hq, rfl, rfl⟩ := hrel
    by_cases hqk : q < k
    · have hd : decide ((q : Int) < (k : Int)) = true := by simp; omega
      go_wp2
      go_roundw
      case rel =>
        refine ⟨q + 1, by omega, by go_num, ?_⟩
        rw [show turns x (q + 1) = rotL (turns x q) 1 from rfl, ← rotL_one, IntKind.wrap_u64, IntKind.wrap_u64]
        have := (turns x q).isLt
        congr 1
        omega
      case measure => simp [intOf]; omega
    · obtain rfl : q = k := by omega
      go_wp2
      go_ret
      exact ⟨rfl, rfl⟩

theorem wp_on {P : Program} {c : Code} {Q : Exit → Act → World → Prop} {a : Act} {w1 : World} (C : World → Prop) (h : C w1) (k : ∀ wx, C wx → c.wp P Q a wx) : c.wp P Q a w1 := k _ h
/-- The block B is the state s, and nothing else was written. -/
def SB (w : World) (B : Nat) (s : St) (wx : World) : Prop := wx.heap[B]? = some (.cells s.cells 102 (0, 0)) ∧ w.grownBy wx (some B)
theorem SB.opens {w : World} {B : Nat} {s : St} {wx : World} (h : SB w B s wx) :
    wx.cell? ⟨B, 0, none⟩ = some (.int .u64 (s.a.toNat : Int)) ∧ wx.cell? ⟨B, 1, none⟩ = some (.int .u64 (s.b.toNat : Int)) ∧ wx.cell? ⟨B, 2, none⟩ = some (.int .u64 (s.c.toNat : Int)) ∧ wx.cell? ⟨B, 3, none⟩ = some (.int .u64 (s.d.toNat : Int)) ∧
      wx.frozen? ⟨B, 0, none⟩ = false ∧ wx.frozen? ⟨B, 1, none⟩ = false ∧ wx.frozen? ⟨B, 2, none⟩ = false ∧ wx.frozen? ⟨B, 3, none⟩ = false :=
  ⟨blk_cell h.1 rfl, blk_cell h.1 rfl, blk_cell h.1 rfl, blk_cell h.1 rfl, blk_free h.1, blk_free h.1, blk_free h.1, blk_free h.1⟩

theorem SB.drew {w : World} {B : Nat} {s : St} {wx : World} (h : SB w B s wx) : SB w B s wx.drew := ⟨h.1, h.2.trans (by have hb : Below wx.heap.size wx wx.drew := ⟨rfl, rfl, rfl, Nat.le_refl _, fun _ _ => rfl⟩; exact ⟨hb.os, hb.tape, hb.output, hb.size, fun k hk _ => hb.block k hk⟩)⟩
theorem SB.set0 {w : World} {B : Nat} {a b c d : BitVec 64} {wx : World} (h : SB w B ⟨a, b, c, d⟩ wx) (x : BitVec 64) : SB w B ⟨x, b, c, d⟩ (wx.setCell ⟨B, 0, none⟩ (.int .u64 (x.toNat : Int))) := ⟨by rw [blk_set _ h.1]; rfl, grown_set h.2 _ _⟩
theorem SB.set1 {w : World} {B : Nat} {a b c d : BitVec 64} {wx : World} (h : SB w B ⟨a, b, c, d⟩ wx) (x : BitVec 64) : SB w B ⟨a, x, c, d⟩ (wx.setCell ⟨B, 1, none⟩ (.int .u64 (x.toNat : Int))) := ⟨by rw [blk_set _ h.1]; rfl, grown_set h.2 _ _⟩
theorem SB.set2 {w : World} {B : Nat} {a b c d : BitVec 64} {wx : World} (h : SB w B ⟨a, b, c, d⟩ wx) (x : BitVec 64) : SB w B ⟨a, b, x, d⟩ (wx.setCell ⟨B, 2, none⟩ (.int .u64 (x.toNat : Int))) := ⟨by rw [blk_set _ h.1]; rfl, grown_set h.2 _ _⟩
theorem SB.set3 {w : World} {B : Nat} {a b c d : BitVec 64} {wx : World} (h : SB w B ⟨a, b, c, d⟩ wx) (x : BitVec 64) : SB w B ⟨a, b, c, x⟩ (wx.setCell ⟨B, 3, none⟩ (.int .u64 (x.toNat : Int))) := ⟨by rw [blk_set _ h.1]; rfl, grown_set h.2 _ _⟩

set_option maxHeartbeats 4000000 in
theorem round_any (s : St) (B : Nat) (w w0 : World) (hB : SB w B s w0) :
    Calls Try.prog 79 #[.pointer (some ⟨B, 0, none⟩)] w0 fun e w' => e = .returned (.tuple #[]) ∧ SB w B s.mix w' := by
  obtain ⟨a, b, c, d⟩ := s
  go_enter Try.func79, Try.ntmps79
  go_wp2
  obtain ⟨k0, k1, k2, k3, z0, z1, z2, z3⟩ := hB.opens
  dsimp only at k0 k1 k2 k3
  have H1 := Kp.mk hB
  clear hB
  obtain ⟨a1, ha1⟩ : ∃ v, v = a + b := ⟨_, rfl⟩
  have Xa1 := Kp.mk ha1
  clear ha1
  go_region
  go_wp2
  refine wp_on (SB w B ⟨a1, b, c, d⟩) (by (first | rw [b_add] | rw [b_add2]); rw [← Xa1.it]; first | exact (H1.it.set0 _).drew | exact H1.it.drew.set0 _ | exact H1.it.set0 _) (fun w1 hB1 => ?_)
  clear k0 k1 k2 k3 z0 z1 z2 z3
  obtain ⟨k0, k1, k2, k3, z0, z1, z2, z3⟩ := hB1.opens
  dsimp only at k0 k1 k2 k3
  have H2 := Kp.mk hB1
  clear hB1
  obtain ⟨c1, hc1⟩ : ∃ v, v = c + d := ⟨_, rfl⟩
  have Xc1 := Kp.mk hc1
  clear hc1
  go_region
  go_wp2
  refine wp_on (SB w B ⟨a1, b, c1, d⟩) (by (first | rw [b_add] | rw [b_add2]); rw [← Xc1.it]; first | exact (H2.it.set2 _).drew | exact H2.it.drew.set2 _ | exact H2.it.set2 _) (fun w2 hB2 => ?_)
  clear k0 k1 k2 k3 z0 z1 z2 z3
  obtain ⟨k0, k1, k2, k3, z0, z1, z2, z3⟩ := hB2.opens
  dsimp only at k0 k1 k2 k3
  have H3 := Kp.mk hB2
  clear hB2
  obtain ⟨b1, hb1⟩ : ∃ v, v = rotL b 13 ^^^ a1 := ⟨_, rfl⟩
  have Xb1 := Kp.mk hb1
  clear hb1
  go_cut [] from 24 to 36 (fun wx => SB w B ⟨a1, b1, c1, d⟩ wx)
  case first =>
    go_region_with (go_at_call 101; refine (rot_any b 13 _ (by decide) (by decide)).mono ?_; rintro e w' ⟨rfl, rfl⟩)
    all_goals
      go_wp2
      go_meet
      rw [b_xor, ← Xb1.it]; first | exact (H3.it.set1 _).drew | exact H3.it.drew.set1 _ | exact H3.it.set1 _
  have hB3 := hcut
  clear hcut
  obtain ⟨w3, rfl⟩ : ∃ x : World, x = wc := ⟨_, rfl⟩
  clear k0 k1 k2 k3 z0 z1 z2 z3
  obtain ⟨k0, k1, k2, k3, z0, z1, z2, z3⟩ := hB3.opens
  dsimp only at k0 k1 k2 k3
  have H4 := Kp.mk hB3
  clear hB3
  obtain ⟨d1, hd1⟩ : ∃ v, v = rotL d 16 ^^^ c1 := ⟨_, rfl⟩
  have Xd1 := Kp.mk hd1
  clear hd1
  go_wp2
  go_cut [] from 37 to 49 (fun wx => SB w B ⟨a1, b1, c1, d1⟩ wx)
  case first =>
    go_region_with (go_at_call 101; refine (rot_any d 16 _ (by decide) (by decide)).mono ?_; rintro e w' ⟨rfl, rfl⟩)
    all_goals
      go_wp2
      go_meet
      rw [b_xor, ← Xd1.it]; first | exact (H4.it.set3 _).drew | exact H4.it.drew.set3 _ | exact H4.it.set3 _
  have hB4 := hcut
  clear hcut
  obtain ⟨w4, rfl⟩ : ∃ x : World, x = wc := ⟨_, rfl⟩
  clear k0 k1 k2 k3 z0 z1 z2 z3
  obtain ⟨k0, k1, k2, k3, z0, z1, z2, z3⟩ := hB4.opens
  dsimp only at k0 k1 k2 k3
  have H5 := Kp.mk hB4
  clear hB4
  obtain ⟨a2, ha2⟩ : ∃ v, v = rotL a1 32 := ⟨_, rfl⟩
  have Xa2 := Kp.mk ha2
  clear ha2
  go_wp2_with (go_at_call 101; refine (rot_any a1 32 _ (by decide) (by decide)).mono ?_; rintro e w' ⟨rfl, rfl⟩)
  refine wp_on (SB w B ⟨a2, b1, c1, d1⟩) (by rw [← Xa2.it]; first | exact (H5.it.set0 _).drew | exact H5.it.drew.set0 _ | exact H5.it.set0 _) (fun w5 hB5 => ?_)
  clear k0 k1 k2 k3 z0 z1 z2 z3
  obtain ⟨k0, k1, k2, k3, z0, z1, z2, z3⟩ := hB5.opens
  dsimp only at k0 k1 k2 k3
  have H6 := Kp.mk hB5
  clear hB5
  obtain ⟨c2, hc2⟩ : ∃ v, v = c1 + b1 := ⟨_, rfl⟩
  have Xc2 := Kp.mk hc2
  clear hc2
  go_region
  go_wp2
  refine wp_on (SB w B ⟨a2, b1, c2, d1⟩) (by (first | rw [b_add] | rw [b_add2]); rw [← Xc2.it]; first | exact (H6.it.set2 _).drew | exact H6.it.drew.set2 _ | exact H6.it.set2 _) (fun w6 hB6 => ?_)
  clear k0 k1 k2 k3 z0 z1 z2 z3
  obtain ⟨k0, k1, k2, k3, z0, z1, z2, z3⟩ := hB6.opens
  dsimp only at k0 k1 k2 k3
  have H7 := Kp.mk hB6
  clear hB6
  obtain ⟨a3, ha3⟩ : ∃ v, v = a2 + d1 := ⟨_, rfl⟩
  have Xa3 := Kp.mk ha3
  clear ha3
  go_region
  go_wp2
  refine wp_on (SB w B ⟨a3, b1, c2, d1⟩) (by (first | rw [b_add] | rw [b_add2]); rw [← Xa3.it]; first | exact (H7.it.set0 _).drew | exact H7.it.drew.set0 _ | exact H7.it.set0 _) (fun w7 hB7 => ?_)
  clear k0 k1 k2 k3 z0 z1 z2 z3
  obtain ⟨k0, k1, k2, k3, z0, z1, z2, z3⟩ := hB7.opens
  dsimp only at k0 k1 k2 k3
  have H8 := Kp.mk hB7
  clear hB7
  obtain ⟨b2, hb2⟩ : ∃ v, v = rotL b1 17 ^^^ c2 := ⟨_, rfl⟩
  have Xb2 := Kp.mk hb2
  clear hb2
  go_cut [] from 80 to 92 (fun wx => SB w B ⟨a3, b2, c2, d1⟩ wx)
  case first =>
    go_region_with (go_at_call 101; refine (rot_any b1 17 _ (by decide) (by decide)).mono ?_; rintro e w' ⟨rfl, rfl⟩)
    all_goals
      go_wp2
      go_meet
      rw [b_xor, ← Xb2.it]; first | exact (H8.it.set1 _).drew | exact H8.it.drew.set1 _ | exact H8.it.set1 _
  have hB8 := hcut
  clear hcut
  obtain ⟨w8, rfl⟩ : ∃ x : World, x = wc := ⟨_, rfl⟩
  clear k0 k1 k2 k3 z0 z1 z2 z3
  obtain ⟨k0, k1, k2, k3, z0, z1, z2, z3⟩ := hB8.opens
  dsimp only at k0 k1 k2 k3
  have H9 := Kp.mk hB8
  clear hB8
  obtain ⟨d2, hd2⟩ : ∃ v, v = rotL d1 21 ^^^ a3 := ⟨_, rfl⟩
  have Xd2 := Kp.mk hd2
  clear hd2
  go_wp2
  go_cut [] from 93 to 105 (fun wx => SB w B ⟨a3, b2, c2, d2⟩ wx)
  case first =>
    go_region_with (go_at_call 101; refine (rot_any d1 21 _ (by decide) (by decide)).mono ?_; rintro e w' ⟨rfl, rfl⟩)
    all_goals
      go_wp2
      go_meet
      rw [b_xor, ← Xd2.it]; first | exact (H9.it.set3 _).drew | exact H9.it.drew.set3 _ | exact H9.it.set3 _
  have hB9 := hcut
  clear hcut
  obtain ⟨w9, rfl⟩ : ∃ x : World, x = wc := ⟨_, rfl⟩
  clear k0 k1 k2 k3 z0 z1 z2 z3
  obtain ⟨k0, k1, k2, k3, z0, z1, z2, z3⟩ := hB9.opens
  dsimp only at k0 k1 k2 k3
  have H10 := Kp.mk hB9
  clear hB9
  obtain ⟨c3, hc3⟩ : ∃ v, v = rotL c2 32 := ⟨_, rfl⟩
  have Xc3 := Kp.mk hc3
  clear hc3
  go_wp2_with (go_at_call 101; refine (rot_any c2 32 _ (by decide) (by decide)).mono ?_; rintro e w' ⟨rfl, rfl⟩)
  have hm : St.mix ⟨a, b, c, d⟩ = ⟨a3, b2, c3, d2⟩ := by rw [Xc3.it, Xd2.it, Xb2.it, Xa3.it, Xc2.it, Xa2.it, Xd1.it, Xb1.it, Xc1.it, Xa1.it]; rfl
  go_end0
  rw [hm]
  exact ⟨rfl, by rw [← Xc3.it]; exact H10.it.set2 _⟩
end Go.Proofs.Ytcmkjoepndbicaa
