/-
  The reference's mix.
-/
import Derived.Test.YtcmkjoepndbicaaDigW
namespace Go.Proofs.Ytcmkjoepndbicaa
open Go Go.RowKit

/-- Block X is the state s, the next one is the result's, and nothing old was written. -/
def MB (w : World) (X : Nat) (s : St) (wx : World) : Prop := wx.heap[X]? = some (.cells s.cells 105 (0, 0)) ∧ wx.heap[X + 1]? = some (.cells #[.int .u64 0, .int .u64 0, .int .u64 0, .int .u64 0] 105 (0, 0)) ∧ Below w.heap.size w wx ∧ w.heap.size ≤ X
theorem MB.opens {w : World} {B : Nat} {s : St} {wx : World} (h : MB w B s wx) :
    wx.cell? ⟨B, 0, none⟩ = some (.int .u64 (s.a.toNat : Int)) ∧ wx.cell? ⟨B, 1, none⟩ = some (.int .u64 (s.b.toNat : Int)) ∧ wx.cell? ⟨B, 2, none⟩ = some (.int .u64 (s.c.toNat : Int)) ∧ wx.cell? ⟨B, 3, none⟩ = some (.int .u64 (s.d.toNat : Int)) ∧
      wx.frozen? ⟨B, 0, none⟩ = false ∧ wx.frozen? ⟨B, 1, none⟩ = false ∧ wx.frozen? ⟨B, 2, none⟩ = false ∧ wx.frozen? ⟨B, 3, none⟩ = false :=
  ⟨blk_cell h.1 rfl, blk_cell h.1 rfl, blk_cell h.1 rfl, blk_cell h.1 rfl, blk_free h.1, blk_free h.1, blk_free h.1, blk_free h.1⟩
theorem MB.res {w : World} {B : Nat} {s : St} {wx : World} (h : MB w B s wx) :
    wx.cell? ⟨B + 1, 0, none⟩ = some (.int .u64 0) ∧ wx.cell? ⟨B + 1, 1, none⟩ = some (.int .u64 0) ∧ wx.cell? ⟨B + 1, 2, none⟩ = some (.int .u64 0) ∧ wx.cell? ⟨B + 1, 3, none⟩ = some (.int .u64 0) ∧
      wx.frozen? ⟨B + 1, 0, none⟩ = false ∧ wx.frozen? ⟨B + 1, 1, none⟩ = false ∧ wx.frozen? ⟨B + 1, 2, none⟩ = false ∧ wx.frozen? ⟨B + 1, 3, none⟩ = false :=
  ⟨blk_cell h.2.1 rfl, blk_cell h.2.1 rfl, blk_cell h.2.1 rfl, blk_cell h.2.1 rfl, blk_free h.2.1, blk_free h.2.1, blk_free h.2.1, blk_free h.2.1⟩
theorem MB.drew {w : World} {B : Nat} {s : St} {wx : World} (h : MB w B s wx) : MB w B s wx.drew := ⟨h.1, h.2.1, h.2.2.1.trans ⟨rfl, rfl, rfl, Nat.le_refl _, fun _ _ => rfl⟩, h.2.2.2⟩
theorem MB.set0 {w : World} {B : Nat} {a b c d : BitVec 64} {wx : World} (h : MB w B ⟨a, b, c, d⟩ wx) (x : BitVec 64) : MB w B ⟨x, b, c, d⟩ (wx.setCell ⟨B, 0, none⟩ (.int .u64 (x.toNat : Int))) :=
  ⟨by rw [blk_set _ h.1]; rfl, by rw [other_block _ _ _ (show B + 1 ≠ B by omega)]; exact h.2.1, h.2.2.1.setCell (by exact h.2.2.2) _, h.2.2.2⟩
theorem MB.set1 {w : World} {B : Nat} {a b c d : BitVec 64} {wx : World} (h : MB w B ⟨a, b, c, d⟩ wx) (x : BitVec 64) : MB w B ⟨a, x, c, d⟩ (wx.setCell ⟨B, 1, none⟩ (.int .u64 (x.toNat : Int))) :=
  ⟨by rw [blk_set _ h.1]; rfl, by rw [other_block _ _ _ (show B + 1 ≠ B by omega)]; exact h.2.1, h.2.2.1.setCell (by exact h.2.2.2) _, h.2.2.2⟩
theorem MB.set2 {w : World} {B : Nat} {a b c d : BitVec 64} {wx : World} (h : MB w B ⟨a, b, c, d⟩ wx) (x : BitVec 64) : MB w B ⟨a, b, x, d⟩ (wx.setCell ⟨B, 2, none⟩ (.int .u64 (x.toNat : Int))) :=
  ⟨by rw [blk_set _ h.1]; rfl, by rw [other_block _ _ _ (show B + 1 ≠ B by omega)]; exact h.2.1, h.2.2.1.setCell (by exact h.2.2.2) _, h.2.2.2⟩
theorem MB.set3 {w : World} {B : Nat} {a b c d : BitVec 64} {wx : World} (h : MB w B ⟨a, b, c, d⟩ wx) (x : BitVec 64) : MB w B ⟨a, b, c, x⟩ (wx.setCell ⟨B, 3, none⟩ (.int .u64 (x.toNat : Int))) :=
  ⟨by rw [blk_set _ h.1]; rfl, by rw [other_block _ _ _ (show B + 1 ≠ B by omega)]; exact h.2.1, h.2.2.1.setCell (by exact h.2.2.2) _, h.2.2.2⟩
theorem in4 (w : World) (o1 o2 : Obj) : ((w.alloc o1).alloc o2).heap[w.heap.size]? = some o1 ∧ ((w.alloc o1).alloc o2).heap[w.heap.size + 1]? = some o2 := by
  have e : ((w.alloc o1).alloc o2).heap = (w.heap.push o1).push o2 := by
    first | rfl | simp [World.alloc_eq]
  rw [e]
  constructor
  · rw [Array.getElem?_push, if_neg (by simp), Array.getElem?_push, if_pos rfl]
  · rw [Array.getElem?_push, if_pos (by simp)]
abbrev St.v (s : St) : Value := .agg #[.int .u64 (s.a.toNat : Int), .int .u64 (s.b.toNat : Int), .int .u64 (s.c.toNat : Int), .int .u64 (s.d.toNat : Int)]
set_option maxHeartbeats 4000000 in
theorem mix_any (s : St) (w : World) :
    Calls Try.prog 56 #[.agg #[.int .u64 (s.a.toNat : Int), .int .u64 (s.b.toNat : Int), .int .u64 (s.c.toNat : Int), .int .u64 (s.d.toNat : Int)]] w fun e w' => e = .returned (.agg #[.int .u64 (s.mix.a.toNat : Int), .int .u64 (s.mix.b.toNat : Int), .int .u64 (s.mix.c.toNat : Int), .int .u64 (s.mix.d.toNat : Int)]) ∧ Below w.heap.size w w' := by
  obtain ⟨a, b, c, d⟩ := s
  dsimp only
  go_enter Try.func56, Try.ntmps56
  refine wp_on (fun wx => wx = w) rfl ?_
  intro wx hx
  subst hx
  go_upto_region 1 with fail
  refine wp_on (MB wx wx.heap.size ⟨a, b, c, d⟩) ?_ (fun w0 hB => ?_)
  · exact ⟨(in4 _ _ _).1, (in4 _ _ _).2, ((Below.refl wx.heap.size wx).alloc (Nat.le_refl _) _).alloc (by rw [World.size_alloc]; omega) _, Nat.le_refl _⟩
  obtain ⟨k0, k1, k2, k3, z0, z1, z2, z3⟩ := hB.opens
  dsimp only at k0 k1 k2 k3
  have H1 := Kp.mk hB
  clear hB
  obtain ⟨a1, ha1⟩ : ∃ v, v = a + b := ⟨_, rfl⟩
  have Xa1 := Kp.mk ha1
  clear ha1
  go_upto_region 2 with fail
  refine wp_on (MB wx wx.heap.size ⟨a1, b, c, d⟩) (by (first | rw [b_add] | rw [b_add2]); rw [← Xa1.it]; first | exact (H1.it.set0 _).drew | exact H1.it.drew.set0 _ | exact H1.it.set0 _) (fun w1 hB1 => ?_)
  clear k0 k1 k2 k3 z0 z1 z2 z3
  obtain ⟨k0, k1, k2, k3, z0, z1, z2, z3⟩ := hB1.opens
  dsimp only at k0 k1 k2 k3
  have H2 := Kp.mk hB1
  clear hB1
  obtain ⟨b1, hb1⟩ : ∃ v, v = rotL b 13 ^^^ a1 := ⟨_, rfl⟩
  have Xb1 := Kp.mk hb1
  clear hb1
  go_cut [] from 9 to 15 (fun wy => MB wx wx.heap.size ⟨a1, b1, c, d⟩ wy)
  case first =>
    go_region_with (go_at_call 80; refine (turn_any b 13 _ (by decide)).mono ?_; rintro e w' ⟨rfl, rfl⟩; rw [turns_eq _ _ (by decide) (by decide)])
    all_goals
      go_wp2
      go_meet
      rw [b_xor, ← Xb1.it]; first | exact (H2.it.set1 _).drew | exact H2.it.drew.set1 _ | exact H2.it.set1 _
  have hB2 := hcut
  clear hcut
  obtain ⟨w2, rfl⟩ : ∃ x : World, x = wc := ⟨_, rfl⟩
  clear k0 k1 k2 k3 z0 z1 z2 z3
  obtain ⟨k0, k1, k2, k3, z0, z1, z2, z3⟩ := hB2.opens
  dsimp only at k0 k1 k2 k3
  have H3 := Kp.mk hB2
  clear hB2
  obtain ⟨a2, ha2⟩ : ∃ v, v = rotL a1 32 := ⟨_, rfl⟩
  have Xa2 := Kp.mk ha2
  clear ha2
  go_upto_region 4 with (go_at_call 80; refine (turn_any a1 32 _ (by decide)).mono ?_; rintro e w' ⟨rfl, rfl⟩; rw [turns_eq _ _ (by decide) (by decide)])
  refine wp_on (MB wx wx.heap.size ⟨a2, b1, c, d⟩) (by rw [← Xa2.it]; first | exact (H3.it.set0 _).drew | exact H3.it.drew.set0 _ | exact H3.it.set0 _) (fun w3 hB3 => ?_)
  clear k0 k1 k2 k3 z0 z1 z2 z3
  obtain ⟨k0, k1, k2, k3, z0, z1, z2, z3⟩ := hB3.opens
  dsimp only at k0 k1 k2 k3
  have H4 := Kp.mk hB3
  clear hB3
  obtain ⟨c1, hc1⟩ : ∃ v, v = c + d := ⟨_, rfl⟩
  have Xc1 := Kp.mk hc1
  clear hc1
  go_upto_region 5 with fail
  refine wp_on (MB wx wx.heap.size ⟨a2, b1, c1, d⟩) (by (first | rw [b_add] | rw [b_add2]); rw [← Xc1.it]; first | exact (H4.it.set2 _).drew | exact H4.it.drew.set2 _ | exact H4.it.set2 _) (fun w4 hB4 => ?_)
  clear k0 k1 k2 k3 z0 z1 z2 z3
  obtain ⟨k0, k1, k2, k3, z0, z1, z2, z3⟩ := hB4.opens
  dsimp only at k0 k1 k2 k3
  have H5 := Kp.mk hB4
  clear hB4
  obtain ⟨d1, hd1⟩ : ∃ v, v = rotL d 16 ^^^ c1 := ⟨_, rfl⟩
  have Xd1 := Kp.mk hd1
  clear hd1
  go_cut [] from 26 to 32 (fun wy => MB wx wx.heap.size ⟨a2, b1, c1, d1⟩ wy)
  case first =>
    go_region_with (go_at_call 80; refine (turn_any d 16 _ (by decide)).mono ?_; rintro e w' ⟨rfl, rfl⟩; rw [turns_eq _ _ (by decide) (by decide)])
    all_goals
      go_wp2
      go_meet
      rw [b_xor, ← Xd1.it]; first | exact (H5.it.set3 _).drew | exact H5.it.drew.set3 _ | exact H5.it.set3 _
  have hB5 := hcut
  clear hcut
  obtain ⟨w5, rfl⟩ : ∃ x : World, x = wc := ⟨_, rfl⟩
  clear k0 k1 k2 k3 z0 z1 z2 z3
  obtain ⟨k0, k1, k2, k3, z0, z1, z2, z3⟩ := hB5.opens
  dsimp only at k0 k1 k2 k3
  have H6 := Kp.mk hB5
  clear hB5
  obtain ⟨a3, ha3⟩ : ∃ v, v = a2 + d1 := ⟨_, rfl⟩
  have Xa3 := Kp.mk ha3
  clear ha3
  go_upto_region 7 with fail
  refine wp_on (MB wx wx.heap.size ⟨a3, b1, c1, d1⟩) (by (first | rw [b_add] | rw [b_add2]); rw [← Xa3.it]; first | exact (H6.it.set0 _).drew | exact H6.it.drew.set0 _ | exact H6.it.set0 _) (fun w6 hB6 => ?_)
  clear k0 k1 k2 k3 z0 z1 z2 z3
  obtain ⟨k0, k1, k2, k3, z0, z1, z2, z3⟩ := hB6.opens
  dsimp only at k0 k1 k2 k3
  have H7 := Kp.mk hB6
  clear hB6
  obtain ⟨d2, hd2⟩ : ∃ v, v = rotL d1 21 ^^^ a3 := ⟨_, rfl⟩
  have Xd2 := Kp.mk hd2
  clear hd2
  go_cut [] from 39 to 45 (fun wy => MB wx wx.heap.size ⟨a3, b1, c1, d2⟩ wy)
  case first =>
    go_region_with (go_at_call 80; refine (turn_any d1 21 _ (by decide)).mono ?_; rintro e w' ⟨rfl, rfl⟩; rw [turns_eq _ _ (by decide) (by decide)])
    all_goals
      go_wp2
      go_meet
      rw [b_xor, ← Xd2.it]; first | exact (H7.it.set3 _).drew | exact H7.it.drew.set3 _ | exact H7.it.set3 _
  have hB7 := hcut
  clear hcut
  obtain ⟨w7, rfl⟩ : ∃ x : World, x = wc := ⟨_, rfl⟩
  clear k0 k1 k2 k3 z0 z1 z2 z3
  obtain ⟨k0, k1, k2, k3, z0, z1, z2, z3⟩ := hB7.opens
  dsimp only at k0 k1 k2 k3
  have H8 := Kp.mk hB7
  clear hB7
  obtain ⟨c2, hc2⟩ : ∃ v, v = c1 + b1 := ⟨_, rfl⟩
  have Xc2 := Kp.mk hc2
  clear hc2
  go_upto_region 9 with fail
  refine wp_on (MB wx wx.heap.size ⟨a3, b1, c2, d2⟩) (by (first | rw [b_add] | rw [b_add2]); rw [← Xc2.it]; first | exact (H8.it.set2 _).drew | exact H8.it.drew.set2 _ | exact H8.it.set2 _) (fun w8 hB8 => ?_)
  clear k0 k1 k2 k3 z0 z1 z2 z3
  obtain ⟨k0, k1, k2, k3, z0, z1, z2, z3⟩ := hB8.opens
  dsimp only at k0 k1 k2 k3
  have H9 := Kp.mk hB8
  clear hB8
  obtain ⟨b2, hb2⟩ : ∃ v, v = rotL b1 17 ^^^ c2 := ⟨_, rfl⟩
  have Xb2 := Kp.mk hb2
  clear hb2
  go_cut [] from 52 to 58 (fun wy => MB wx wx.heap.size ⟨a3, b2, c2, d2⟩ wy)
  case first =>
    go_region_with (go_at_call 80; refine (turn_any b1 17 _ (by decide)).mono ?_; rintro e w' ⟨rfl, rfl⟩; rw [turns_eq _ _ (by decide) (by decide)])
    all_goals
      go_wp2
      go_meet
      rw [b_xor, ← Xb2.it]; first | exact (H9.it.set1 _).drew | exact H9.it.drew.set1 _ | exact H9.it.set1 _
  have hB9 := hcut
  clear hcut
  obtain ⟨w9, rfl⟩ : ∃ x : World, x = wc := ⟨_, rfl⟩
  clear k0 k1 k2 k3 z0 z1 z2 z3
  obtain ⟨k0, k1, k2, k3, z0, z1, z2, z3⟩ := hB9.opens
  dsimp only at k0 k1 k2 k3
  have H10 := Kp.mk hB9
  clear hB9
  obtain ⟨c3, hc3⟩ : ∃ v, v = rotL c2 32 := ⟨_, rfl⟩
  have Xc3 := Kp.mk hc3
  clear hc3
  go_upto_region 11 with (go_at_call 80; refine (turn_any c2 32 _ (by decide)).mono ?_; rintro e w' ⟨rfl, rfl⟩; rw [turns_eq _ _ (by decide) (by decide)])
  refine wp_on (MB wx wx.heap.size ⟨a3, b2, c3, d2⟩) (by rw [← Xc3.it]; first | exact (H10.it.set2 _).drew | exact H10.it.drew.set2 _ | exact H10.it.set2 _) (fun w10 hB10 => ?_)
  clear k0 k1 k2 k3 z0 z1 z2 z3
  obtain ⟨k0, k1, k2, k3, z0, z1, z2, z3⟩ := hB10.opens
  dsimp only at k0 k1 k2 k3
  obtain ⟨r0, r1, r2, r3, s0, s1, s2, s3⟩ := hB10.res
  have H11 := Kp.mk hB10
  clear hB10
  have hm : St.mix ⟨a, b, c, d⟩ = ⟨a3, b2, c3, d2⟩ := by rw [Xc3.it, Xb2.it, Xc2.it, Xd2.it, Xa3.it, Xd1.it, Xc1.it, Xa2.it, Xb1.it, Xa1.it]; rfl
  go_wp2
  clear Xc3 Xb2 Xc2 Xd2 Xa3 Xd1 Xc1 Xa2 Xb1 Xa1 H1 H2 H3 H4 H5 H6 H7 H8 H9 H10
  try simp only [Exit.inBlock, Exit.then]
  obtain ⟨w11, hw11⟩ : ∃ x : World, x = (((w10.setCell ⟨wx.heap.size + 1, 0, none⟩ (Value.int IntKind.u64 (a3.toNat : Int))).setCell ⟨wx.heap.size + 1, 1, none⟩ (Value.int IntKind.u64 (b2.toNat : Int))).setCell ⟨wx.heap.size + 1, 2, none⟩ (Value.int IntKind.u64 (c3.toNat : Int))).setCell ⟨wx.heap.size + 1, 3, none⟩ (Value.int IntKind.u64 (d2.toNat : Int)) := ⟨_, rfl⟩
  rw [← hw11]
  have hB11 : w11.heap[wx.heap.size + 1]? = some (.cells #[.int .u64 (a3.toNat : Int), .int .u64 (b2.toNat : Int), .int .u64 (c3.toNat : Int), .int .u64 (d2.toNat : Int)] 105 (0, 0)) := by rw [hw11, blk_set _ (blk_set _ (blk_set _ (blk_set _ H11.it.2.1)))]; rfl
  have hb11 : Below wx.heap.size wx w11 := by rw [hw11]; exact (((H11.it.2.2.1.setCell (by show _ ≤ _ + 1; omega) _).setCell (by show _ ≤ _ + 1; omega) _).setCell (by show _ ≤ _ + 1; omega) _).setCell (by show _ ≤ _ + 1; omega) _
  have q0 : w11.cell? ⟨wx.heap.size + 1, 0, none⟩ = some (.int .u64 (a3.toNat : Int)) := blk_cell hB11 rfl
  have q1 : w11.cell? ⟨wx.heap.size + 1, 1, none⟩ = some (.int .u64 (b2.toNat : Int)) := blk_cell hB11 rfl
  have q2 : w11.cell? ⟨wx.heap.size + 1, 2, none⟩ = some (.int .u64 (c3.toNat : Int)) := blk_cell hB11 rfl
  have q3 : w11.cell? ⟨wx.heap.size + 1, 3, none⟩ = some (.int .u64 (d2.toNat : Int)) := blk_cell hB11 rfl
  refine bodyPost_ret (v := .agg #[.int .u64 (a3.toNat : Int), .int .u64 (b2.toNat : Int), .int .u64 (c3.toNat : Int), .int .u64 (d2.toNat : Int)]) ?_ rfl ?_
  · simp [results, go_sem, q0, q1, q2, q3]
  · rw [hm]
    exact ⟨rfl, hb11⟩
end Go.Proofs.Ytcmkjoepndbicaa
