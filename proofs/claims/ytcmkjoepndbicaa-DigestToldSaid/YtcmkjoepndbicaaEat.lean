/-
  eat, rounds, word.
-/
import Derived.Test.YtcmkjoepndbicaaMix
namespace Go.Proofs.Ytcmkjoepndbicaa
open Go Go.RowKit

theorem MB.below {w : World} {B : Nat} {s : St} {wx wy : World} (h : MB w B s wx) (hb : Below wx.heap.size wx wy) : MB w B s wy :=
  ⟨by rw [hb.block _ (Array.getElem?_eq_some_iff.1 h.1).1]; exact h.1, by rw [hb.block _ (Array.getElem?_eq_some_iff.1 h.2.1).1]; exact h.2.1, h.2.2.1.trans (hb.mono h.2.2.1.size), h.2.2.2⟩
theorem MB.set4 {w : World} {B : Nat} {s : St} {wx : World} (h : MB w B s wx) (t : St) :
    MB w B t ((((wx.setCell ⟨B, 0, none⟩ (.int .u64 (t.a.toNat : Int))).setCell ⟨B, 1, none⟩ (.int .u64 (t.b.toNat : Int))).setCell ⟨B, 2, none⟩ (.int .u64 (t.c.toNat : Int))).setCell ⟨B, 3, none⟩ (.int .u64 (t.d.toNat : Int))) :=
  (((h.set0 t.a).set1 t.b).set2 t.c).set3 t.d
set_option maxHeartbeats 4000000 in
theorem eat_any (a b c d m : BitVec 64) (w : World) :
    Calls Try.prog 55 #[.agg #[.int .u64 (a.toNat : Int), .int .u64 (b.toNat : Int), .int .u64 (c.toNat : Int), .int .u64 (d.toNat : Int)], .int .u64 (m.toNat : Int)] w fun e w' =>
      e = .returned (.agg #[.int .u64 (((St.mk a b c d).eat m).a.toNat : Int), .int .u64 (((St.mk a b c d).eat m).b.toNat : Int), .int .u64 (((St.mk a b c d).eat m).c.toNat : Int), .int .u64 (((St.mk a b c d).eat m).d.toNat : Int)]) ∧ Below w.heap.size w w' := by
  obtain ⟨d', hd'⟩ : ∃ v, v = d ^^^ m := ⟨_, rfl⟩
  have XD := Kp.mk hd'
  clear hd'
  go_enter Try.func55, Try.ntmps55
  go_upto_region 1 with fail
  refine wp_on (MB w w.heap.size ⟨a, b, c, d⟩) ?_ (fun w0 hB => ?_)
  · exact ⟨(in4 _ _ _).1, (in4 _ _ _).2, ((Below.refl w.heap.size w).alloc (Nat.le_refl _) _).alloc (by rw [World.size_alloc]; omega) _, Nat.le_refl _⟩
  obtain ⟨k0, k1, k2, k3, z0, z1, z2, z3⟩ := hB.opens
  dsimp only at k0 k1 k2 k3
  have H1 := Kp.mk hB
  clear hB
  go_upto_region 2 with fail
  refine wp_on (MB w w.heap.size ⟨a, b, c, d'⟩) (by rw [b_xor, ← XD.it]; exact H1.it.set3 _) (fun w1 hB1 => ?_)
  clear k0 k1 k2 k3 z0 z1 z2 z3
  obtain ⟨k0, k1, k2, k3, z0, z1, z2, z3⟩ := hB1.opens
  dsimp only at k0 k1 k2 k3
  have H2 := Kp.mk hB1
  clear hB1
  go_wp2_with fail
  go_at_call 56
  refine (mix_any ⟨a, b, c, d'⟩ _).mono ?_
  rintro e wA ⟨rfl, hA⟩
  have HA : Kp (MB w w.heap.size ⟨a, b, c, d'⟩ wA) := ⟨H2.it.below hA⟩
  clear hA k0 k1 k2 k3 z0 z1 z2 z3
  go_wp2_with fail
  go_at_call 56
  refine (mix_any (St.mix ⟨a, b, c, d'⟩) _).mono ?_
  rintro e wB ⟨rfl, hA⟩
  have HB : Kp (MB w w.heap.size ⟨a, b, c, d'⟩ wB) := ⟨HA.it.below hA⟩
  clear hA
  obtain ⟨t, ht⟩ : ∃ t, t = (St.mix (St.mix ⟨a, b, c, d'⟩)) := ⟨_, rfl⟩
  rw [← ht]
  obtain ⟨k0, k1, k2, k3, z0, z1, z2, z3⟩ := HB.it.opens
  dsimp only at k0 k1 k2 k3
  have HT := Kp.mk ht
  obtain ⟨a', ha'⟩ : ∃ v, v = t.a ^^^ m := ⟨_, rfl⟩
  have XA := Kp.mk ha'
  clear ha'
  clear ht
  go_upto_region 3 with fail
  refine wp_on (MB w w.heap.size t) (HB.it.set4 t) (fun w2 hB2 => ?_)
  clear k0 k1 k2 k3 z0 z1 z2 z3
  obtain ⟨k0, k1, k2, k3, z0, z1, z2, z3⟩ := hB2.opens
  have H3 := Kp.mk hB2
  clear hB2
  go_upto_region 4 with fail
  refine wp_on (MB w w.heap.size ⟨a', t.b, t.c, t.d⟩) (by rw [b_xor, ← XA.it]; exact MB.set0 (a := t.a) (b := t.b) (c := t.c) (d := t.d) H3.it _) (fun w10 hB10 => ?_)
  clear k0 k1 k2 k3 z0 z1 z2 z3
  obtain ⟨k0, k1, k2, k3, z0, z1, z2, z3⟩ := hB10.opens
  dsimp only at k0 k1 k2 k3
  obtain ⟨r0, r1, r2, r3, s0, s1, s2, s3⟩ := hB10.res
  have H11 := Kp.mk hB10
  clear hB10
  have hm : St.eat ⟨a, b, c, d⟩ m = ⟨a', t.b, t.c, t.d⟩ := by rw [XA.it, HT.it, XD.it]; rfl
  go_wp2
  try simp only [Exit.inBlock, Exit.then]
  obtain ⟨w11, hw11⟩ : ∃ x : World, x = (((w10.setCell ⟨w.heap.size + 1, 0, none⟩ (Value.int IntKind.u64 ((a').toNat : Int))).setCell ⟨w.heap.size + 1, 1, none⟩ (Value.int IntKind.u64 (t.b.toNat : Int))).setCell ⟨w.heap.size + 1, 2, none⟩ (Value.int IntKind.u64 (t.c.toNat : Int))).setCell ⟨w.heap.size + 1, 3, none⟩ (Value.int IntKind.u64 (t.d.toNat : Int)) := ⟨_, rfl⟩
  rw [← hw11]
  have hB11 : w11.heap[w.heap.size + 1]? = some (.cells #[.int .u64 ((a').toNat : Int), .int .u64 (t.b.toNat : Int), .int .u64 (t.c.toNat : Int), .int .u64 (t.d.toNat : Int)] 105 (0, 0)) := by rw [hw11, blk_set _ (blk_set _ (blk_set _ (blk_set _ H11.it.2.1)))]; rfl
  have hb11 : Below w.heap.size w w11 := by rw [hw11]; exact (((H11.it.2.2.1.setCell (by show _ ≤ _ + 1; omega) _).setCell (by show _ ≤ _ + 1; omega) _).setCell (by show _ ≤ _ + 1; omega) _).setCell (by show _ ≤ _ + 1; omega) _
  have q0 : w11.cell? ⟨w.heap.size + 1, 0, none⟩ = some (.int .u64 ((a').toNat : Int)) := blk_cell hB11 rfl
  have q1 : w11.cell? ⟨w.heap.size + 1, 1, none⟩ = some (.int .u64 (t.b.toNat : Int)) := blk_cell hB11 rfl
  have q2 : w11.cell? ⟨w.heap.size + 1, 2, none⟩ = some (.int .u64 (t.c.toNat : Int)) := blk_cell hB11 rfl
  have q3 : w11.cell? ⟨w.heap.size + 1, 3, none⟩ = some (.int .u64 (t.d.toNat : Int)) := blk_cell hB11 rfl
  refine bodyPost_ret (v := .agg #[.int .u64 ((a').toNat : Int), .int .u64 (t.b.toNat : Int), .int .u64 (t.c.toNat : Int), .int .u64 (t.d.toNat : Int)]) ?_ rfl ?_
  · simp [results, go_sem, q0, q1, q2, q3]
  · rw [hm]
    exact ⟨rfl, hb11⟩

theorem rounds_any (s : St) (B n : Nat) (w w0 : World) (hB : SB w B s w0) (hn : n ≤ 8) :
    Calls Try.prog 54 #[.pointer (some ⟨B, 0, none⟩), .int .i64 (n : Int)] w0 fun e w' => e = .returned (.tuple #[]) ∧ SB w B (s.mixes n) w' := by
  have H := Kp.mk hB
  clear hB
  go_enter Try.func54, Try.ntmps54
  go_wp2
  go_loopw [5] (fun i wr => ∃ q : Nat, q ≤ n ∧ i = .int .i64 q ∧ Kp (SB w B (s.mixes q) wr)) (fun i _ => n - (intOf i).toNat)
  case atStart => exact ⟨0, by omega, rfl, H⟩
  case round =>
    obtain ⟨q, hq, rfl, H1⟩ := hrel
    by_cases hqn : q < n
    · have hd : decide ((q : Int) < (n : Int)) = true := by simp; omega
      go_wp2_with (go_at_call 79; refine (round_any _ B w _ H1.it).mono ?_; rintro e w' ⟨rfl, h2⟩)
      go_roundw
      case rel => exact ⟨q + 1, by omega, by go_num, ⟨h2⟩⟩
      case measure => simp [intOf]; omega
    · obtain rfl : q = n := by omega
      go_wp2
      go_end0
      exact ⟨rfl, H1.it⟩
end Go.Proofs.Ytcmkjoepndbicaa
