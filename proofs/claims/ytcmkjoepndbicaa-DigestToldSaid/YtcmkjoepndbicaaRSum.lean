/-
  The reference's Sum.
-/
import Derived.Test.YtcmkjoepndbicaaSum
namespace Go.Proofs.Ytcmkjoepndbicaa
open Go Go.RowKit

/-- The block B is the state s, and nothing else was written. -/
def SR (w : World) (B : Nat) (s : St) (wx : World) : Prop := wx.heap[B]? = some (.cells s.cells 105 (0, 0)) ∧ w.grownBy wx (some B)
theorem SR.opens {w : World} {B : Nat} {s : St} {wx : World} (h : SR w B s wx) :
    wx.cell? ⟨B, 0, none⟩ = some (.int .u64 (s.a.toNat : Int)) ∧ wx.cell? ⟨B, 1, none⟩ = some (.int .u64 (s.b.toNat : Int)) ∧ wx.cell? ⟨B, 2, none⟩ = some (.int .u64 (s.c.toNat : Int)) ∧ wx.cell? ⟨B, 3, none⟩ = some (.int .u64 (s.d.toNat : Int)) ∧
      wx.frozen? ⟨B, 0, none⟩ = false ∧ wx.frozen? ⟨B, 1, none⟩ = false ∧ wx.frozen? ⟨B, 2, none⟩ = false ∧ wx.frozen? ⟨B, 3, none⟩ = false :=
  ⟨blk_cell h.1 rfl, blk_cell h.1 rfl, blk_cell h.1 rfl, blk_cell h.1 rfl, blk_free h.1, blk_free h.1, blk_free h.1, blk_free h.1⟩
theorem SR.set2 {w : World} {B : Nat} {a b c d : BitVec 64} {wx : World} (h : SR w B ⟨a, b, c, d⟩ wx) (x : BitVec 64) : SR w B ⟨a, b, x, d⟩ (wx.setCell ⟨B, 2, none⟩ (.int .u64 (x.toNat : Int))) := ⟨by rw [blk_set _ h.1]; rfl, grown_set h.2 _ _⟩
theorem SR.set4 {w : World} {B : Nat} {s : St} {wx : World} (h : SR w B s wx) (t : St) :
    SR w B t ((((wx.setCell ⟨B, 0, none⟩ (.int .u64 (t.a.toNat : Int))).setCell ⟨B, 1, none⟩ (.int .u64 (t.b.toNat : Int))).setCell ⟨B, 2, none⟩ (.int .u64 (t.c.toNat : Int))).setCell ⟨B, 3, none⟩ (.int .u64 (t.d.toNat : Int))) :=
  ⟨by rw [blk_set _ (blk_set _ (blk_set _ (blk_set _ h.1)))]; rfl, grown_set (grown_set (grown_set (grown_set h.2 _ _) _ _) _ _) _ _⟩
theorem SR.past {w : World} {B : Nat} {s : St} {wx wy : World} (h : SR w B s wx) (hb : Below wx.heap.size wx wy) : SR w B s wy :=
  ⟨by rw [hb.block _ (Array.getElem?_eq_some_iff.1 h.1).1]; exact h.1, h.2.trans ⟨hb.os, hb.tape, hb.output, hb.size, fun k hk _ => hb.block k hk⟩⟩
theorem SR.below {w : World} {B : Nat} {s : St} {wx : World} (h : SR w B s wx) (hB : w.heap.size ≤ B) : Below w.heap.size w wx :=
  (Below.refl _ _).grown h.2 (Nat.le_refl _) (fun b hb => by cases hb; exact hB)
/-- The part of a block that the reference holds behind q bytes. -/
def part (bs : List UInt8) (q : Nat) : Nat := wordU ((bs.drop (8 * (q / 8))).take (q % 8))

theorem part_one (bs : List UInt8) (q : Nat) (hq : q < bs.length) : wordU ((bs.drop (8 * (q / 8))).take (q % 8 + 1)) = part bs q + (bs.getD q 0).toNat * 2 ^ (8 * (q % 8)) := by
  unfold part
  rw [wordU_succ _ _ (by rw [List.length_drop]; omega)]
  congr 3
  rw [List.getD_eq_getElem?_getD, List.getD_eq_getElem?_getD, List.getElem?_drop, show 8 * (q / 8) + q % 8 = q by omega]
theorem part_step (bs : List UInt8) (q : Nat) (hq : q < bs.length) (h7 : q % 8 ≠ 7) : part bs (q + 1) = part bs q + (bs.getD q 0).toNat * 2 ^ (8 * (q % 8)) := by
  rw [← part_one bs q hq]
  unfold part
  rw [show (q + 1) / 8 = q / 8 by omega, show (q + 1) % 8 = q % 8 + 1 by omega]
theorem part_lt (bs : List UInt8) (q : Nat) : part bs q < 2 ^ (8 * (q % 8)) := by
  have h := wordU_lt ((bs.drop (8 * (q / 8))).take (q % 8))
  rw [pow8] at h
  refine Nat.lt_of_lt_of_le h (Nat.pow_le_pow_right (by omega) ?_)
  rw [List.length_take]
  omega
theorem part_zero (bs : List UInt8) (q : Nat) (h : q % 8 = 0) : part bs q = 0 := by unfold part; rw [h]; rfl
theorem part_all (bs : List UInt8) : part bs bs.length = wordU (bs.drop (8 * (bs.length / 8))) := by
  unfold part
  rw [List.take_of_length_le (by rw [List.length_drop]; omega)]
theorem rv (M c P : Nat) (hM : M < P) (hc : c < 256) (hP : P ≤ 72057594037927936) : IntKind.u64.wrap ((M : Int) + IntKind.u64.wrap (IntKind.u64.wrap (c : Int) * (P : Int))) = ((M + c * P : Nat) : Int) := by
  have hK : c * P ≤ 255 * 72057594037927936 := Nat.mul_le_mul (by omega) hP
  rw [IntKind.wrap_u64, IntKind.wrap_u64, IntKind.wrap_u64, show (c : Int) % 18446744073709551616 = (c : Int) by omega, ← Int.natCast_mul]
  omega
theorem pw_le (q : Nat) : 2 ^ (8 * (q % 8)) ≤ 72057594037927936 := Nat.le_trans (Nat.pow_le_pow_right (by omega) (show 8 * (q % 8) ≤ 56 by omega)) (by decide)
set_option maxHeartbeats 4000000 in
set_option maxRecDepth 100000 in
theorem rsum_any (A : Option Addr) (n c : Nat) (bs : List UInt8) (ka kb : BitVec 64) (w : World) (h : Rb w A n bs) :
    Calls Try.prog 20 #[.agg #[.int .u64 (ka.toNat : Int), .int .u64 (kb.toNat : Int)], .slice A n c] w fun e w' => e = .returned (.int .u64 ((sumU ka kb bs).toNat : Int)) ∧ Below w.heap.size w w' := by
  have hbd := h.bd
  have HL := Kp.mk h.len
  have H := Kp.mk h
  clear h
  go_enter Try.func20, Try.ntmps20
  go_upto_region 2 with fail
  refine wp_on (SR w (w.heap.size + 1) (St.ini ka kb)) ?_ (fun w1 hB => ?_)
  · obtain ⟨e1, e2, e3, e4⟩ := b_ini ka kb
    rw [e1, e2, e3, e4]
    have hb : Below w.heap.size w ((w.alloc (Obj.cells #[Value.int IntKind.u64 (ka.toNat : Int), Value.int IntKind.u64 (kb.toNat : Int)] 24)).alloc (Obj.cells (St.ini ka kb).cells 105)) := ((Below.refl w.heap.size w).alloc (Nat.le_refl _) _).alloc (by rw [World.size_alloc]; omega) _
    exact ⟨(in4 _ _ _).2, ⟨hb.os, hb.tape, hb.output, hb.size, fun k hk _ => hb.block k hk⟩⟩
  have H1 := Kp.mk hB
  have HX : Kp (w.heap.size ≤ w.heap.size + 1) := ⟨by omega⟩
  clear hB
  obtain ⟨X, hX⟩ : ∃ X, X = w.heap.size + 1 := ⟨_, rfl⟩
  rw [← hX] at H1 HX ⊢
  clear hX
  obtain ⟨S0, hS0⟩ : ∃ S, S = St.ini ka kb := ⟨_, rfl⟩
  rw [← hS0] at H1
  have HS0 := Kp.mk hS0
  clear hS0
  go_wp2
  go_loopw [6, 7, 25] (fun a p i wr => ∃ q M P : Nat, q ≤ n ∧ i = .int .i64 q ∧ a = .int .u64 (M : Int) ∧ p = .int .u64 (P : Int) ∧ Kp (M = part bs q) ∧ Kp (P = 2 ^ (8 * (q % 8))) ∧ Kp (SR w X (blk8 S0 bs (q / 8)) wr)) (fun _ _ i _ => n - (intOf i).toNat)
  case atStart => exact ⟨0, 0, 1, by omega, rfl, rfl, rfl, ⟨rfl⟩, ⟨rfl⟩, H1⟩
  case round =>
    obtain ⟨q, M, P, hq, rfl, rfl, rfl, HM, HP, H2⟩ := hrel
    clear H1
    obtain ⟨S, hS⟩ : ∃ S, S = blk8 S0 bs (q / 8) := ⟨_, rfl⟩
    rw [← hS] at H2
    have HS := Kp.mk hS
    clear hS
    obtain ⟨sa, sb, sc, sd⟩ := S
    obtain ⟨k0, k1, k2, k3, z0, z1, z2, z3⟩ := H2.it.opens
    dsimp only at k0 k1 k2 k3
    by_cases hqn : q < n
    · obtain ⟨b1, o1, hA, _, f1⟩ := (H.it.below (H2.it.below HX.it)).get hqn
      cases hA
      have hd : decide ((q : Int) < (n : Int)) = true := by simp; omega
      by_cases h7 : q % 8 = 7
      · have hd7 : ((q : Int).tmod 8 == 7) = true := by rw [show (q : Int).tmod 8 = ((q % 8 : Nat) : Int) from rfl, h7]; rfl
        obtain ⟨mB, hmB⟩ : ∃ mB, mB = BitVec.ofNat 64 (wordU ((bs.drop (8 * (q / 8))).take 8)) := ⟨_, rfl⟩
        have hval : IntKind.u64.wrap ((M : Int) + IntKind.u64.wrap (IntKind.u64.wrap (byte bs q) * (P : Int))) = (mB.toNat : Int) := by
          have h1 := part_one bs q (by rw [HL.it]; exact hqn)
          have h2 := rv M (bs.getD q 0).toNat P (by rw [HM.it, HP.it]; exact part_lt bs q) (bs.getD q 0).toNat_lt (by rw [HP.it]; exact pw_le q)
          rw [show q % 8 + 1 = 8 by omega, ← HM.it, ← HP.it] at h1
          have h3 := wordU_lt ((bs.drop (8 * (q / 8))).take 8)
          have h4 : ((bs.drop (8 * (q / 8))).take 8).length ≤ 8 := by rw [List.length_take]; omega
          have h5 : 256 ^ ((bs.drop (8 * (q / 8))).take 8).length ≤ 256 ^ 8 := Nat.pow_le_pow_right (by omega) h4
          rw [hmB, ofN _ (by omega), h1]
          exact h2
        have HV := Kp.mk hval
        have HmB := Kp.mk hmB
        clear hval hmB
        go_wp2_with fail
        go_at_call 55
        rw [HV.it]
        refine (eat_any sa sb sc sd mB wr).mono ?_
        rintro e w2 ⟨rfl, hb2⟩
        have H3 := Kp.mk (H2.it.past hb2)
        clear hb2 k0 k1 k2 k3 z0 z1 z2 z3
        obtain ⟨k0, k1, k2, k3, z0, z1, z2, z3⟩ := H3.it.opens
        dsimp only at k0 k1 k2 k3
        obtain ⟨t, ht⟩ : ∃ t, t = (St.mk sa sb sc sd).eat mB := ⟨_, rfl⟩
        rw [← ht]
        have HT := Kp.mk ht
        clear ht
        go_upto_region 11 with fail
        refine wp_on (SR w X t) (H3.it.set4 t) (fun w4 h4 => ?_)
        have H4 := Kp.mk h4
        clear h4 k0 k1 k2 k3 z0 z1 z2 z3
        go_wp2
        go_roundw
        case rel =>
          refine ⟨q + 1, 0, 1, by omega, by go_num, rfl, rfl, ⟨(part_zero bs (q + 1) (by omega)).symm⟩, ⟨by rw [show (q + 1) % 8 = 0 by omega]⟩, ⟨?_⟩⟩
          rw [show (q + 1) / 8 = q / 8 + 1 by omega]
          show SR w X ((blk8 S0 bs (q / 8)).eat _) _
          rw [← HS.it, ← HmB.it, ← HT.it]
          exact H4.it
        case measure => simp [intOf]; omega
      · have hd7 : ((q : Int).tmod 8 == 7) = false := by rw [show (q : Int).tmod 8 = ((q % 8 : Nat) : Int) from rfl, beq_eq_false_iff_ne]; omega
        go_wp2
        go_roundw
        case rel =>
          refine ⟨q + 1, M + (bs.getD q 0).toNat * P, 256 * P, by omega, by go_num, ?_, ?_, ⟨?_⟩, ⟨?_⟩, ⟨?_⟩⟩
          · have h2 := rv M (bs.getD q 0).toNat P (by rw [HM.it, HP.it]; exact part_lt bs q) (bs.getD q 0).toNat_lt (by rw [HP.it]; exact pw_le q)
            rw [← h2]
            rfl
          · have hp : P ≤ 2 ^ 48 := by rw [HP.it]; exact Nat.pow_le_pow_right (by omega) (by omega)
            rw [IntKind.wrap_u64]
            congr 1
            omega
          · rw [part_step bs q (by rw [HL.it]; exact hqn) h7, HM.it, HP.it]
          · rw [HP.it, show (q + 1) % 8 = q % 8 + 1 by omega, show 8 * (q % 8 + 1) = 8 * (q % 8) + 8 by omega, Nat.pow_add]
            omega
          · rw [show (q + 1) / 8 = q / 8 by omega, ← HS.it]
            exact H2.it
        case measure => simp [intOf]; omega
    · obtain rfl : q = n := by omega
      obtain ⟨mB, hmB⟩ : ∃ mB, mB = BitVec.ofNat 64 (wordU (bs.drop (8 * (q / 8))) + q % 256 * 72057594037927936) := ⟨_, rfl⟩
      have hval : IntKind.u64.wrap ((M : Int) + (q : Int) % 256 * 72057594037927936) = (mB.toNat : Int) := by
        have h0 := part_lt bs q
        have h1 := pw_le q
        have h3 : part bs q = wordU (bs.drop (8 * (q / 8))) := by have := part_all bs; rwa [HL.it] at this
        have hM : M < 72057594037927936 := by rw [HM.it]; omega
        rw [hmB, ofN _ (by omega), ← h3, ← HM.it, IntKind.wrap_u64]
        omega
      have HV := Kp.mk hval
      have HmB := Kp.mk hmB
      clear hval hmB
      go_wp2_with fail
      go_at_call 55
      rw [HV.it]
      refine (eat_any sa sb sc sd mB wr).mono ?_
      rintro e w2 ⟨rfl, hb2⟩
      have H3 := Kp.mk (H2.it.past hb2)
      clear hb2 k0 k1 k2 k3 z0 z1 z2 z3
      obtain ⟨k0, k1, k2, k3, z0, z1, z2, z3⟩ := H3.it.opens
      dsimp only at k0 k1 k2 k3
      obtain ⟨t, ht⟩ : ∃ t, t = (St.mk sa sb sc sd).eat mB := ⟨_, rfl⟩
      rw [← ht]
      have HT := Kp.mk ht
      clear ht
      obtain ⟨ta, tb, tc, td⟩ := t
      go_upto_region 15 with fail
      refine wp_on (SR w X ⟨ta, tb, tc, td⟩) (H3.it.set4 _) (fun w4 h4 => ?_)
      clear k0 k1 k2 k3 z0 z1 z2 z3
      obtain ⟨k0, k1, k2, k3, z0, z1, z2, z3⟩ := h4.opens
      dsimp only at k0 k1 k2 k3
      have H4 := Kp.mk h4
      clear h4
      obtain ⟨c2, hc2⟩ : ∃ v, v = tc ^^^ 255#64 := ⟨_, rfl⟩
      have XC := Kp.mk hc2
      clear hc2
      go_upto_region 16 with fail
      refine wp_on (SR w X ⟨ta, tb, c2, td⟩) (by rw [show bits .xor .u64 (tc.toNat : Int) 255 = ((tc ^^^ 255#64).toNat : Int) from b_xor tc 255#64, ← XC.it]; exact H4.it.set2 _) (fun w6 h6 => ?_)
      clear k0 k1 k2 k3 z0 z1 z2 z3
      obtain ⟨k0, k1, k2, k3, z0, z1, z2, z3⟩ := h6.opens
      dsimp only at k0 k1 k2 k3
      have H6 := Kp.mk h6
      clear h6
      go_wp2_with fail
      clear k0 k1 k2 k3 z0 z1 z2 z3
      go_at_call 56
      refine (mix_any ⟨ta, tb, c2, td⟩ w6).mono ?_
      rintro e w7 ⟨rfl, hb7⟩
      have H7 := Kp.mk (H6.it.past hb7)
      clear hb7
      go_wp2_with fail
      go_at_call 56
      refine (mix_any (St.mix ⟨ta, tb, c2, td⟩) w7).mono ?_
      rintro e w8 ⟨rfl, hb8⟩
      have H8 := Kp.mk (H7.it.past hb8)
      clear hb8
      go_wp2_with fail
      go_at_call 56
      refine (mix_any (St.mix (St.mix ⟨ta, tb, c2, td⟩)) w8).mono ?_
      rintro e w9 ⟨rfl, hb9⟩
      have H9 := Kp.mk (H8.it.past hb9)
      clear hb9
      go_wp2_with fail
      go_at_call 56
      refine (mix_any (St.mix (St.mix (St.mix ⟨ta, tb, c2, td⟩))) w9).mono ?_
      rintro e w10 ⟨rfl, hb10⟩
      have H10 := Kp.mk (H9.it.past hb10)
      clear hb10
      obtain ⟨f, hf⟩ : ∃ f, f = St.mix (St.mix (St.mix (St.mix ⟨ta, tb, c2, td⟩))) := ⟨_, rfl⟩
      rw [← hf]
      have HF := Kp.mk hf
      clear hf
      have HE : Kp (sumU ka kb bs = f.a ^^^ f.b ^^^ f.c ^^^ f.d) := ⟨by
        unfold sumU
        rw [← HS0.it, HL.it, ← HS.it, ← HmB.it, ← HT.it]
        show ((St.mk ta tb (tc ^^^ 255#64) td).mixes 4).a ^^^ _ ^^^ _ ^^^ _ = _
        rw [← XC.it, HF.it]
        rfl⟩
      obtain ⟨fa, fb, fc, fd⟩ := f
      obtain ⟨k0, k1, k2, k3, z0, z1, z2, z3⟩ := H10.it.opens
      dsimp only at k0 k1 k2 k3
      go_upto_region 17 with fail
      refine wp_on (SR w X ⟨fa, fb, fc, fd⟩) (H10.it.set4 _) (fun w11 h11 => ?_)
      clear k0 k1 k2 k3 z0 z1 z2 z3
      obtain ⟨k0, k1, k2, k3, z0, z1, z2, z3⟩ := h11.opens
      dsimp only at k0 k1 k2 k3
      have HBL := Kp.mk (h11.below HX.it)
      clear h11
      go_wp2
      go_ret
      refine ⟨?_, HBL.it⟩
      rw [HE.it]
      show Ending.returned (Value.int .u64 (bits .xor .u64 (bits .xor .u64 (bits .xor .u64 (fa.toNat : Int) (fb.toNat : Int)) (fc.toNat : Int)) (fd.toNat : Int))) = _
      rw [b_xor, b_xor, b_xor]
end Go.Proofs.Ytcmkjoepndbicaa
