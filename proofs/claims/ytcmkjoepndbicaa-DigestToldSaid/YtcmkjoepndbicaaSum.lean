/-
  digest.Sum.
-/
import Derived.Test.YtcmkjoepndbicaaWord
namespace Go.Proofs.Ytcmkjoepndbicaa
open Go Go.RowKit

theorem byte_take {bs : List UInt8} {k j : Nat} (h : j < k) : byte (bs.take k) j = byte bs j := by
  unfold byte; rw [List.getD_eq_getElem?_getD, List.getD_eq_getElem?_getD, List.getElem?_take, if_pos h]
theorem byte_drop {bs : List UInt8} {k j : Nat} : byte (bs.drop k) j = byte bs (k + j) := by
  unfold byte; rw [List.getD_eq_getElem?_getD, List.getD_eq_getElem?_getD, List.getElem?_drop]
theorem Rb.take {w : World} {A : Option Addr} {n : Nat} {bs : List UInt8} (h : Rb w A n bs) {k : Nat} (hk : k ≤ n) : Rb w A k (bs.take k) :=
  ⟨by rw [List.length_take, h.len]; omega, by have := h.bd; omega, fun h0 => by
    obtain ⟨b, o, e, hlt, hc⟩ := h.cells (by omega)
    exact ⟨b, o, e, hlt, fun j hj => by rw [byte_take hj]; exact hc j (by omega)⟩⟩
theorem Rb.drop {w : World} {A : Option Addr} {n c : Nat} {bs : List UInt8} (h : Rb w A n bs) {k : Nat} (hk : k ≤ n) (hc : n ≤ c) : Rb w (if c = k then A else A.map (·.add k)) (n - k) (bs.drop k) :=
  ⟨by rw [List.length_drop, h.len], by have := h.bd; omega, fun h0 => by
    obtain ⟨b, o, e, hlt, hcl⟩ := h.cells (by omega)
    refine ⟨b, o + k, ?_, hlt, fun j hj => by rw [byte_drop, Nat.add_assoc]; exact hcl (k + j) (by omega)⟩
    rw [if_neg (by omega), e]
    simp [Addr.add]⟩

/-- The state behind j blocks of eight. -/
def blk8 (s : St) (bs : List UInt8) : Nat → St
  | 0 => s
  | j + 1 => (blk8 s bs j).eat (BitVec.ofNat 64 (wordU ((bs.drop (8 * j)).take 8)))
/-- The digest of bytes. -/
def sumU (ka kb : BitVec 64) (bs : List UInt8) : BitVec 64 :=
  ((blk8 (St.ini ka kb) bs (bs.length / 8)).eat (BitVec.ofNat 64 (wordU (bs.drop (8 * (bs.length / 8))) + bs.length % 256 * 72057594037927936))).fin
theorem ofN (n : Nat) (h : n < 18446744073709551616) : (((BitVec.ofNat 64 n).toNat : Nat) : Int) = (n : Int) := by
  rw [BitVec.toNat_ofNat, Nat.mod_eq_of_lt (by omega)]
theorem SB.below {w : World} {B : Nat} {s : St} {wx : World} (h : SB w B s wx) (hB : w.heap.size ≤ B) : Below w.heap.size w wx :=
  (Below.refl _ _).grown h.2 (Nat.le_refl _) (fun b hb => by cases hb; exact hB)

theorem b_ini (ka kb : BitVec 64) : bits .xor .u64 (ka.toNat : Int) 8317987319222330741 = ((St.ini ka kb).a.toNat : Int) ∧ bits .xor .u64 (kb.toNat : Int) 7237128888997146477 = ((St.ini ka kb).b.toNat : Int) ∧ bits .xor .u64 (ka.toNat : Int) 7816392313619706465 = ((St.ini ka kb).c.toNat : Int) ∧ bits .xor .u64 (kb.toNat : Int) 8387220255154660723 = ((St.ini ka kb).d.toNat : Int) :=
  ⟨b_xor ka 8317987319222330741#64, b_xor kb 7237128888997146477#64, b_xor ka 7816392313619706465#64, b_xor kb 8387220255154660723#64⟩
theorem or_len (x n : Nat) (hx : x < 72057594037927936) : bits .or .u64 (x : Int) (IntKind.u64.wrap ((n : Int) * 72057594037927936)) = ((x + n % 256 * 72057594037927936 : Nat) : Int) := by
  rw [IntKind.wrap_u64, show ((n : Int) * 72057594037927936 % 18446744073709551616) = ((n % 256 * 72057594037927936 : Nat) : Int) by omega, bits_or_u64_nat _ _ (by omega) (by omega)]
  have := Nat.two_pow_add_eq_or_of_lt (i := 56) (b := x) (by omega) (n % 256)
  rw [Nat.or_comm, show n % 256 * 72057594037927936 = 2 ^ 56 * (n % 256) by omega, ← this]
  omega
def lenV : Value → Nat
  | .slice _ n _ => n
  | _ => 0
set_option maxHeartbeats 4000000 in
set_option maxRecDepth 100000 in
theorem sum_any (A : Option Addr) (n c : Nat) (bs : List UInt8) (ka kb : BitVec 64) (w : World) (h : Rb w A n bs) (hc : n ≤ c) :
    Calls Try.prog 19 #[.agg #[.int .u64 (ka.toNat : Int), .int .u64 (kb.toNat : Int)], .slice A n c] w fun e w' => e = .returned (.int .u64 ((sumU ka kb bs).toNat : Int)) ∧ Below w.heap.size w w' := by
  have hbd := h.bd
  have HL := Kp.mk h.len
  have H := Kp.mk h
  clear h
  go_enter Try.func19, Try.ntmps19
  go_upto_region 2 with fail
  refine wp_on (SB w (w.heap.size + 1) (St.ini ka kb)) ?_ (fun w1 hB => ?_)
  · obtain ⟨e1, e2, e3, e4⟩ := b_ini ka kb
    rw [e1, e2, e3, e4]
    have hb : Below w.heap.size w ((w.alloc (Obj.cells #[Value.int IntKind.u64 (ka.toNat : Int), Value.int IntKind.u64 (kb.toNat : Int)] 24)).alloc (Obj.cells (St.ini ka kb).cells 102)) := ((Below.refl w.heap.size w).alloc (Nat.le_refl _) _).alloc (by rw [World.size_alloc]; omega) _
    exact ⟨(in4 _ _ _).2, ⟨hb.os, hb.tape, hb.output, hb.size, fun k hk _ => hb.block k hk⟩⟩
  have H1 := Kp.mk hB
  have HX : Kp (w.heap.size ≤ w.heap.size + 1) := ⟨by omega⟩
  clear hB
  obtain ⟨X, hX⟩ : ∃ X, X = w.heap.size + 1 := ⟨_, rfl⟩
  rw [← hX] at H1 HX ⊢
  clear hX
  obtain ⟨S0, hS0⟩ : ∃ S, S = St.ini ka kb := ⟨_, rfl⟩
  rw [← hS0] at H1
  have HS0 := Kp.mk hS0
  clear hS0
  go_wp2
  go_loopw [1] (fun a wr => ∃ (j : Nat) (A' : Option Addr) (c' : Nat), 8 * j ≤ n ∧ a = .slice A' (n - 8 * j) c' ∧ n - 8 * j ≤ c' ∧ Kp (Rb w A' (n - 8 * j) (bs.drop (8 * j))) ∧ Kp (SB w X (blk8 S0 bs j) wr)) (fun a _ => lenV a)
  case atStart => exact ⟨0, A, c, by omega, rfl, by omega, H, H1⟩
  case round =>
    obtain ⟨j, A', c', hj, rfl, hc', G, H2⟩ := hrel
    clear H1
    obtain ⟨m, hm⟩ : ∃ m, m = n - 8 * j := ⟨_, rfl⟩
    rw [← hm] at G hc' ⊢
    have hmn : m ≤ n := by omega
    have HM := Kp.mk hm
    clear hm
    obtain ⟨S, hS⟩ : ∃ S, S = blk8 S0 bs j := ⟨_, rfl⟩
    rw [← hS] at H2
    have HS := Kp.mk hS
    clear hS
    obtain ⟨sa, sb, sc, sd⟩ := S
    obtain ⟨k0, k1, k2, k3, z0, z1, z2, z3⟩ := H2.it.opens
    dsimp only at k0 k1 k2 k3
    by_cases hm8 : 8 ≤ m
    · have hd : decide ((8 : Int) ≤ (m : Int)) = true := by simp; omega
      have hc8 : 8 ≤ c' := by omega
      obtain ⟨mB, hmB⟩ : ∃ mB, mB = BitVec.ofNat 64 (wordU ((bs.drop (8 * j)).take 8)) := ⟨_, rfl⟩
      have hW : Kp (∀ w2, Rb w2 A' m (bs.drop (8 * j)) → Calls Try.prog 53 #[.slice A' 8 c'] w2 fun e w' => e = .returned (.int .u64 (mB.toNat : Int)) ∧ w' = w2) := ⟨fun w2 hr => by
        have := word_any A' 8 c' _ w2 (hr.take hm8) (by omega)
        have hl := wordU_lt ((bs.drop (8 * j)).take 8)
        rw [(hr.take hm8).len] at hl
        rwa [← ofN _ (by omega), ← hmB] at this⟩
      have HmB := Kp.mk hmB
      clear hmB
      go_wp2_with fail
      go_at_call 53
      refine (hW.it wr (G.it.below (H2.it.below HX.it))).mono ?_
      rintro e w2 ⟨rfl, rfl⟩
      obtain ⟨d', hd'⟩ : ∃ v, v = sd ^^^ mB := ⟨_, rfl⟩
      have XD := Kp.mk hd'
      clear hd'
      go_upto_region 7 with fail
      refine wp_on (SB w X ⟨sa, sb, sc, d'⟩) (by rw [b_xor, ← XD.it]; first | exact H2.it.set3 _ | exact (H2.it.set3 _).drew) (fun w3 h3 => ?_)
      have H3 := Kp.mk h3
      clear h3 k0 k1 k2 k3 z0 z1 z2 z3
      go_upto_region 8 with (go_at_call 54; refine (rounds_any _ X 2 w _ H3.it (by decide)).mono ?_; rintro e w4 ⟨rfl, h4⟩)
      have H4 := Kp.mk h4
      clear h4
      obtain ⟨t, ht⟩ : ∃ t, t = (St.mk sa sb sc d').mixes 2 := ⟨_, rfl⟩
      rw [← ht] at H4
      have HT := Kp.mk ht
      clear ht
      obtain ⟨ta, tb, tc, td⟩ := t
      obtain ⟨k0, k1, k2, k3, z0, z1, z2, z3⟩ := H4.it.opens
      dsimp only at k0 k1 k2 k3
      obtain ⟨a', ha'⟩ : ∃ v, v = ta ^^^ mB := ⟨_, rfl⟩
      have XA := Kp.mk ha'
      clear ha'
      go_upto_region 4 with fail
      refine wp_on (SB w X ⟨a', tb, tc, td⟩) (by rw [b_xor, ← XA.it]; first | exact H4.it.set0 _ | exact (H4.it.set0 _).drew) (fun w5 h5 => ?_)
      have H5 := Kp.mk h5
      clear h5 k0 k1 k2 k3 z0 z1 z2 z3
      have HE : Kp (blk8 S0 bs (j + 1) = ⟨a', tb, tc, td⟩) := ⟨by
        show (blk8 S0 bs j).eat _ = _
        rw [← HS.it, ← HmB.it]
        show St.mk (((St.mk sa sb sc (sd ^^^ mB)).mixes 2).a ^^^ mB) _ _ _ = _
        rw [← XD.it, ← HT.it, XA.it]⟩
      go_wp2
      go_round
      case rel =>
        refine ⟨j + 1, (if c' = 8 then A' else A'.map (·.add 8)), c' - 8, by have := HM.it; omega, ?_, by have := HM.it; omega, ⟨?_⟩, ⟨by rw [HE.it]; exact H5.it⟩⟩
        · rw [show n - 8 * (j + 1) = m - 8 by have := HM.it; omega]
          rfl
        · have := G.it.drop hm8 hc'
          rw [List.drop_drop] at this
          rw [show n - 8 * (j + 1) = m - 8 by have := HM.it; omega, show 8 * (j + 1) = 8 * j + 8 by omega]
          exact this
      case measure => simp [lenV]; omega
    · have HQ : Kp (j = bs.length / 8) := ⟨by rw [HL.it]; have := HM.it; omega⟩
      have hd : decide ((8 : Int) ≤ (m : Int)) = false := by rw [decide_eq_false_iff_not]; omega
      obtain ⟨mB, hmB⟩ : ∃ mB, mB = BitVec.ofNat 64 (wordU (bs.drop (8 * j)) + n % 256 * 72057594037927936) := ⟨_, rfl⟩
      have hl : wordU (bs.drop (8 * j)) < 72057594037927936 := by
        have h1 := wordU_lt (bs.drop (8 * j))
        rw [G.it.len] at h1
        have : 256 ^ m ≤ 256 ^ 7 := Nat.pow_le_pow_right (by omega) (by omega)
        omega
      have HmB := Kp.mk hmB
      have hor : bits .or .u64 ((wordU (bs.drop (8 * j)) : Nat) : Int) (IntKind.u64.wrap ((n : Int) * 72057594037927936)) = (mB.toNat : Int) := by rw [hmB, ofN _ (by omega)]; exact or_len _ n hl
      have HOR := Kp.mk hor
      clear hmB hor
      have hwn : IntKind.u64.wrap (n : Int) = (n : Int) := by rw [IntKind.wrap_u64]; omega
      go_wp2_with fail
      go_at_call 53
      refine (word_any A' m c' _ _ (G.it.below (H2.it.below HX.it)) (by omega)).mono ?_
      rintro e w2 ⟨rfl, rfl⟩
      obtain ⟨N, hN⟩ : ∃ N, N = wordU (bs.drop (8 * j)) := ⟨_, rfl⟩
      rw [← hN] at HOR ⊢
      clear hN hl
      go_upto_region 10 with fail
      have HOR' := HOR.it
      rw [HOR']
      obtain ⟨d', hd'⟩ : ∃ v, v = sd ^^^ mB := ⟨_, rfl⟩
      have XD := Kp.mk hd'
      clear hd'
      go_upto_region 11 with fail
      refine wp_on (SB w X ⟨sa, sb, sc, d'⟩) (by rw [b_xor, ← XD.it]; first | exact H2.it.set3 _ | exact (H2.it.set3 _).drew) (fun w3 h3 => ?_)
      have H3 := Kp.mk h3
      clear h3 k0 k1 k2 k3 z0 z1 z2 z3
      go_upto_region 12 with (go_at_call 54; refine (rounds_any _ X 2 w _ H3.it (by decide)).mono ?_; rintro e w4 ⟨rfl, h4⟩)
      have H4 := Kp.mk h4
      clear h4
      obtain ⟨t, ht⟩ : ∃ t, t = (St.mk sa sb sc d').mixes 2 := ⟨_, rfl⟩
      rw [← ht] at H4
      have HT := Kp.mk ht
      clear ht
      obtain ⟨ta, tb, tc, td⟩ := t
      obtain ⟨k0, k1, k2, k3, z0, z1, z2, z3⟩ := H4.it.opens
      dsimp only at k0 k1 k2 k3
      obtain ⟨a', ha'⟩ : ∃ v, v = ta ^^^ mB := ⟨_, rfl⟩
      have XA := Kp.mk ha'
      clear ha'
      go_upto_region 13 with fail
      refine wp_on (SB w X ⟨a', tb, tc, td⟩) (by rw [b_xor, ← XA.it]; first | exact H4.it.set0 _ | exact (H4.it.set0 _).drew) (fun w5 h5 => ?_)
      have H5 := Kp.mk h5
      clear k0 k1 k2 k3 z0 z1 z2 z3
      obtain ⟨k0, k1, k2, k3, z0, z1, z2, z3⟩ := h5.opens
      clear h5
      dsimp only at k0 k1 k2 k3
      obtain ⟨c2, hc2⟩ : ∃ v, v = tc ^^^ 255#64 := ⟨_, rfl⟩
      have XC := Kp.mk hc2
      clear hc2
      go_upto_region 14 with fail
      refine wp_on (SB w X ⟨a', tb, c2, td⟩) (by rw [show bits .xor .u64 (tc.toNat : Int) 255 = ((tc ^^^ 255#64).toNat : Int) from b_xor tc 255#64, ← XC.it]; first | exact H5.it.set2 _ | exact (H5.it.set2 _).drew) (fun w6 h6 => ?_)
      have H6 := Kp.mk h6
      clear h6 k0 k1 k2 k3 z0 z1 z2 z3
      go_upto_region 15 with (go_at_call 54; refine (rounds_any _ X 4 w _ H6.it (by decide)).mono ?_; rintro e w7 ⟨rfl, h7⟩)
      have H7 := Kp.mk h7
      clear h7
      obtain ⟨f, hf⟩ : ∃ f, f = (St.mk a' tb c2 td).mixes 4 := ⟨_, rfl⟩
      rw [← hf] at H7
      have HF := Kp.mk hf
      clear hf
      have HE : Kp (sumU ka kb bs = f.a ^^^ f.b ^^^ f.c ^^^ f.d) := ⟨by
        unfold sumU
        rw [← HQ.it, ← HS0.it, ← HS.it, HL.it, ← HmB.it]
        show St.fin (St.mk (((St.mk sa sb sc (sd ^^^ mB)).mixes 2).a ^^^ mB) _ _ _) = _
        rw [← XD.it, ← HT.it, ← XA.it]
        show ((St.mk a' tb (tc ^^^ 255#64) td).mixes 4).a ^^^ _ ^^^ _ ^^^ _ = _
        rw [← XC.it, ← HF.it]⟩
      obtain ⟨fa, fb, fc, fd⟩ := f
      obtain ⟨k0, k1, k2, k3, z0, z1, z2, z3⟩ := H7.it.opens
      dsimp only at k0 k1 k2 k3
      have HBL := Kp.mk (H7.it.below HX.it)
      go_wp2
      go_ret
      refine ⟨?_, HBL.it⟩
      rw [HE.it]
      show Ending.returned (Value.int .u64 (bits .xor .u64 (bits .xor .u64 (bits .xor .u64 (fa.toNat : Int) (fb.toNat : Int)) (fc.toNat : Int)) (fd.toNat : Int))) = _
      rw [b_xor, b_xor, b_xor]
end Go.Proofs.Ytcmkjoepndbicaa
