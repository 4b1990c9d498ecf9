/-
  The reference's Number, Signed, Text.
-/
import Derived.Test.YtcmkjoepndbicaaWir
namespace Go.Proofs.Ytcmkjoepndbicaa
open Go Go.RowKit

set_option maxRecDepth 100000 in
set_option maxHeartbeats 4000000 in
theorem rnumber_any (A : Option Addr) (n c : Nat) (bs : List UInt8) (N : Nat) (w : World) (h : Rb w A n bs) (e : A = none → c = 0) (hN : N < 9223372036854775808) (hn : n ≤ 140737488355319) :
    Calls Try.prog 60 #[.slice A n c, .int .i64 (N : Int)] w fun e w' => ∃ v, e = .returned v ∧ OwnB w' w.heap.size v (bs ++ numB N) ∧ Below w.heap.size w w' := by
  have hbd := h.bd
  have HL := Kp.mk h.len
  have H := Kp.mk h
  have E := Kp.mk e
  clear h e
  have hmax : max (N : Int) 0 = (N : Int) := by omega
  have H8 : Kp ((be N).length ≤ 8) := ⟨(be_len N 8).2 (by omega)⟩
  go_enter Try.func60, Try.ntmps60
  go_wp2
  go_loopw [1, 5] (fun x l wr => ∃ (m k : Nat) (suf : List UInt8) (A3 : Option Addr) (c3 : Nat), m ≤ N ∧ x = .int .i64 m ∧ l = .slice A3 k c3 ∧ k ≤ 8 ∧ Kp (suf.length = k) ∧ Kp (be N = be m ++ suf) ∧ Kp (A3 = none → c3 = 0) ∧ Kp (OwnB wr w.heap.size (.slice A3 k c3) suf) ∧ Kp (Rb wr A3 k suf) ∧ Kp (Below w.heap.size w wr)) (fun x _ _ => (intOf x).toNat)
  case atStart => exact ⟨N, 0, [], none, 0, by omega, rfl, rfl, by omega, ⟨rfl⟩, ⟨by simp⟩, ⟨fun _ => rfl⟩, ⟨OwnB.nil _ _⟩, ⟨⟨rfl, by decide, fun h => absurd h (by decide)⟩⟩, ⟨Below.refl _ _⟩⟩
  case round =>
    obtain ⟨m, k, suf, A3, c3, hm, rfl, rfl, hk8, HS, HE, HX, HO, HR, HB⟩ := hrel
    rcases Nat.eq_zero_or_pos m with h0 | h0
    · subst h0
      have hd : decide ((0 : Int) < ((0 : Nat) : Int)) = false := by decide
      have HQ : Kp (be N = suf) := ⟨by have := HE.it; rwa [be_zero, List.nil_append] at this⟩
      obtain ⟨KB, hKB⟩ : ∃ b, b = UInt8.ofNat k := ⟨_, rfl⟩
      have hwk : IntKind.u8.wrap (k : Int) = (KB.toNat : Int) := by rw [hKB, u8_wrap, Nat.mod_eq_of_lt (by omega)]
      have HKB := Kp.mk hKB
      clear hKB
      have HO0 : Kp (OwnB (wr.alloc (.cells #[] 5)) w.heap.size (.slice (some ⟨wr.heap.size, 0, none⟩) 0 0) []) := ⟨(ownB_empty wr).relax HB.it.size⟩
      have HB0 : Kp (Below w.heap.size w (wr.alloc (.cells #[] 5))) := ⟨HB.it.alloc HB.it.size _⟩
      have HR0 : Kp (Rb (wr.alloc (.cells #[] 5)) A n bs) := ⟨H.it.below HB0.it⟩
      have HR1 : Kp (Rb (wr.alloc (.cells #[] 5)) A3 k suf) := ⟨HR.it.below ((Below.refl _ _).alloc (Nat.le_refl _) _)⟩
      have HZ0 := Kp.mk HB0.it.size
      have HN0 : Kp (([] : List UInt8).length + bs.length ≤ 140737488355328) := ⟨by rw [HL.it]; simp; omega⟩
      have HN1 : Kp (([] ++ bs).length + 1 ≤ 140737488355328) := ⟨by rw [List.nil_append, HL.it]; omega⟩
      have HN2 : Kp (([] ++ bs ++ [KB]).length + suf.length ≤ 140737488355328) := ⟨by rw [List.nil_append, List.length_append, HL.it, HS.it]; simp; omega⟩
      have HG : Kp (∀ (wa wb : World) (o : Option Nat), Below wr.heap.size (wr.alloc (.cells #[] 5)) wa → wa.grownBy wb o → (∀ b, o = some b → wr.heap.size ≤ b) → Below wr.heap.size (wr.alloc (.cells #[] 5)) wb) := ⟨fun wa wb o h1 h2 h3 => h1.grown h2 (by have := h1.size; simp at this; omega) h3⟩
      have HO0' := Kp.mk (ownB_empty wr)
      have HZ0' : Kp (wr.heap.size ≤ (wr.alloc (.cells #[] 5)).heap.size) := ⟨by simp⟩
      go_wp2_with (first
        | (refine app_bs rfl (.tmp 18) (.tmp 19) rfl wr.heap.size _ [] A n c bs rfl rfl HO0'.it HR0.it E.it HZ0'.it HN0.it ?_; intro v1 w1 ho1 hg1; have O1 := Kp.mk ho1; have B1 := Kp.mk (below_ownB (Below.refl wr.heap.size (wr.alloc (.cells #[] 5))) HZ0'.it HO0'.it (Nat.le_refl _) hg1); have Z1 : Kp (wr.heap.size ≤ w1.heap.size) := ⟨by have h7 := B1.it.size; have h8 := HZ0'.it; omega⟩; clear ho1 hg1)
        | (refine app_b1 rfl (.tmp 20) (.tmp 24) rfl wr.heap.size v1 _ _ KB rfl rfl rfl O1.it Z1.it HN1.it ?_; intro v2 w2 ho2 hg2; have O2 := Kp.mk ho2; have B2 := Kp.mk (below_ownB B1.it Z1.it O1.it (Nat.le_refl _) hg2); have Z2 : Kp (wr.heap.size ≤ w2.heap.size) := ⟨by have h7 := B2.it.size; have h8 := HZ0'.it; omega⟩; have R2 : Kp (Rb w2 A3 k suf) := ⟨HR.it.below (((Below.refl wr.heap.size wr).alloc (Nat.le_refl _) _).trans B2.it)⟩; clear ho2 hg2)
        | (refine app_bs rfl (.tmp 25) (.tmp 26) rfl wr.heap.size v2 _ A3 k c3 suf rfl rfl O2.it R2.it HX.it Z2.it HN2.it ?_; intro v3 w3 ho3 hg3; have O3 := Kp.mk ho3; have B3 := Kp.mk (below_ownB B2.it Z2.it O2.it (Nat.le_refl _) hg3); clear ho3 hg3))
      go_ret
      refine ⟨_, rfl, ?_, ?_⟩
      · have := O3.it.relax HB.it.size
        rw [List.nil_append, List.append_assoc] at this
        unfold numB
        rw [HQ.it, HS.it, ← HKB.it]
        exact this
      · exact HB.it.trans ((((Below.refl wr.heap.size wr).alloc (Nat.le_refl _) _).trans B3.it).mono HB.it.size)
    · have hd : decide ((0 : Int) < (m : Int)) = true := by simp; omega
      obtain ⟨q, hq⟩ : ∃ q : Nat, q = m / 256 := ⟨_, rfl⟩
      have hq1 : (m : Int) / 256 = (q : Int) := by rw [hq]; exact (Int.natCast_ediv m 256).symm
      have HQ := Kp.mk hq
      have hqm : q < m := by omega
      clear hq
      obtain ⟨CB, hCB⟩ : ∃ b, b = UInt8.ofNat (m % 256) := ⟨_, rfl⟩
      have hwc : IntKind.u8.wrap ((m : Int) % 256) = (CB.toNat : Int) := by rw [hCB, show (m : Int) % 256 = ((m % 256 : Nat) : Int) by omega, u8_wrap, Nat.mod_mod]
      have HE2 : Kp (be N = be q ++ ([CB] ++ suf)) := ⟨by rw [HE.it, be_pos h0, HQ.it, hCB, List.append_assoc]⟩
      have hk9 : k + 1 ≤ 8 := by
        have h1 := H8.it
        rw [HE2.it, List.length_append, List.length_append, HS.it] at h1
        simp at h1
        omega
      have HO1 : Kp (OwnB (wr.alloc (.cells #[.int .u8 (CB.toNat : Int)] 5)) wr.heap.size (.slice (some ⟨wr.heap.size, 0, none⟩) 1 1) [CB]) := ⟨ownB_one wr CB⟩
      have HR1 : Kp (Rb (wr.alloc (.cells #[.int .u8 (CB.toNat : Int)] 5)) A3 k suf) := ⟨HR.it.below ((Below.refl _ _).alloc (Nat.le_refl _) _)⟩
      have HZ1 : Kp (wr.heap.size ≤ (wr.alloc (.cells #[.int .u8 (CB.toNat : Int)] 5)).heap.size) := ⟨by simp⟩
      have HN1 : Kp ([CB].length + suf.length ≤ 140737488355328) := ⟨by rw [HS.it]; simp; omega⟩
      have HB1 : Kp (Below w.heap.size w (wr.alloc (.cells #[.int .u8 (CB.toNat : Int)] 5))) := ⟨HB.it.alloc HB.it.size _⟩
      clear hCB
      go_wp2_with (refine app_bs rfl (.tmp 15) (.tmp 16) rfl wr.heap.size _ [CB] A3 k c3 suf rfl rfl HO1.it HR1.it HX.it HZ1.it HN1.it ?_; intro v4 w4 ho4 hg4; have O4 := Kp.mk ho4; have B4 := Kp.mk (below_ownB HB1.it HB1.it.size HO1.it HB.it.size hg4); clear ho4 hg4)
      have HS2 : Kp (([CB] ++ suf).length = k + 1) := ⟨by rw [List.length_append, HS.it]; simp; omega⟩
      obtain ⟨A4, c4, hv4, hx4, _, hr4⟩ := (O4.it.relax HB.it.size).form (by rw [HS2.it]; omega)
      rw [HS2.it] at hv4 hr4
      subst hv4
      have R4 := Kp.mk hr4
      clear hr4
      go_roundw
      case rel => exact ⟨q, k + 1, [CB] ++ suf, A4, c4, by omega, by go_num, rfl, hk9, HS2, HE2, ⟨hx4⟩, ⟨O4.it.relax HB.it.size⟩, R4, B4⟩
      case measure => simp [intOf]; omega
set_option maxRecDepth 100000 in
set_option maxHeartbeats 4000000 in
theorem rsigned_any (A : Option Addr) (n c : Nat) (bs : List UInt8) (x : Int) (u : Nat) (w : World) (h : Rb w A n bs) (e : A = none → c = 0) (hu : IntKind.u64.wrap x = (u : Int)) (hn : n ≤ 140737488355319) :
    Calls Try.prog 61 #[.slice A n c, .int .i64 x] w fun e w' => ∃ v, e = .returned v ∧ OwnB w' w.heap.size v (bs ++ sgB u) ∧ Below w.heap.size w w' := by
  have hbd := h.bd
  have HL := Kp.mk h.len
  have H := Kp.mk h
  have E := Kp.mk e
  have hu0 : u < 18446744073709551616 := by rw [IntKind.wrap_u64] at hu; omega
  clear h e
  go_enter Try.func61, Try.ntmps61
  go_wp2
  go_loopw [5, 6, 9] (fun l z i wr => ∃ (k m : Nat) (A3 : Option Addr) (c3 : Nat), k ≤ 8 ∧ i = .int .i64 k ∧ z = .int .u64 (m : Int) ∧ l = .slice A3 k c3 ∧ m < 18446744073709551616 ∧ Kp (m = u / 256 ^ k) ∧ Kp (A3 = none → c3 = 0) ∧ Kp (OwnB wr w.heap.size (.slice A3 k c3) ((sgB u).drop (8 - k))) ∧ Kp (Rb wr A3 k ((sgB u).drop (8 - k))) ∧ Kp (Below w.heap.size w wr)) (fun _ _ i _ => 8 - (intOf i).toNat)
  case atStart => exact ⟨0, u, none, 0, by omega, rfl, rfl, rfl, hu0, ⟨by simp⟩, ⟨fun _ => rfl⟩, ⟨by rw [List.drop_of_length_le (by rw [sgB_len]; omega)]; exact OwnB.nil _ _⟩, ⟨by rw [List.drop_of_length_le (by rw [sgB_len]; omega)]; exact ⟨rfl, by decide, fun h => absurd h (by decide)⟩⟩, ⟨Below.refl _ _⟩⟩
  case round =>
    obtain ⟨k, m, A3, c3, hk8, rfl, rfl, rfl, hm, HM, HX, HO, HR, HB⟩ := hrel
    by_cases h8 : k < 8
    · have hd : decide ((k : Int) < 8) = true := by simp; omega
      obtain ⟨q, hq⟩ : ∃ q : Nat, q = m / 256 := ⟨_, rfl⟩
      have hq1 : (m : Int) / 256 = (q : Int) := by rw [hq]; exact (Int.natCast_ediv m 256).symm
      have HQ : Kp (q = u / 256 ^ (k + 1)) := ⟨by rw [hq, HM.it, Nat.div_div_eq_div_mul, Nat.pow_succ]⟩
      have hq0 : q < 18446744073709551616 := by omega
      clear hq
      obtain ⟨CB, hCB⟩ : ∃ b, b = UInt8.ofNat (m % 256) := ⟨_, rfl⟩
      have hwc : IntKind.u8.wrap ((m : Int) % 256) = (CB.toNat : Int) := by rw [hCB, show (m : Int) % 256 = ((m % 256 : Nat) : Int) by omega, u8_wrap, Nat.mod_mod]
      obtain ⟨suf, hsuf⟩ : ∃ s, s = (sgB u).drop (8 - k) := ⟨_, rfl⟩
      have HE : Kp ((sgB u).drop (8 - (k + 1)) = [CB] ++ suf) := ⟨by rw [show 8 - (k + 1) = 7 - k by omega, sgB_drop u (by omega), ← HM.it, ← hCB, ← hsuf]; rfl⟩
      have HS : Kp (suf.length = k) := ⟨by rw [hsuf, List.length_drop, sgB_len]; omega⟩
      rw [← hsuf] at HO HR
      clear hCB hsuf
      have HO1 : Kp (OwnB (wr.alloc (.cells #[.int .u8 (CB.toNat : Int)] 5)) wr.heap.size (.slice (some ⟨wr.heap.size, 0, none⟩) 1 1) [CB]) := ⟨ownB_one wr CB⟩
      have HR1 : Kp (Rb (wr.alloc (.cells #[.int .u8 (CB.toNat : Int)] 5)) A3 k suf) := ⟨HR.it.below ((Below.refl _ _).alloc (Nat.le_refl _) _)⟩
      have HZ1 : Kp (wr.heap.size ≤ (wr.alloc (.cells #[.int .u8 (CB.toNat : Int)] 5)).heap.size) := ⟨by simp⟩
      have HN1 : Kp ([CB].length + suf.length ≤ 140737488355328) := ⟨by rw [HS.it]; simp; omega⟩
      have HB1 : Kp (Below w.heap.size w (wr.alloc (.cells #[.int .u8 (CB.toNat : Int)] 5))) := ⟨HB.it.alloc HB.it.size _⟩
      go_wp2_with (refine app_bs rfl (.tmp 14) (.tmp 15) rfl wr.heap.size _ [CB] A3 k c3 suf rfl rfl HO1.it HR1.it HX.it HZ1.it HN1.it ?_; intro v4 w4 ho4 hg4; have O4 := Kp.mk ho4; have B4 := Kp.mk (below_ownB HB1.it HB1.it.size HO1.it HB.it.size hg4); clear ho4 hg4)
      have HS2 : Kp (([CB] ++ suf).length = k + 1) := ⟨by rw [List.length_append, HS.it]; simp; omega⟩
      obtain ⟨A4, c4, hv4, hx4, _, hr4⟩ := (O4.it.relax HB.it.size).form (by rw [HS2.it]; omega)
      rw [HS2.it] at hv4 hr4
      subst hv4
      have R4 := Kp.mk hr4
      clear hr4
      go_roundw
      case rel => exact ⟨k + 1, q, A4, c4, by omega, by go_num, rfl, rfl, hq0, HQ, ⟨hx4⟩, ⟨by rw [HE.it]; exact O4.it.relax HB.it.size⟩, ⟨by rw [HE.it]; exact R4.it⟩, B4⟩
      case measure => simp [intOf]; omega
    · obtain rfl : k = 8 := by omega
      have hd : decide (((8 : Nat) : Int) < 8) = false := by decide
      rw [Nat.sub_self, List.drop_zero] at HO HR
      have HO0' := Kp.mk (ownB_empty wr)
      have HB0 : Kp (Below w.heap.size w (wr.alloc (.cells #[] 5))) := ⟨HB.it.alloc HB.it.size _⟩
      have HR0 : Kp (Rb (wr.alloc (.cells #[] 5)) A n bs) := ⟨H.it.below HB0.it⟩
      have HZ0' : Kp (wr.heap.size ≤ (wr.alloc (.cells #[] 5)).heap.size) := ⟨by simp⟩
      have HN0 : Kp (([] : List UInt8).length + bs.length ≤ 140737488355328) := ⟨by rw [HL.it]; simp; omega⟩
      have HN2 : Kp (([] ++ bs).length + (sgB u).length ≤ 140737488355328) := ⟨by rw [List.nil_append, HL.it, sgB_len]; omega⟩
      go_wp2_with (first
        | (refine app_bs rfl (.tmp 20) (.tmp 21) rfl wr.heap.size _ [] A n c bs rfl rfl HO0'.it HR0.it E.it HZ0'.it HN0.it ?_; intro v1 w1 ho1 hg1; have O1 := Kp.mk ho1; have B1 := Kp.mk (below_ownB (Below.refl wr.heap.size (wr.alloc (.cells #[] 5))) HZ0'.it HO0'.it (Nat.le_refl _) hg1); have Z1 : Kp (wr.heap.size ≤ w1.heap.size) := ⟨by have h7 := B1.it.size; have h8 := HZ0'.it; omega⟩; have R1 : Kp (Rb w1 A3 8 (sgB u)) := ⟨HR.it.below (((Below.refl wr.heap.size wr).alloc (Nat.le_refl _) _).trans B1.it)⟩; clear ho1 hg1)
        | (refine app_bs rfl (.tmp 22) (.tmp 23) rfl wr.heap.size v1 _ A3 8 c3 (sgB u) rfl rfl O1.it R1.it HX.it Z1.it HN2.it ?_; intro v3 w3 ho3 hg3; have O3 := Kp.mk ho3; have B3 := Kp.mk (below_ownB B1.it Z1.it O1.it (Nat.le_refl _) hg3); clear ho3 hg3))
      go_ret
      refine ⟨_, rfl, ?_, ?_⟩
      · have := O3.it.relax HB.it.size
        rw [List.nil_append] at this
        exact this
      · exact HB.it.trans ((((Below.refl wr.heap.size wr).alloc (Nat.le_refl _) _).trans B3.it).mono HB.it.size)
set_option maxRecDepth 100000 in
set_option maxHeartbeats 4000000 in
theorem rtext_any (A : Option Addr) (n c : Nat) (bs : List UInt8) (s : ByteArray) (w : World) (h : Rb w A n bs) (e : A = none → c = 0) (hs : n + s.size + 9 ≤ 140737488355328) :
    Calls Try.prog 58 #[.slice A n c, .string s] w fun e w' => ∃ v, e = .returned v ∧ OwnB w' w.heap.size v (bs ++ txtB s) ∧ Below w.heap.size w w' := by
  have HL := Kp.mk h.len
  have HM := Kp.mk (rnumber_any A n c bs s.size w h e (by omega) (by omega))
  clear h e
  go_enter Try.func58, Try.ntmps58
  go_wp2_with fail
  go_at_call 60
  refine HM.it.mono ?_
  rintro e w1 ⟨v1, rfl, ho1, hb1⟩
  have O1 := Kp.mk ho1
  have B1 := Kp.mk hb1
  have Z1 := Kp.mk hb1.size
  have HN : Kp ((bs ++ numB s.size).length + s.size ≤ 140737488355328) := ⟨by have := numB_len s.size (by omega); rw [List.length_append, HL.it]; omega⟩
  clear ho1 hb1 HM
  go_wp2_with (refine app_str rfl (.tmp 8) (.tmp 9) rfl w.heap.size v1 _ s rfl rfl O1.it Z1.it HN.it ?_; intro v4 w4 ho4 hg4; have O4 := Kp.mk ho4; have B4 := Kp.mk (below_ownB B1.it B1.it.size O1.it (Nat.le_refl _) hg4); clear ho4 hg4)
  go_ret
  refine ⟨_, rfl, ?_, B4.it⟩
  have := O4.it
  rw [List.append_assoc] at this
  exact this
end Go.Proofs.Ytcmkjoepndbicaa
