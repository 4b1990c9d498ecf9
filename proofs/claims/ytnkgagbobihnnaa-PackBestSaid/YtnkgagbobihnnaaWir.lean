/-
  wire: Number, Signed, Text.
-/
import Derived.Test.YtnkgagbobihnnaaOwb
namespace Go.Proofs.Ytnkgagbobihnnaa
open Go Go.RowKit

theorem made_size (n : Nat) : (madeCells #[.int .u8 0] n).size = n := by
  rw [← Array.length_toList, toList_madeCells_one, List.length_replicate]
theorem make_bytes (x : Int) (m : Nat) (hx : x = (m : Int)) (hm : m ≤ 140737488355328) (w : World) : (Instr.makeSlice 29 (.int .i64 0) (.int .i64 x)).run Try.prog w = .ok (.slice (some ⟨w.heap.size, 0, none⟩) 0 m) (w.alloc (.cells (madeCells #[.int .u8 0] m) 5)) := by
  subst hx
  obtain ⟨i0, hi, hz0, hz1, hz2⟩ := info_parts Try.info5'
  have hr := run_make (P := Try.prog) w 29 5 i0 (.int .u8 0) Try.underlying29 hi hz0 .i64 .i64 0 m (by omega) (by omega) (by rw [hz2]; omega) (by omega)
  simp only [Int.toNat_natCast, hz1, Nat.mul_one] at hr
  exact hr
theorem shr256 (N k : Nat) : (N : Int) / 2 ^ (8 * k) = ((N / 256 ^ k : Nat) : Int) := by
  rw [show (2 : Int) ^ (8 * k) = ((256 ^ k : Nat) : Int) by rw [Int.pow_mul, Int.natCast_pow, show (2 : Int) ^ 8 = ((256 : Nat) : Int) from rfl]]
  exact (Int.natCast_ediv _ _).symm
theorem u8_wrap (x : Nat) : IntKind.u8.wrap (x : Int) = ((UInt8.ofNat (x % 256)).toNat : Int) := by
  rw [u8_of (Nat.mod_lt _ (by omega)), IntKind.wrap_u8]
  omega
theorem shr_pos {N k : Nat} (h : k < (be N).length) : decide ((0 : Int) < (N : Int) / 2 ^ (8 * k)) = true := by
  rw [shr256, decide_eq_true_eq]
  have h1 : ¬ N < 256 ^ k := fun h2 => by have := (be_len N k).2 h2; omega
  have := Nat.div_pos (Nat.le_of_not_lt h1) (Nat.pow_pos (n := k) (by omega : 0 < 256))
  exact Int.natCast_pos.2 this
theorem shr_zero {N k : Nat} (h : (be N).length ≤ k) : decide ((0 : Int) < (N : Int) / 2 ^ (8 * k)) = false := by
  rw [shr256, Nat.div_eq_of_lt ((be_len N k).1 h)]
  rfl
set_option maxRecDepth 100000 in
set_option maxHeartbeats 4000000 in
theorem number_any (A : Option Addr) (n c : Nat) (bs : List UInt8) (N : Nat) (w : World) (h : Rb w A n bs) (e : A = none → c = 0) (hN : N < 9223372036854775808) (hn : n ≤ 140737488355319) :
    Calls Try.prog 62 #[.slice A n c, .int .i64 (N : Int)] w fun e w' => ∃ v, e = .returned v ∧ OwnB w' w.heap.size v (bs ++ numB N) ∧ Below w.heap.size w w' := by
  have hbd := h.bd
  have HL := Kp.mk h.len
  have H := Kp.mk h
  have E := Kp.mk e
  clear h e
  have hmax : max (N : Int) 0 = (N : Int) := by omega
  have H8 : Kp ((be N).length ≤ 8) := ⟨(be_len N 8).2 (by omega)⟩
  go_enter Try.func62, Try.ntmps62
  go_wp2
  go_loop [5] (fun a => ∃ k : Nat, k ≤ (be N).length ∧ a = .int .i64 k) (fun a => 8 - (intOf a).toNat)
  case atStart => exact ⟨0, by omega, rfl⟩
  case round =>
    obtain ⟨k, hk, rfl⟩ := hrel
    by_cases h8 : k < (be N).length
    · have hk8 : k < 8 := by have := H8.it; omega
      have hd : decide ((k : Int) < 8) = true := by simp; omega
      have hd2 := shr_pos h8
      have HK : Kp (k + 1 ≤ (be N).length) := ⟨h8⟩
      clear h8 hk
      go_wp2
      go_round
      case rel => exact ⟨k + 1, HK.it, by go_num⟩
      case measure => simp [intOf]; omega
    · have HK : Kp ((be N).length = k) := ⟨by omega⟩
      have hd2 := shr_zero (N := N) (k := k) (by omega)
      have hk8 : k ≤ 8 := by rw [← HK.it]; exact H8.it
      clear hk h8
      have hmk := make_bytes ((n : Int) + (k : Int) + 1) (n + k + 1) (by push_cast; omega) (by omega)
      have HO0 : Kp (OwnB (w.alloc (.cells (madeCells #[.int .u8 0] (n + k + 1)) 5)) w.heap.size (.slice (some ⟨w.heap.size, 0, none⟩) 0 (n + k + 1)) []) := ⟨ownB_made w _ _ (by unfold maxLen; omega) (made_size _)⟩
      have HB0 : Kp (Below w.heap.size w (w.alloc (.cells (madeCells #[.int .u8 0] (n + k + 1)) 5))) := ⟨(Below.refl _ _).alloc (Nat.le_refl _) _⟩
      have HR0 : Kp (Rb (w.alloc (.cells (madeCells #[.int .u8 0] (n + k + 1)) 5)) A n bs) := ⟨H.it.below HB0.it⟩
      have HZ0 : Kp (w.heap.size ≤ (w.alloc (.cells (madeCells #[.int .u8 0] (n + k + 1)) 5)).heap.size) := ⟨HB0.it.size⟩
      have HN0 : Kp (([] : List UInt8).length + bs.length ≤ 140737488355328) := ⟨by rw [HL.it]; simp; omega⟩
      have HN1 : Kp (bs.length + 1 ≤ 140737488355328) := ⟨by rw [HL.it]; omega⟩
      obtain ⟨KB, hKB⟩ : ∃ b, b = UInt8.ofNat k := ⟨_, rfl⟩
      have hwk : IntKind.u8.wrap (k : Int) = (KB.toNat : Int) := by rw [hKB, u8_wrap, Nat.mod_eq_of_lt (by omega)]
      have HKB := Kp.mk hKB
      clear hKB
      obtain ⟨kb, hkb⟩ : ∃ kb : Bool, decide ((k : Int) < 8) = kb := ⟨_, rfl⟩
      cases kb
      all_goals
        go_upto_region 6 with (first | (refine app_bs rfl (.tmp 26) (.tmp 27) rfl w.heap.size _ [] A n c bs rfl rfl HO0.it HR0.it E.it HZ0.it HN0.it ?_; intro v1 w1 ho1 hg1; have O1 := Kp.mk ho1; have B1 := Kp.mk (below_ownB HB0.it HB0.it.size HO0.it (Nat.le_refl _) hg1); have Z1 := Kp.mk B1.it.size; clear ho1 hg1) | (refine app_b1 rfl (.tmp 28) (.tmp 31) rfl w.heap.size v1 bs _ KB rfl rfl rfl O1.it Z1.it HN1.it ?_; intro v2 w2 ho2 hg2; have O2 := Kp.mk ho2; have B2 := Kp.mk (below_ownB B1.it B1.it.size O1.it (Nat.le_refl _) hg2); clear ho2 hg2))
        obtain ⟨A2, c2, hv2, _, _, _⟩ := O2.it.form (by rw [List.length_append, HL.it]; simp; omega)
        rw [List.length_append, HL.it, List.length_singleton] at hv2
        subst hv2
        go_wp2
        go_loopw [6, 7] (fun a i wr => ∃ (j t : Nat) (A3 : Option Addr) (c3 : Nat), j + t = k ∧ i = .int .i64 ((t : Int) - 1) ∧ a = .slice A3 (n + 1 + j) c3 ∧ Kp (OwnB wr w.heap.size (.slice A3 (n + 1 + j) c3) (bs ++ [KB] ++ (be N).take j)) ∧ Kp (Below w.heap.size w wr)) (fun _ i _ => (intOf i + 1).toNat)
        case atStart => exact ⟨0, k, _, _, by omega, rfl, rfl, ⟨by simpa using O2.it⟩, B2⟩
        case round =>
          clear O2 B2 O1 B1 Z1
          obtain ⟨j, t, A3, c3, hjt, rfl, rfl, HO, HB⟩ := hrel
          have HJ : Kp ((bs ++ [KB] ++ (be N).take j).length = n + 1 + j) := ⟨by rw [List.length_append, List.length_append, HL.it, List.length_take, HK.it]; simp; omega⟩
          rcases Nat.eq_zero_or_pos t with h0 | h0
          · subst h0
            have hd5 : decide ((0 : Int) ≤ ((0 : Nat) : Int) - 1) = false := by decide
            have HE : Kp (OwnB wr w.heap.size (.slice A3 (n + 1 + j) c3) (bs ++ numB N)) := ⟨by
              have := HO.it
              rw [List.take_of_length_le (by rw [HK.it]; omega), List.append_assoc] at this
              unfold numB
              rw [HK.it, ← HKB.it]
              exact this⟩
            go_wp2
            go_ret
            exact ⟨_, rfl, HE.it, HB.it⟩
          · obtain ⟨s, rfl⟩ : ∃ s, t = s + 1 := ⟨t - 1, by omega⟩
            rw [show (((s + 1 : Nat) : Int) - 1) = (s : Int) by omega]
            have hd5 : decide ((0 : Int) ≤ (s : Int)) = true := by simp
            obtain ⟨CB, hCB⟩ : ∃ b, b = UInt8.ofNat (N / 256 ^ s % 256) := ⟨_, rfl⟩
            have hwc : IntKind.u8.wrap ((N : Int) / 2 ^ (8 * s)) = (CB.toNat : Int) := by rw [hCB, shr256, u8_wrap]
            have HC : Kp (bs ++ [KB] ++ (be N).take (j + 1) = (bs ++ [KB] ++ (be N).take j) ++ [CB]) := ⟨by
              rw [be_take (by rw [HK.it]; omega), HK.it, show k - 1 - j = s by omega, ← hCB]
              simp only [List.append_assoc]⟩
            have HN2 : Kp ((bs ++ [KB] ++ (be N).take j).length + 1 ≤ 140737488355328) := ⟨by rw [HJ.it]; omega⟩
            have HZ := Kp.mk HB.it.size
            clear hCB
            go_wp2_with (refine app_b1 rfl (.tmp 39) (.tmp 45) rfl w.heap.size _ _ _ CB rfl rfl rfl HO.it HZ.it HN2.it ?_; intro v4 w4 ho4 hg4; have O4 := Kp.mk ho4; have B4 := Kp.mk (below_ownB HB.it HB.it.size HO.it (Nat.le_refl _) hg4); clear ho4 hg4)
            rw [← HC.it] at O4
            obtain ⟨A4, c4, hv4, _, _, _⟩ := O4.it.form (by rw [HC.it, List.length_append, HJ.it]; simp; omega)
            rw [HC.it, List.length_append, HJ.it, List.length_singleton] at hv4
            subst hv4
            go_roundw
            case rel => exact ⟨j + 1, s, A4, c4, by omega, by go_num, rfl, O4, B4⟩
            case measure => simp [intOf]

theorem numB_len (N : Nat) (h : N < 9223372036854775808) : (numB N).length ≤ 9 := by
  unfold numB
  rw [List.length_cons]
  have := (be_len N 8).2 (by omega)
  omega
set_option maxRecDepth 100000 in
set_option maxHeartbeats 4000000 in
theorem text_any (A : Option Addr) (n c : Nat) (bs : List UInt8) (s : ByteArray) (w : World) (h : Rb w A n bs) (e : A = none → c = 0) (hs : n + s.size + 9 ≤ 140737488355328) :
    Calls Try.prog 65 #[.slice A n c, .string s] w fun e w' => ∃ v, e = .returned v ∧ OwnB w' w.heap.size v (bs ++ txtB s) ∧ Below w.heap.size w w' := by
  have HL := Kp.mk h.len
  have HM := Kp.mk (number_any A n c bs s.size w h e (by omega) (by omega))
  clear h e
  go_enter Try.func65, Try.ntmps65
  go_wp2_with fail
  go_at_call 62
  refine HM.it.mono ?_
  rintro e w1 ⟨v1, rfl, ho1, hb1⟩
  have O1 := Kp.mk ho1
  have B1 := Kp.mk hb1
  have Z1 := Kp.mk hb1.size
  have HN : Kp ((bs ++ numB s.size).length + s.size ≤ 140737488355328) := ⟨by have := numB_len s.size (by omega); rw [List.length_append, HL.it]; omega⟩
  clear ho1 hb1 HM
  go_wp2_with (refine app_str rfl (.tmp 8) (.tmp 9) rfl w.heap.size v1 _ s rfl rfl O1.it Z1.it HN.it ?_; intro v4 w4 ho4 hg4; have O4 := Kp.mk ho4; have B4 := Kp.mk (below_ownB B1.it B1.it.size O1.it (Nat.le_refl _) hg4); clear ho4 hg4)
  go_ret
  refine ⟨_, rfl, ?_, B4.it⟩
  have := O4.it
  rw [List.append_assoc] at this
  exact this
end Go.Proofs.Ytnkgagbobihnnaa
