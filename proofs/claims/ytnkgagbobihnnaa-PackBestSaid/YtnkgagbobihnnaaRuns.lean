/-
  Bytes as signs: the program's Runs, whole.
-/
import Derived.Test.YtnkgagbobihnnaaRun
namespace Go.Proofs.Ytnkgagbobihnnaa
open Go Go.RowKit
attribute [local go_sem ↓] Go.wp_at_zero Go.wp_at_succ

/-- The signs of the first k bytes, and how many times 0 came last. -/
def runsS (bs : List UInt8) : Nat → List Int × Nat
  | 0 => ([], 0)
  | k + 1 => if (bs.getD k 0).toNat = 0 then ((runsS bs k).1, (runsS bs k).2 + 1) else ((runsS bs k).1 ++ digs (runsS bs k).2 ++ [((bs.getD k 0).toNat : Int) + 1], 0)
def runsP (bs : List UInt8) : List Int := (runsS bs bs.length).1 ++ digs (runsS bs bs.length).2 ++ [257]
theorem runsS_len (bs : List UInt8) : ∀ k, (runsS bs k).1.length + (runsS bs k).2 ≤ k
  | 0 => Nat.le_refl 0
  | k + 1 => by
    have ih := runsS_len bs k
    have h := digs_len (runsS bs k).2
    unfold runsS
    split
    · show (runsS bs k).1.length + ((runsS bs k).2 + 1) ≤ k + 1; omega
    · show ((runsS bs k).1 ++ digs (runsS bs k).2 ++ [((bs.getD k 0).toNat : Int) + 1]).length + 0 ≤ k + 1
      rw [List.length_append, List.length_append, List.length_singleton]; omega

set_option maxRecDepth 100000 in
set_option maxHeartbeats 4000000 in
theorem runs_any (A : Option Addr) (n c : Nat) (bs : List UInt8) (w : World) (h : Rb w A n bs) (hn : n ≤ 100000) :
    Calls Try.prog 27 #[.slice A n c] w fun e w' => ∃ v, e = .returned v ∧ Own w' w.heap.size v (runsP bs) ∧ Below w.heap.size w w' := by
  have H := Kp.mk h
  have HL := Kp.mk h.len
  clear h
  have O0 : Kp (OB ((w.alloc (.cells #[.slice none 0 0] 22)).alloc (.cells #[.int .i64 0] 3)) w.heap.size (.slice none 0 0)) := ⟨blk_old _ (blk_new _ _)⟩
  have N0 : Kp (NB ((w.alloc (.cells #[.slice none 0 0] 22)).alloc (.cells #[.int .i64 0] 3)) (w.heap.size + 1) 0) := ⟨blk_new1 _ _ _⟩
  have hcn0 := N0.it.cell
  have hfn0 := N0.it.free
  have B0 : Kp (Below w.heap.size w ((w.alloc (.cells #[.slice none 0 0] 22)).alloc (.cells #[.int .i64 0] 3))) := ⟨((Below.refl _ _).alloc (Nat.le_refl _) _).alloc (by simp) _⟩
  have S0 : Kp (w.heap.size + 1 + 1 ≤ ((w.alloc (.cells #[.slice none 0 0] 22)).alloc (.cells #[.int .i64 0] 3)).heap.size) := ⟨by simp⟩
  obtain ⟨O, hO⟩ : ∃ O, O = w.heap.size := ⟨_, rfl⟩
  have HO := Kp.mk hO
  rw [← hO] at O0 N0 S0
  go_enter Try.func27, Try.ntmps27
  go_wp2_with fail
  rw [← hO]
  clear hO hcn0 hfn0
  go_loopw [11] (fun i wr => ∃ (k : Nat) (u : Value), k ≤ n ∧ i = .int .i64 k ∧ Kp (NB wr (O + 1) (runsS bs k).2) ∧ Kp (OB wr O u) ∧ Kp (Own wr (O + 1 + 1) u (runsS bs k).1) ∧ Kp (Below w.heap.size w wr) ∧ Kp (O + 1 + 1 ≤ wr.heap.size)) (fun i _ => n - (intOf i).toNat)
  case atStart => exact ⟨0, _, by omega, rfl, N0, O0, ⟨Own.nil _ _⟩, B0, S0⟩
  case round =>
    obtain ⟨k, u, hk, rfl, N1, O1, V1, B1, S1⟩ := hrel
    have HLN := Kp.mk (runsS_len bs k)
    by_cases hkn : k < n
    · have hd : decide ((k : Int) < (n : Int)) = true := by simp; omega
      obtain ⟨b, o, hA, hlt, hc0⟩ := H.it.cells (by omega)
      have hcell := (B1.it.cell (p := ⟨b, o + k, none⟩) hlt).trans (hc0 k hkn)
      cases hA
      clear hc0 hlt
      have HS : Kp (runsS bs (k + 1) = if (bs.getD k 0).toNat = 0 then ((runsS bs k).1, (runsS bs k).2 + 1) else ((runsS bs k).1 ++ digs (runsS bs k).2 ++ [((bs.getD k 0).toNat : Int) + 1], 0)) := ⟨rfl⟩
      have hbx : byte bs k = (((bs.getD k 0).toNat : Nat) : Int) := rfl
      rw [hbx] at hcell
      have hX : (bs.getD k 0).toNat < 256 := UInt8.toNat_lt _
      obtain ⟨X, hXe⟩ : ∃ X, X = (bs.getD k 0).toNat := ⟨_, rfl⟩
      rw [← hXe] at hcell HS hX
      clear hXe hbx
      obtain ⟨ys, hys⟩ : ∃ ys, ys = (runsS bs k).1 := ⟨_, rfl⟩
      obtain ⟨m, hm⟩ : ∃ m, m = (runsS bs k).2 := ⟨_, rfl⟩
      rw [← hys] at V1 HS HLN
      rw [← hm] at N1 HS HLN
      clear hys hm
      by_cases hx0 : X = 0
      · subst hx0
        rw [if_pos rfl] at HS
        have hcn := N1.it.cell
        have hfn := N1.it.free
        have hmb : m ≤ 1000000 := by have := HLN.it; omega
        have N2 : Kp (NB (wr.setCell ⟨O + 1, 0, none⟩ (.int .i64 ((m : Int) + 1))) (O + 1) (runsS bs (k + 1)).2) := ⟨by rw [HS.it]; exact N1.it.store (m + 1)⟩
        have O2 : Kp (OB (wr.setCell ⟨O + 1, 0, none⟩ (.int .i64 ((m : Int) + 1))) O u) := ⟨O1.it.other (by omega)⟩
        have V2 : Kp (Own (wr.setCell ⟨O + 1, 0, none⟩ (.int .i64 ((m : Int) + 1))) (O + 1 + 1) u (runsS bs (k + 1)).1) := ⟨by rw [HS.it]; exact V1.it.cellset (by omega)⟩
        have B2 : Kp (Below w.heap.size w (wr.setCell ⟨O + 1, 0, none⟩ (.int .i64 ((m : Int) + 1)))) := ⟨B1.it.setCell (by rw [← HO.it]; show O ≤ O + 1; omega) _⟩
        have S2 : Kp (O + 1 + 1 ≤ (wr.setCell ⟨O + 1, 0, none⟩ (.int .i64 ((m : Int) + 1))).heap.size) := ⟨by rw [size_set]; exact S1.it⟩
        go_wp2
        go_roundw
        case rel => exact ⟨k + 1, u, by omega, by go_num, N2, O2, V2, B2, S2⟩
        case measure => simp [intOf]; omega
      · have hq : ((X : Int) == 0) = false := by simp; omega
        rw [if_neg hx0] at HS
        have HFL : Kp (Calls Try.prog 48 #[.pointer (some ⟨O + 1, 0, none⟩), .pointer (some ⟨O, 0, none⟩)] wr fun e w' => e = .returned (.tuple #[]) ∧ ∃ v', NB w' (O + 1) 0 ∧ OB w' O v' ∧ Own w' (O + 1 + 1) v' (ys ++ digs m) ∧ Below w.heap.size w w' ∧ O + 1 + 1 ≤ w'.heap.size) := ⟨flush_any (O + 1) O (O + 1 + 1) w.heap.size m u ys w wr N1.it O1.it V1.it (by omega) (by omega) (by omega) S1.it (by rw [← HO.it]; omega) (by rw [← HO.it]; exact Nat.le_refl _) B1.it (by have := HLN.it; omega)⟩
        clear hx0
        have hwx : wrap64 (X : Int) = (X : Int) := by unfold wrap64; omega
        have HDL := Kp.mk (digs_len m)
        have HZL : Kp ((ys ++ digs m).length + 1 ≤ 200000) := ⟨by rw [List.length_append]; have := HDL.it; have := HLN.it; omega⟩
        have HYL : Kp ((ys ++ digs m).length + 1 ≤ 17592186044416) := ⟨by have := HZL.it; omega⟩
        go_wp2_with fail
        refine HFL.it.mono ?_
        rintro e w2 ⟨rfl, v2, n2, o2, own2, b2, s2⟩
        clear N1 O1 V1 B1 S1 HFL
        obtain ⟨A2, c2, hv2⟩ := own2.long (by have := HZL.it; omega)
        obtain ⟨j, hj⟩ : ∃ j, j = (ys ++ digs m).length := ⟨_, rfl⟩
        have HJ := Kp.mk hj
        rw [← hj] at hv2
        clear hj
        subst hv2
        obtain ⟨zs, hzs⟩ : ∃ zs, zs = ys ++ digs m := ⟨_, rfl⟩
        rw [← hzs] at HS HZL HYL HJ own2
        clear hzs
        have N2 := Kp.mk n2
        have O2 := Kp.mk o2
        have V2 := Kp.mk own2
        have B2 := Kp.mk b2
        have S2 := Kp.mk s2
        have hco2 := o2.cell
        clear n2 o2 own2 b2 s2
        go_wp2_with (refine app_own rfl (.tmp 21) (.tmp 25) rfl (O + 1 + 1) _ zs ((X : Int) + 1) rfl rfl V2.it S2.it HYL.it ?_
                     intro v1 w1 hn1 hg1 hat1
                     obtain ⟨A1, c1, hv1⟩ := hn1.long (by rw [List.length_append, List.length_singleton]; have := HZL.it; omega)
                     rw [List.length_append, List.length_singleton, ← HJ.it] at hv1
                     subst hv1
                     have V3 := Kp.mk hn1
                     have G3 : Kp (World.grownBy _ w1 (Value.slice A2 j c2).ownBlock) := ⟨hg1⟩
                     have N3 : Kp (NB w1 (O + 1) 0) := ⟨N2.it.kept G3.it fun h9 => V2.it.past (by omega) h9.symm⟩
                     have O3 : Kp (OB w1 O (.slice A2 j c2)) := ⟨O2.it.kept G3.it fun h9 => V2.it.past (by omega) h9.symm⟩
                     have B3 : Kp (Below w.heap.size w w1) := ⟨below_own B2.it B2.it.size V2.it (by rw [← HO.it]; omega) G3.it⟩
                     have S3 : Kp (O + 1 + 1 ≤ w1.heap.size) := ⟨Nat.le_trans S2.it G3.it.size⟩
                     have hco3 := O3.it.cell
                     have hfo3 := O3.it.free
                     clear hn1 hg1 hat1)
        have N4 : Kp (NB (w1.setCell ⟨O, 0, none⟩ (.slice A1 (j + 1) c1)) (O + 1) (runsS bs (k + 1)).2) := ⟨by rw [HS.it]; exact N3.it.other (by omega)⟩
        have O4 : Kp (OB (w1.setCell ⟨O, 0, none⟩ (.slice A1 (j + 1) c1)) O (.slice A1 (j + 1) c1)) := ⟨O3.it.store _⟩
        have V4 : Kp (Own (w1.setCell ⟨O, 0, none⟩ (.slice A1 (j + 1) c1)) (O + 1 + 1) (.slice A1 (j + 1) c1) (runsS bs (k + 1)).1) := ⟨by rw [HS.it]; exact V3.it.cellset (by omega)⟩
        have B4 : Kp (Below w.heap.size w (w1.setCell ⟨O, 0, none⟩ (.slice A1 (j + 1) c1))) := ⟨B3.it.setCell (by rw [← HO.it]; exact Nat.le_refl _) _⟩
        have S4 : Kp (O + 1 + 1 ≤ (w1.setCell ⟨O, 0, none⟩ (.slice A1 (j + 1) c1)).heap.size) := ⟨by rw [size_set]; exact S3.it⟩
        refine ⟨⟨k + 1, _, by omega, by go_num, N4, O4, V4, B4, S4⟩, ?_⟩
        simp [intOf]
        omega
    obtain rfl : n = k := by omega
    have hd : decide ((n : Int) < (n : Int)) = false := by simp
    have HE : Kp (runsP bs = (runsS bs n).1 ++ digs (runsS bs n).2 ++ [257]) := ⟨by unfold runsP; rw [HL.it]⟩
    obtain ⟨ys, hys⟩ : ∃ ys, ys = (runsS bs n).1 := ⟨_, rfl⟩
    obtain ⟨m, hm⟩ : ∃ m, m = (runsS bs n).2 := ⟨_, rfl⟩
    rw [← hys] at V1 HE HLN
    rw [← hm] at N1 HE HLN
    clear hys hm
    have HFL : Kp (Calls Try.prog 48 #[.pointer (some ⟨O + 1, 0, none⟩), .pointer (some ⟨O, 0, none⟩)] wr fun e w' => e = .returned (.tuple #[]) ∧ ∃ v', NB w' (O + 1) 0 ∧ OB w' O v' ∧ Own w' (O + 1 + 1) v' (ys ++ digs m) ∧ Below w.heap.size w w' ∧ O + 1 + 1 ≤ w'.heap.size) := ⟨flush_any (O + 1) O (O + 1 + 1) w.heap.size m u ys w wr N1.it O1.it V1.it (by omega) (by omega) (by omega) S1.it (by rw [← HO.it]; omega) (by rw [← HO.it]; exact Nat.le_refl _) B1.it (by have := HLN.it; omega)⟩
    have HDL := Kp.mk (digs_len m)
    have HYL : Kp ((ys ++ digs m).length + 1 ≤ 17592186044416) := ⟨by rw [List.length_append]; have := HDL.it; have := HLN.it; omega⟩
    clear N1 O1 V1 B1 S1
    go_wp2_with fail
    refine HFL.it.mono ?_
    rintro e w2 ⟨rfl, v2, n2, o2, own2, b2, s2⟩
    have V2 := Kp.mk own2
    have B2 := Kp.mk b2
    have S2 := Kp.mk s2
    have hco2 := o2.cell
    clear n2 o2 own2 b2 s2 HFL
    go_wp2_with (refine app_own rfl (.tmp 30) (.tmp 31) rfl (O + 1 + 1) _ (ys ++ digs m) 257 rfl rfl V2.it S2.it HYL.it ?_
                 intro v1 w1 hn1 hg1 hat1
                 have V3 := Kp.mk hn1
                 have B3 : Kp (Below w.heap.size w w1) := ⟨below_own B2.it B2.it.size V2.it (by rw [← HO.it]; omega) hg1⟩
                 clear hn1 hg1 hat1)
    go_ret
    refine ⟨_, rfl, ?_, B3.it⟩
    rw [HE.it, ← HO.it]
    exact V3.it.relax (by omega)
end Go.Proofs.Ytnkgagbobihnnaa
