/-
  The reference's Share: the walk.
-/
import Derived.Test.YtemnhmnompehoaaRShare
namespace Go.Proofs.Ytemnhmnompehoaa
open Go Go.RowKit

/-- While the one who had a part is looked for. -/
def St5 (T : List Int) (x : Int) (F F' : Int → Int) (out out' : List Int) (j : Nat) (O : List Int) (Fc : Int → Int) : Prop :=
  (O = out ∧ Fc = F ∧ ∀ i, i < j → ¬ (rd T i = x ∧ 0 < F x)) ∨ (O = out' ∧ Fc = F' ∧ (∃ i, i < j ∧ rd T i = x) ∧ 0 < F x)
/-- While one who has room is looked for. -/
def St7 (T : List Int) (J : Nat) (F F' : Int → Int) (out out' : List Int) (j : Nat) (O : List Int) (Fc : Int → Int) : Prop :=
  (O = out ∧ Fc = F ∧ ∀ i, i < j → F (rd T i) = 0) ∨ (O = out' ∧ Fc = F' ∧ J < j)
theorem rd_ne {T : List Int} (hn : T.Nodup) {i j : Nat} (hij : i < j) (hj : j < T.length) : rd T i ≠ rd T j := by
  rw [rd_lt (by omega), rd_lt hj]; exact nodup_ne hn hij hj
theorem rd_set {l : List Int} {k : Nat} {v : Int} (hk : k < l.length) : rd (l.set k v) k = v := by
  unfold rd
  rw [List.getD_eq_getElem?_getD, List.getElem?_set, if_pos rfl, if_pos hk]
  rfl
theorem mayK_zero (T M : List Int) (q : Nat) : mayK T M q 0 = List.replicate T.length (q : Int) := by
  unfold mayK
  simp [List.map_const']
theorem exK_zero (T M : List Int) : exK T M 0 = List.replicate T.length false := by
  unfold exK
  simp [List.map_const']

section
variable (A1 A2 : Option Addr) (n1 c1 n2 c2 : Nat) (os ms : List Int) (w : World) (h1 : Rd w A1 n1 os) (h2 : Rd w A2 n2 ms) (hn1 : n1 ≤ 1000000) (hn2 : n2 ≤ 1000000)
include h1 h2 hn1 hn2

set_option linter.unusedVariables false in
set_option maxRecDepth 100000 in
set_option maxHeartbeats 20000000 in
theorem rshare_any : Calls Try.prog 17 #[.slice A1 n1 c1, .slice A2 n2 c2] w fun e w' => ∃ v, e = .returned v ∧ Own w' w.heap.size v (share os ms) ∧ Below w.heap.size w w' := by
  have mixed : Try.prog.follows .mixedOrders = true := by kernel_rfl
  have hmk := make_ints n1 (by omega)
  have HTM := Kp.mk (rteam_any A2 n2 c2 ms w h2 hn2)
  have HTL : Kp ((team ms).length ≤ 1000000) := ⟨by have := team_len ms; rw [h2.len] at this; omega⟩
  have H1 := Kp.mk h1
  have L1 := Kp.mk h1.len
  clear h1 h2
  go_enter Try.func17, Try.ntmps17
  go_wp2_with fail
  refine HTM.it.mono ?_
  rintro e w5 ⟨v5, rfl, ho5, hb5⟩
  clear HTM
  obtain ⟨A5, c5, hv5, _, _, _, r5⟩ := ho5.form3 (by have := HTL.it; omega)
  have R5 := Kp.mk r5
  have B5 := Kp.mk hb5
  have R1 := Kp.mk (H1.it.below hb5)
  clear r5 ho5 hb5
  obtain ⟨T, hT⟩ : ∃ T, T = team ms := ⟨_, rfl⟩
  have HT := Kp.mk hT
  rw [← hT] at HTL hv5 R5
  clear hT
  obtain ⟨t, ht⟩ : ∃ t, t = T.length := ⟨_, rfl⟩
  have TL := Kp.mk ht
  have htb : t ≤ 1000000 := by rw [ht]; exact HTL.it
  rw [← ht] at hv5 R5
  clear ht
  subst hv5
  have hmk2 := make_ints t (by omega)
  have hmk3 := make_bools t (by omega)
  have HZ := Kp.mk (blk_zrow w5 n1)
  obtain ⟨G, hG⟩ : ∃ G, G = w5.heap.size := ⟨_, rfl⟩
  have HG := Kp.mk hG
  by_cases h0 : t = 0
  · have hq : ((t : Int) == 0) = true := by rw [beq_iff_eq]; omega
    have H0 := Kp.mk h0
    clear h0 hG
    go_wp2
    go_ret
    refine ⟨_, rfl, ?_, ?_⟩
    · have : share os ms = List.replicate n1 0 := by unfold share; rw [← HT.it, ← TL.it, if_pos H0.it, L1.it]
      rw [this]
      have h9 := HZ.it.own (base := w.heap.size) B5.it.size (by simp; omega)
      rwa [List.length_replicate] at h9
    · exact B5.it.alloc B5.it.size _
  have hq : ((t : Int) == 0) = false := by rw [beq_eq_false_iff_ne]; omega
  have htp : 0 < t := by omega
  clear h0
  obtain ⟨q, hq9⟩ : ∃ q : Nat, q = n1 / t := ⟨_, rfl⟩
  obtain ⟨r, hr9⟩ : ∃ r : Nat, r = n1 % t := ⟨_, rfl⟩
  have hqz : (n1 : Int) / (t : Int) = (q : Int) := by rw [hq9]; exact (Int.natCast_ediv n1 t).symm
  have hrz : (n1 : Int) % (t : Int) = (r : Int) := by rw [hr9]; exact (Int.natCast_emod n1 t).symm
  have hqb : q ≤ 1000000 := by rw [hq9]; exact Nat.le_trans (Nat.div_le_self _ _) hn1
  have hrb : r < t := by rw [hr9]; exact Nat.mod_lt _ htp
  have HQ := Kp.mk hq9
  have HR := Kp.mk hr9
  clear hq9 hr9
  go_wp2_with fail
  rw [← hG]
  clear hG
  go_loopw [37] (fun i wr => ∃ k : Nat, k ≤ t ∧ i = .int .i64 k ∧ Kp (Below G w5 wr) ∧ Kp (Blk wr G (List.replicate n1 0)) ∧ Kp (Blk wr (G + 1) (List.replicate k (q : Int) ++ List.replicate (t - k) 0)) ∧ Kp (Bkb wr (G + 2) (List.replicate t false))) (fun i _ => t - (intOf i).toNat)
  case atStart =>
    refine ⟨0, by omega, rfl, ⟨?_⟩, ⟨?_⟩, ⟨?_⟩, ⟨?_⟩⟩
    · rw [HG.it]; exact (((Below.refl _ _).alloc (Nat.le_refl _) _).alloc (by simp) _).alloc (by simp; omega) _
    · rw [HG.it]; exact blk_old _ (blk_old _ (blk_new _ _))
    · rw [HG.it]; simp only [List.replicate_zero, List.nil_append, Nat.sub_zero]; exact blk_old _ (blk_new1 _ _ _)
    · rw [HG.it]; have := blk_new1 (w5.alloc (.cells (zrow n1) 3)) (.cells (zrow t) 3) (.cells (zbrow t) 4); rw [World.size_alloc] at this; exact this
  case round =>
    obtain ⟨k, hk, rfl, HB, HO, HM, HE⟩ := hrel
    by_cases hkt : k < t
    · have hd : decide ((k : Int) < (t : Int)) = true := by simp; omega
      have hcm := HM.it.cell (j := k) (by simp; omega)
      have hfz := HM.it.free k
      generalize rd (List.replicate k (q : Int) ++ List.replicate (t - k) 0) k = old at hcm
      go_wp2
      go_roundw
      case rel =>
        refine ⟨k + 1, by omega, by go_num, ⟨HB.it.setCell (by show G ≤ G + 1; omega) _⟩, ⟨?_⟩, ⟨?_⟩, ⟨?_⟩⟩
        · unfold Blk; rw [other_block _ _ _ (by show G ≠ G + 1; omega)]; exact HO.it
        · have h9 := HM.it.store k (q : Int)
          rw [List.set_append_right _ _ (by simp), List.length_replicate, Nat.sub_self, show t - k = (t - (k + 1)) + 1 by omega, List.replicate_succ, List.set_cons_zero] at h9
          rw [List.replicate_succ', List.append_assoc]
          exact h9
        · unfold Bkb; rw [other_block _ _ _ (by show G + 2 ≠ G + 1; omega)]; exact HE.it
      case measure => simp [intOf]; omega
    have hd : decide ((k : Int) < (t : Int)) = false := by simp; omega
    obtain rfl : t = k := by omega
    obtain ⟨M, hM⟩ : ∃ M, M = T.mergeSort (leH (hasF os)) := ⟨_, rfl⟩
    have HMM := Kp.mk hM
    have HMP : Kp (M.Perm T) := ⟨by rw [hM]; exact List.mergeSort_perm _ _⟩
    have HTN : Kp (T.Nodup) := ⟨by rw [HT.it]; exact team_nodup ms⟩
    have HML : Kp (M.length = t) := ⟨by rw [HMP.it.length_eq]; exact TL.it.symm⟩
    have HMN : Kp (M.Nodup) := ⟨HMP.it.nodup_iff.2 HTN.it⟩
    have HTA : Kp (T.Pairwise (· < ·)) := ⟨by rw [HT.it]; exact (team_what ms).1⟩
    have HM0 : Kp (Blk wr (G + 1) (mayK T M q 0)) := ⟨by rw [mayK_zero, ← TL.it]; simpa using HM.it⟩
    have HE0 : Kp (Bkb wr (G + 2) (exK T M 0)) := ⟨by rw [exK_zero, ← TL.it]; exact HE.it⟩
    clear HM HE hM hk hkt hd
    obtain ⟨w6, rfl⟩ : ∃ w6 : World, w6 = wr := ⟨_, rfl⟩
    go_wp2
    rw [hrz]
    clear hrz hqz
    go_loopw [54] (fun i wr => ∃ k : Nat, k ≤ r ∧ i = .int .i64 k ∧ Kp (Below G w5 wr) ∧ Kp (Blk wr G (List.replicate n1 0)) ∧ Kp (Blk wr (G + 1) (mayK T M q k)) ∧ Kp (Bkb wr (G + 2) (exK T M k))) (fun i _ => r - (intOf i).toNat)
    case atStart => exact ⟨0, by omega, rfl, HB, HO, HM0, HE0⟩
    case round =>
      clear HB HO HM0 HE0
      obtain ⟨k, hk, rfl, HB, HO, HM, HE⟩ := hrel
      by_cases hkr : k < r
      · have hd : decide ((k : Int) < (r : Int)) = true := by simp; omega
        have HBN := Kp.mk (bst_next (os := os) (k := k) HTA.it HMM.it (by rw [← TL.it]; omega))
        obtain ⟨ex, hex⟩ : ∃ ex, ex = exK T M k := ⟨_, rfl⟩
        have HEX := Kp.mk hex
        have HEL : Kp (ex.length = t) := ⟨by rw [hex]; unfold exK; rw [List.length_map]; exact TL.it.symm⟩
        rw [← hex] at HE HBN
        clear hex
        obtain ⟨wo, rfl⟩ : ∃ wo : World, wo = wr := ⟨_, rfl⟩
        go_wp2
        go_loopw [10, 58] (fun b i wr => ∃ j : Nat, j ≤ t ∧ i = .int .i64 j ∧ b = .int .i64 (bstS os T ex j) ∧ Kp (∃ qn, wr = wo.drewN qn)) (fun _ i _ => t - (intOf i).toNat)
        case atStart => exact ⟨0, by omega, rfl, rfl, ⟨0, rfl⟩⟩
        case round =>
          obtain ⟨j, hj, rfl, rfl, HW⟩ := hrel
          by_cases hjt : j < t
          · have hd2 : decide ((j : Int) < (t : Int)) = true := by simp; omega
            obtain ⟨b, o, hA, hlt, hc0⟩ := R5.it.get hjt
            cases hA
            have hbG : b < G := by have := HG.it; omega
            have hcell : wr.cell? ⟨b, o + j, none⟩ = some (.int .i64 (rd T j)) := by
              obtain ⟨qn, rfl⟩ := HW.it
              exact (HB.it.cell (p := ⟨b, o + j, none⟩) hbG).trans hc0
            have hce : wr.cell? ⟨G + 2, j, none⟩ = some (.bool (rdb ex j)) := by
              obtain ⟨qn, rfl⟩ := HW.it
              exact HE.it.cell (by rw [HEL.it]; exact hjt)
            have HN : Kp (bstS os T ex (j + 1) = if rdb ex j = false ∧ (bstS os T ex j < 0 ∨ hasF os (rd T (bstS os T ex j).toNat) < hasF os (rd T j)) then (j : Int) else bstS os T ex j) := ⟨rfl⟩
            have HWH := Kp.mk (bstS_what os T ex j)
            have HW2 : Kp (∀ q', Kp (∃ qn, wr.drewN q' = wo.drewN qn)) := ⟨fun q' => ⟨by obtain ⟨qn, rfl⟩ := HW.it; exact ⟨_, World.drewN_drewN ..⟩⟩⟩
            obtain ⟨x, hx⟩ : ∃ x, x = rd T j := ⟨_, rfl⟩
            rw [← hx] at hcell HN
            obtain ⟨e, he⟩ : ∃ e, e = rdb ex j := ⟨_, rfl⟩
            rw [← he] at hce HN
            obtain ⟨bb, hbb⟩ : ∃ bb, bb = bstS os T ex j := ⟨_, rfl⟩
            rw [← hbb] at HN HWH
            rw [← hbb]
            clear hc0 hlt hx he hbb
            cases e with
            | true =>
              have HV : Kp (bstS os T ex (j + 1) = bb) := ⟨by rw [HN.it, if_neg (fun h => by cases h.1)]⟩
              go_wp2_with fail
              go_quiet (fail)
              go_wp2
              go_roundw
              case rel => first | exact ⟨j + 1, by omega, by go_num, by rw [HV.it], HW2.it _⟩ | ((repeat apply Exists.intro); refine ⟨⟨j + 1, by omega, ?_, ?_, HW2.it _⟩, rfl⟩; (go_num); (rw [HV.it]))
              case measure => simp [intOf]; omega
            | false =>
              by_cases hneg : bb < 0
              · have hd3 : decide (bb < 0) = true := by simpa using hneg
                have HV : Kp (bstS os T ex (j + 1) = j) := ⟨by rw [HN.it, if_pos ⟨rfl, .inl hneg⟩]⟩
                go_wp2_with fail
                go_quiet (fail)
                go_wp2
                go_roundw
                case rel => first | exact ⟨j + 1, by omega, by go_num, by rw [HV.it], HW2.it _⟩ | ((repeat apply Exists.intro); refine ⟨⟨j + 1, by omega, ?_, ?_, HW2.it _⟩, rfl⟩; (go_num); (rw [HV.it]))
                case measure => simp [intOf]; omega
              · have hd3 : decide (bb < 0) = false := by simp; omega
                obtain ⟨m, hm, hmj⟩ : ∃ m : Nat, bb = m ∧ m < j := by
                  rcases HWH.it with ⟨h, _⟩ | ⟨m, h, h2, _⟩
                  · omega
                  · exact ⟨m, h, h2⟩
                subst hm
                obtain ⟨b', o', hA', hlt', hc1⟩ := R5.it.get (k := m) (by omega)
                cases hA'
                have hcell2 : wr.cell? ⟨b, o + m, none⟩ = some (.int .i64 (rd T m)) := by
                  obtain ⟨qn, rfl⟩ := HW.it
                  exact (HB.it.cell (p := ⟨b, o + m, none⟩) hbG).trans hc1
                obtain ⟨y, hy⟩ : ∃ y, y = rd T m := ⟨_, rfl⟩
                rw [Int.toNat_natCast, ← hy] at HN
                rw [← hy] at hcell2
                have HRR : Kp (Rd wr A1 n1 os) := ⟨by
                  obtain ⟨qn, rfl⟩ := HW.it
                  have h9 : Below w5.heap.size w5 wo := by rw [← HG.it]; exact HB.it
                  exact (R1.it.below h9).drewN qn⟩
                have hmt : (m : Int) < (t : Int) := by omega
                have hjt' : (j : Int) < (t : Int) := by omega
                clear hy hc1 hlt' HWH
                by_cases huv : hasF os y < hasF os x
                · have hd4 : decide (hasF os x > hasF os y) = true := by simpa using huv
                  have HV : Kp (bstS os T ex (j + 1) = j) := ⟨by rw [HN.it, if_pos ⟨rfl, .inr huv⟩]⟩
                  go_wp2_with fail
                  go_quiet ((go_at_call 60; exact Calls.quiet_of_same (times_has A1 n1 c1 os _ _ (HRR.it.drewN _))))
                  go_wp2
                  go_roundw
                  case rel => first | exact ⟨j + 1, by omega, by go_num, by rw [HV.it], HW2.it _⟩ | ((repeat apply Exists.intro); refine ⟨⟨j + 1, by omega, ?_, ?_, HW2.it _⟩, rfl⟩; (go_num); (rw [HV.it]))
                  case measure => simp [intOf]; omega
                · have hd4 : decide (hasF os x > hasF os y) = false := by simpa using huv
                  have HV : Kp (bstS os T ex (j + 1) = m) := ⟨by rw [HN.it, if_neg (fun h => by rcases h.2 with h | h; exact hneg h; exact huv h)]⟩
                  go_wp2_with fail
                  go_quiet ((go_at_call 60; exact Calls.quiet_of_same (times_has A1 n1 c1 os _ _ (HRR.it.drewN _))))
                  go_wp2
                  go_roundw
                  case rel => first | exact ⟨j + 1, by omega, by go_num, by rw [HV.it], HW2.it _⟩ | ((repeat apply Exists.intro); refine ⟨⟨j + 1, by omega, ?_, ?_, HW2.it _⟩, rfl⟩; (go_num); (rw [HV.it]))
                  case measure => simp [intOf]; omega
          · have hd2 : decide ((j : Int) < (t : Int)) = false := by simp; omega
            obtain rfl : t = j := by omega
            obtain ⟨b, hb1, hb2, hb3⟩ := HBN.it
            rw [← TL.it] at hb1 hb2
            have HBG : Kp (Below G w5 wr) := ⟨by obtain ⟨qn, rfl⟩ := HW.it; exact below_drewN HB.it qn⟩
            have HOG : Kp (Blk wr G (List.replicate n1 0)) := ⟨by obtain ⟨qn, rfl⟩ := HW.it; exact HO.it⟩
            have HMG : Kp (Blk wr (G + 1) (mayK T M q k)) := ⟨by obtain ⟨qn, rfl⟩ := HW.it; exact HM.it⟩
            have HEG : Kp (Bkb wr (G + 2) ex) := ⟨by obtain ⟨qn, rfl⟩ := HW.it; exact HE.it⟩
            have hkM : k < M.length := by rw [HML.it]; omega
            have hlm : (mayK T M q k).length = t := by unfold mayK; rw [List.length_map]; exact TL.it.symm
            have hcm : wr.cell? ⟨G + 1, b, none⟩ = some (.int .i64 (q : Int)) := by
              have h9 := HMG.it.cell (j := b) (by rw [hlm]; exact hb2)
              rwa [mayK_at HMN.it (by rw [← TL.it]; exact hb2) hkM hb3] at h9
            have hce := HEG.it.cell (j := b) (by rw [HEL.it]; exact hb2)
            generalize rdb ex b = olde at hce
            have hcm2 : (wr.setCell ⟨G + 2, b, none⟩ (.bool true)).cell? ⟨G + 1, b, none⟩ = some (.int .i64 (q : Int)) := by rw [cell_other _ _ _ _ (by show G + 1 ≠ G + 2; omega)]; exact hcm
            have hfm := HMG.it.free b
            have hfe := HEG.it.free b
            have hfm2 : (wr.setCell ⟨G + 2, b, none⟩ (.bool true)).frozen? ⟨G + 1, b, none⟩ = false := by rw [World.frozen?_setCell]; exact hfm
            have HE2 : Kp (Bkb (wr.setCell ⟨G + 2, b, none⟩ (.bool true)) (G + 2) (exK T M (k + 1))) := ⟨by rw [← exK_next HTN.it (by rw [← TL.it]; exact hb2) hkM hb3, ← HEX.it]; exact HEG.it.store b true⟩
            have HM2 : Kp (Blk ((wr.setCell ⟨G + 2, b, none⟩ (.bool true)).setCell ⟨G + 1, b, none⟩ (.int .i64 ((q : Int) + 1))) (G + 1) (mayK T M q (k + 1))) := ⟨by
              rw [← mayK_next HTN.it (by rw [← TL.it]; exact hb2) hkM hb3]
              refine Blk.store ?_ b _
              unfold Blk; rw [other_block _ _ _ (by show G + 1 ≠ G + 2; omega)]; exact HMG.it⟩
            rw [hb1]
            clear hb1 hb3 hkM hlm hcm hfm HB HO HM HE HBN
            go_wp2
            go_roundw
            case rel =>
              refine ⟨k + 1, by omega, by go_num, ⟨(HBG.it.setCell (by show G ≤ G + 2; omega) _).setCell (by show G ≤ G + 1; omega) _⟩, ⟨?_⟩, HM2, ⟨?_⟩⟩
              · unfold Blk; rw [other_block _ _ _ (by show G ≠ G + 1; omega), other_block _ _ _ (by show G ≠ G + 2; omega)]; exact HOG.it
              · unfold Bkb; rw [other_block _ _ _ (by show G + 2 ≠ G + 1; omega)]; exact HE2.it
            case measure => simp [intOf]; omega
      have hd : decide ((k : Int) < (r : Int)) = false := by simp; omega
      obtain rfl : r = k := by omega
      obtain ⟨w7, rfl⟩ : ∃ w7 : World, w7 = wr := ⟨_, rfl⟩
      have HRF : Kp (roomK q r M t = roomF os ms) := ⟨by unfold roomF; rw [L1.it, ← HT.it, ← TL.it, ← HQ.it, ← HR.it, ← HMM.it]⟩
      obtain ⟨rm, hrm⟩ : ∃ rm, rm = roomF os ms := ⟨_, rfl⟩
      have HRM := Kp.mk hrm
      rw [← hrm] at HRF
      have RB : Kp (∀ k x, 0 ≤ (keepS rm os k).2 x ∧ (keepS rm os k).2 x ≤ 1000001) := ⟨fun k x => keepS_bd (B := 1000001) (fun y => by rw [← HRF.it]; have := roomK_bd q r M t y; omega) k x⟩
      have RO : Kp (∀ k x, x ∉ T → (keepS rm os k).2 x = 0) := ⟨fun k x hx => keepS_out (T := T) (fun y hy => by rw [hrm]; exact roomF_out os ms (by rw [← HT.it]; exact hy)) k x hx⟩
      have HM4 : Kp (Blk w7 (G + 1) (T.map rm)) := ⟨by rw [← HRF.it, TL.it, ← mayK_room HMN.it HMP.it]; exact HM.it⟩
      clear HM HE hrm hk hkr hd hrb
      go_wp2
      go_loopw [98] (fun i wr => ∃ k : Nat, k ≤ n1 ∧ i = .int .i64 k ∧ Kp (Below G w5 wr) ∧ Kp (Blk wr G ((keepS rm os k).1 ++ List.replicate (n1 - k) 0)) ∧ Kp (Blk wr (G + 1) (T.map (keepS rm os k).2))) (fun i _ => n1 - (intOf i).toNat)
      case atStart => exact ⟨0, by omega, rfl, HB, ⟨by rw [Nat.sub_zero]; exact HO.it⟩, HM4⟩
      case round =>
        clear HB HO HM4
        obtain ⟨k, hk, rfl, HB, HO, HM⟩ := hrel
        by_cases hkn : k < n1
        · have hd : decide ((k : Int) < (n1 : Int)) = true := by simp; omega
          have h59 : Below w5.heap.size w5 wr := by rw [← HG.it]; exact HB.it
          obtain ⟨b, o, hA, hlt, hcell⟩ := (R1.it.below h59).get hkn
          cases hA
          have hKL := keepS_len rm os k
          have HP := Kp.mk (fun h => keepS_next_pos (room := rm) (os := os) (k := k) h)
          have HNN := Kp.mk (fun (h : (keepS rm os k).2 (rd os k) ≤ 0) => keepS_next_neg (room := rm) (os := os) (k := k) (Int.not_lt.2 h))
          have hbd := RB.it k
          have hout := RO.it k
          have HST := Kp.mk (fun x => set_told (x := x) hKL hkn)
          have HSY := Kp.mk (stay_told (l := (keepS rm os k).1) hkn)
          have hlen := told_len hKL hk
          obtain ⟨x, hx⟩ : ∃ x, x = rd os k := ⟨_, rfl⟩
          rw [← hx] at hcell HP HNN
          obtain ⟨F, hF⟩ : ∃ F, F = (keepS rm os k).2 := ⟨_, rfl⟩
          obtain ⟨P, hP⟩ : ∃ P, P = (keepS rm os k).1 := ⟨_, rfl⟩
          rw [← hF] at HP HNN hbd hout HM
          rw [← hP] at HP HNN HST HSY hlen HO
          obtain ⟨out, hout0⟩ : ∃ out, out = P ++ List.replicate (n1 - k) 0 := ⟨_, rfl⟩
          have HOU := Kp.mk hout0
          rw [← hout0] at HST HSY hlen HO
          have HBD := Kp.mk hbd
          have HOT := Kp.mk hout
          have HLN := Kp.mk hlen
          have HR5 : Kp (Rd w5 (some ⟨b, o, none⟩) n1 os) := R1
          clear hx hF hP hout0 hbd hout hlen hKL hlt h59
          obtain ⟨wo, rfl⟩ : ∃ wo : World, wo = wr := ⟨_, rfl⟩
          go_wp2
          go_loopw [105] (fun i wr => ∃ (j : Nat) (O : List Int) (Fc : Int → Int), j ≤ t ∧ i = .int .i64 j ∧ Kp (St5 T x F (upd F x (F x - 1)) out (out.set k x) j O Fc) ∧ Kp (Below G w5 wr) ∧ Kp (Blk wr G O) ∧ Kp (Blk wr (G + 1) (T.map Fc))) (fun i _ => t - (intOf i).toNat)
          case atStart => exact ⟨0, out, F, by omega, rfl, ⟨.inl ⟨rfl, rfl, fun i hi => by omega⟩⟩, HB, HO, HM⟩
          case round =>
            clear HB HO HM hcell
            obtain ⟨j, O, Fc, hj, rfl, HS, HB, HO, HM⟩ := hrel
            by_cases hjt : j < t
            · have hd2 : decide ((j : Int) < (t : Int)) = true := by simp; omega
              have h59 : Below w5.heap.size w5 wr := by rw [← HG.it]; exact HB.it
              obtain ⟨b', o', hA', hlt', hcT⟩ := (R5.it.below h59).get hjt
              cases hA'
              have hjT : j < T.length := by rw [← TL.it]; exact hjt
              have hcm := HM.it.cell (j := j) (by rw [List.length_map]; exact hjT)
              rw [rd_map hjT] at hcm
              have HJ := Kp.mk hjT
              clear hlt' h59 hjT
              by_cases hyx : rd T j = x
              · rcases HS.it with ⟨hO, hFc, hno⟩ | ⟨_, _, ⟨i, hi, he⟩, _⟩
                · subst hO
                  subst hFc
                  rw [hyx] at hcT hcm
                  have hq1 : (x == x) = true := by simp
                  by_cases hz : 0 < Fc x
                  · have hz1 : decide (Fc x > 0) = true := by simpa using hz
                    have hco := HO.it.cell (j := k) (by rw [HLN.it]; exact hkn)
                    have hfo := HO.it.free k
                    generalize rd O k = oldo at hco
                    have hzb := HBD.it x
                    obtain ⟨z, hzz⟩ : ∃ z, z = Fc x := ⟨_, rfl⟩
                    have hcm2 : (wr.setCell ⟨G, k, none⟩ (.int .i64 x)).cell? ⟨G + 1, j, none⟩ = some (.int .i64 (Fc x)) := by rw [cell_other _ _ _ _ (by show G + 1 ≠ G; omega)]; exact hcm
                    have hfm2 : (wr.setCell ⟨G, k, none⟩ (.int .i64 x)).frozen? ⟨G + 1, j, none⟩ = false := by rw [World.frozen?_setCell]; exact HM.it.free j
                    have HO2 : Kp (Blk ((wr.setCell ⟨G, k, none⟩ (.int .i64 x)).setCell ⟨G + 1, j, none⟩ (.int .i64 (z - 1))) G (O.set k x)) := ⟨by unfold Blk; rw [other_block _ _ _ (by show G ≠ G + 1; omega)]; exact HO.it.store k x⟩
                    have HM2 : Kp (Blk ((wr.setCell ⟨G, k, none⟩ (.int .i64 x)).setCell ⟨G + 1, j, none⟩ (.int .i64 (z - 1))) (G + 1) (T.map (upd Fc x (z - 1)))) := ⟨by
                      have h9 : Blk (wr.setCell ⟨G, k, none⟩ (.int .i64 x)) (G + 1) (T.map Fc) := by unfold Blk; rw [other_block _ _ _ (by show G + 1 ≠ G; omega)]; exact HM.it
                      have h8 := h9.store j (z - 1)
                      rwa [map_upd HTN.it HJ.it, hyx] at h8⟩
                    have HS2 : Kp (St5 T x Fc (upd Fc x (Fc x - 1)) O (O.set k x) (j + 1) (O.set k x) (upd Fc x (z - 1))) := ⟨.inr ⟨rfl, by rw [hzz], ⟨j, by omega, hyx⟩, hz⟩⟩
                    rw [← hzz] at hcm hcm2 hz hz1 hzb
                    have HYX := Kp.mk hyx
                    clear hno hyx hzz
                    go_wp2
                    go_roundw
                    case rel => exact ⟨j + 1, _, _, by omega, by go_num, HS2, ⟨(HB.it.setCell (Nat.le_refl _) _).setCell (by show G ≤ G + 1; omega) _⟩, HO2, HM2⟩
                    case measure => simp [intOf]; omega
                  · have hz1 : decide (Fc x > 0) = false := by simpa using hz
                    have HS2 : Kp (St5 T x Fc (upd Fc x (Fc x - 1)) O (O.set k x) (j + 1) O Fc) := ⟨.inl ⟨rfl, rfl, fun i hi h9 => hz h9.2⟩⟩
                    clear hno hyx
                    go_wp2
                    go_roundw
                    case rel => exact ⟨j + 1, _, _, by omega, by go_num, HS2, HB, HO, HM⟩
                    case measure => simp [intOf]; omega
                · exact absurd (he.trans hyx.symm) (rd_ne HTN.it hi HJ.it)
              · have hq1 : (rd T j == x) = false := by rw [beq_eq_false_iff_ne]; exact hyx
                have HS2 : Kp (St5 T x F (upd F x (F x - 1)) out (out.set k x) (j + 1) O Fc) := ⟨by
                  rcases HS.it with ⟨hO, hFc, hno⟩ | ⟨hO, hFc, ⟨i, hi, he⟩, hz⟩
                  · refine .inl ⟨hO, hFc, fun i hi h9 => ?_⟩
                    rcases Nat.lt_succ_iff_lt_or_eq.1 hi with h8 | rfl
                    · exact hno i h8 h9
                    · exact hyx h9.1
                  · exact .inr ⟨hO, hFc, ⟨i, by omega, he⟩, hz⟩⟩
                obtain ⟨y, hy⟩ : ∃ y, y = rd T j := ⟨_, rfl⟩
                rw [← hy] at hcT hq1
                clear hyx hy hcm
                go_wp2
                go_roundw
                case rel => exact ⟨j + 1, _, _, by omega, by go_num, HS2, HB, HO, HM⟩
                case measure => simp [intOf]; omega
            · have hd2 : decide ((j : Int) < (t : Int)) = false := by simp; omega
              obtain rfl : t = j := by omega
              have HFIN : Kp (keepS rm os (k + 1) = (P ++ [x], upd F x (F x - 1)) ∧ O = out.set k x ∧ Fc = upd F x (F x - 1) ∨ keepS rm os (k + 1) = (P ++ [0], F) ∧ O = out ∧ Fc = F) := ⟨by
                rcases HS.it with ⟨hO, hFc, hno⟩ | ⟨hO, hFc, _, hz⟩
                · refine .inr ⟨HNN.it (Int.not_lt.1 fun hz => ?_), hO, hFc⟩
                  by_cases hm : x ∈ T
                  · obtain ⟨i, hi, e⟩ := List.mem_iff_getElem.1 hm
                    exact hno i (by rw [TL.it]; exact hi) ⟨by rw [rd_lt hi]; exact e, hz⟩
                  · rw [HOT.it x hm] at hz; omega
                · exact .inl ⟨HP.it hz, hO, hFc⟩⟩
              have HO3 : Kp (Blk wr G ((keepS rm os (k + 1)).1 ++ List.replicate (n1 - (k + 1)) 0)) := ⟨by
                rcases HFIN.it with ⟨a, b, c⟩ | ⟨a, b, c⟩
                · rw [a, ← HST.it, ← b]; exact HO.it
                · rw [a, ← HSY.it, ← b]; exact HO.it⟩
              have HM3 : Kp (Blk wr (G + 1) (T.map (keepS rm os (k + 1)).2)) := ⟨by
                rcases HFIN.it with ⟨a, b, c⟩ | ⟨a, b, c⟩
                · rw [a, ← c]; exact HM.it
                · rw [a, ← c]; exact HM.it⟩
              clear HS HFIN HO HM
              go_wp2
              go_roundw
              case rel => exact ⟨k + 1, by omega, by go_num, HB, HO3, HM3⟩
              case measure => simp [intOf]; omega
        have hd : decide ((k : Int) < (n1 : Int)) = false := by simp; omega
        obtain rfl : n1 = k := by omega
        have HSM := Kp.mk (share_fi os ms (by rw [← HT.it, ← TL.it]; omega))
        obtain ⟨L, hL⟩ : ∃ L, L = (keepS rm os n1).1 := ⟨_, rfl⟩
        obtain ⟨rk, hrk⟩ : ∃ rk, rk = (keepS rm os n1).2 := ⟨_, rfl⟩
        have HLL : Kp (L.length = n1) := ⟨by rw [hL]; exact keepS_len rm os n1⟩
        have HFI : Kp (∀ k, k ≤ n1 → Fi T L (fillS T L rk k) k 1000001) := ⟨by
          intro k hk
          refine fillS_ok HTN.it (by rw [hrk]; exact RB.it n1) ?_ k (by rw [HLL.it]; exact hk)
          rw [hrk, hL, HT.it, HRM.it, ← L1.it]
          exact HSM.it⟩
        have HEND : Kp (share os ms = (fillS T L rk n1).1) := ⟨by unfold share; rw [if_neg (by rw [← HT.it, ← TL.it]; omega), hL, hrk, HT.it, HRM.it, L1.it]⟩
        rw [← hrk] at HM
        rw [← hL, Nat.sub_self, List.replicate_zero, List.append_nil] at HO
        clear hL hrk HSM hkn hd hk RB RO
        go_wp2
        go_loopw [134] (fun i wr => ∃ k : Nat, k ≤ n1 ∧ i = .int .i64 k ∧ Kp (Below G w5 wr) ∧ Kp (Blk wr G ((fillS T L rk k).1 ++ L.drop k)) ∧ Kp (Blk wr (G + 1) (T.map (fillS T L rk k).2.1))) (fun i _ => n1 - (intOf i).toNat)
        case atStart => exact ⟨0, by omega, rfl, HB, ⟨by simpa [fillS] using HO.it⟩, HM⟩
        case round =>
          clear HB HO HM
          obtain ⟨k, hk, rfl, HB, HO, HM⟩ := hrel
          by_cases hkn : k < n1
          · have hd : decide ((k : Int) < (n1 : Int)) = true := by simp; omega
            have hkL : k < L.length := by rw [HLL.it]; exact hkn
            have hFL := fillS_len T L rk k
            have hlen := fill_len hFL (Nat.le_of_lt hkL)
            have hrdk := rd_told hFL hkL
            have HSF := Kp.mk (fun x => set_fill (x := x) hFL hkL)
            have HSY := Kp.mk (stay_fill (l := (fillS T L rk k).1) hkL)
            have hbd := (HFI.it k hk).bd
            obtain ⟨out, hout0⟩ : ∃ out, out = (fillS T L rk k).1 ++ L.drop k := ⟨_, rfl⟩
            have HOU := Kp.mk hout0
            rw [← hout0] at HSF HSY hlen hrdk HO
            have HLN : Kp (out.length = n1) := ⟨by rw [hlen]; exact HLL.it⟩
            have HRK := Kp.mk hrdk
            obtain ⟨wo, rfl⟩ : ∃ wo : World, wo = wr := ⟨_, rfl⟩
            by_cases hz : rd L k = 0
            · obtain ⟨a1, a2, a3, a4⟩ := (HFI.it k hk).next hkL hz
              have hlow := (HFI.it k hk).low
              have hN : fillS T L rk (k + 1) = ((fillS T L rk k).1 ++ [rd T (nxt (fillS T L rk k).2.1 T (fillS T L rk k).2.2)], upd (fillS T L rk k).2.1 (rd T (nxt (fillS T L rk k).2.1 T (fillS T L rk k).2.2)) ((fillS T L rk k).2.1 (rd T (nxt (fillS T L rk k).2.1 T (fillS T L rk k).2.2)) - 1), nxt (fillS T L rk k).2.1 T (fillS T L rk k).2.2) := by
                rw [fillS, if_neg (by omega)]
              obtain ⟨J, hJ⟩ : ∃ J, J = nxt (fillS T L rk k).2.1 T (fillS T L rk k).2.2 := ⟨_, rfl⟩
              obtain ⟨F, hF⟩ : ∃ F, F = (fillS T L rk k).2.1 := ⟨_, rfl⟩
              rw [← hJ] at a1 a2 a3 a4 hN
              rw [← hF] at a3 a4 hN hbd HM hlow
              have hJt : J < t := by rw [TL.it]; exact a2
              have HZ : Kp (∀ l, l < J → F (rd T l) = 0) := ⟨fun l hl => by
                rcases Nat.lt_or_ge l (fillS T L rk k).2.2 with h9 | h9
                · exact hlow l h9
                · exact a4 l h9 hl⟩
              have HNZ := Kp.mk a3
              have HN := Kp.mk hN
              have HBD := Kp.mk hbd
              have HRZ : Kp (rd out k = 0) := ⟨by rw [hrdk]; exact hz⟩
              clear hJ hF hN a1 a2 a3 a4 hbd hlow hz hout0 hlen hrdk hkL hFL
              go_wp2
              go_loopw [139] (fun i wr => ∃ (j : Nat) (O : List Int) (Fc : Int → Int), j ≤ t ∧ i = .int .i64 j ∧ Kp (St7 T J F (upd F (rd T J) (F (rd T J) - 1)) out (out.set k (rd T J)) j O Fc) ∧ Kp (Below G w5 wr) ∧ Kp (Blk wr G O) ∧ Kp (Blk wr (G + 1) (T.map Fc))) (fun i _ => t - (intOf i).toNat)
              case atStart => exact ⟨0, out, F, by omega, rfl, ⟨.inl ⟨rfl, rfl, fun i hi => by omega⟩⟩, HB, HO, HM⟩
              case round =>
                clear HB HO HM
                obtain ⟨j, O, Fc, hj, rfl, HS, HB, HO, HM⟩ := hrel
                by_cases hjt : j < t
                · have hd2 : decide ((j : Int) < (t : Int)) = true := by simp; omega
                  have h59 : Below w5.heap.size w5 wr := by rw [← HG.it]; exact HB.it
                  obtain ⟨b', o', hA', hlt', hcT⟩ := (R5.it.below h59).get hjt
                  cases hA'
                  have hjT : j < T.length := by rw [← TL.it]; exact hjt
                  have hcm := HM.it.cell (j := j) (by rw [List.length_map]; exact hjT)
                  rw [rd_map hjT] at hcm
                  have HJ := Kp.mk hjT
                  have HTP : Kp (rd T j ≠ 0) := ⟨by
                    have h9 : rd T j ∈ T := by rw [rd_lt hjT]; exact List.getElem_mem hjT
                    rw [HT.it] at h9 ⊢
                    have := ((team_what ms).2 _).1 h9
                    omega⟩
                  clear hlt' h59 hjT
                  rcases HS.it with ⟨hO, hFc, hno⟩ | ⟨hO, hFc, hJj⟩
                  · subst hO
                    subst hFc
                    have hco := HO.it.cell (j := k) (by rw [HLN.it]; exact hkn)
                    rw [HRZ.it] at hco
                    by_cases hjJ : j = J
                    · subst hjJ
                      have hnz := HNZ.it
                      have hzb := HBD.it (rd T j)
                      obtain ⟨x, hx⟩ : ∃ x, x = rd T j := ⟨_, rfl⟩
                      have HX := Kp.mk hx
                      rw [← hx] at hcT hcm hnz hzb HS
                      obtain ⟨z, hzz⟩ : ∃ z, z = Fc x := ⟨_, rfl⟩
                      rw [← hzz] at hcm hnz hzb
                      have hz1 : decide (z > 0) = true := by simp; omega
                      have hz2 : 0 < z := by omega
                      have hfo := HO.it.free k
                      have hcm2 : (wr.setCell ⟨G, k, none⟩ (.int .i64 x)).cell? ⟨G + 1, j, none⟩ = some (.int .i64 z) := by rw [cell_other _ _ _ _ (by show G + 1 ≠ G; omega)]; exact hcm
                      have hfm2 : (wr.setCell ⟨G, k, none⟩ (.int .i64 x)).frozen? ⟨G + 1, j, none⟩ = false := by rw [World.frozen?_setCell]; exact HM.it.free j
                      have HO2 : Kp (Blk ((wr.setCell ⟨G, k, none⟩ (.int .i64 x)).setCell ⟨G + 1, j, none⟩ (.int .i64 (z - 1))) G (O.set k x)) := ⟨by unfold Blk; rw [other_block _ _ _ (by show G ≠ G + 1; omega)]; exact HO.it.store k x⟩
                      have HM2 : Kp (Blk ((wr.setCell ⟨G, k, none⟩ (.int .i64 x)).setCell ⟨G + 1, j, none⟩ (.int .i64 (z - 1))) (G + 1) (T.map (upd Fc x (z - 1)))) := ⟨by
                        have h9 : Blk (wr.setCell ⟨G, k, none⟩ (.int .i64 x)) (G + 1) (T.map Fc) := by unfold Blk; rw [other_block _ _ _ (by show G + 1 ≠ G; omega)]; exact HM.it
                        have h8 := h9.store j (z - 1)
                        rwa [map_upd HTN.it HJ.it, ← HX.it] at h8⟩
                      have HS2 : Kp (St7 T j Fc (upd Fc (rd T j) (Fc (rd T j) - 1)) O (O.set k (rd T j)) (j + 1) (O.set k x) (upd Fc x (z - 1))) := ⟨.inr ⟨by rw [HX.it], by rw [hzz, HX.it], by omega⟩⟩
                      clear hno hx hzz HS
                      go_wp2
                      go_roundw
                      case rel => exact ⟨j + 1, _, _, by omega, by go_num, HS2, ⟨(HB.it.setCell (Nat.le_refl _) _).setCell (by show G ≤ G + 1; omega) _⟩, HO2, HM2⟩
                      case measure => simp [intOf]; omega
                    · have hjlt : j < J := by
                        rcases Nat.lt_or_ge j J with h9 | h9
                        · exact h9
                        · exact absurd (hno J (by omega)) HNZ.it
                      rw [HZ.it j hjlt] at hcm
                      have HS2 : Kp (St7 T J Fc (upd Fc (rd T J) (Fc (rd T J) - 1)) O (O.set k (rd T J)) (j + 1) O Fc) := ⟨.inl ⟨rfl, rfl, fun i hi => HZ.it i (by omega)⟩⟩
                      obtain ⟨y, hy⟩ : ∃ y, y = rd T j := ⟨_, rfl⟩
                      rw [← hy] at hcT
                      clear hno hy hjJ
                      go_wp2
                      go_roundw
                      case rel => exact ⟨j + 1, _, _, by omega, by go_num, HS2, HB, HO, HM⟩
                      case measure => simp [intOf]; omega
                  · have hJT : J < T.length := by rw [← TL.it]; exact hJt
                    have hco := HO.it.cell (j := k) (by rw [hO, List.length_set, HLN.it]; exact hkn)
                    rw [hO, rd_set (by rw [HLN.it]; exact hkn)] at hco
                    have hne : (rd T J == 0) = false := by
                      rw [beq_eq_false_iff_ne]
                      have h9 : rd T J ∈ T := by rw [rd_lt hJT]; exact List.getElem_mem hJT
                      rw [HT.it] at h9 ⊢
                      have := ((team_what ms).2 _).1 h9
                      omega
                    have HS2 : Kp (St7 T J F (upd F (rd T J) (F (rd T J) - 1)) out (out.set k (rd T J)) (j + 1) O Fc) := ⟨.inr ⟨hO, hFc, by omega⟩⟩
                    obtain ⟨y, hy⟩ : ∃ y, y = rd T j := ⟨_, rfl⟩
                    rw [← hy] at hcT
                    obtain ⟨u, hu⟩ : ∃ u, u = rd T J := ⟨_, rfl⟩
                    rw [← hu] at hco hne
                    clear hy hu hJT hO hFc hcm
                    go_wp2
                    go_roundw
                    case rel => exact ⟨j + 1, _, _, by omega, by go_num, HS2, HB, HO, HM⟩
                    case measure => simp [intOf]; omega
                · have hd2 : decide ((j : Int) < (t : Int)) = false := by simp; omega
                  obtain rfl : t = j := by omega
                  have HFIN : Kp (O = out.set k (rd T J) ∧ Fc = upd F (rd T J) (F (rd T J) - 1)) := ⟨by
                    rcases HS.it with ⟨_, _, hno⟩ | ⟨hO, hFc, _⟩
                    · exact absurd (hno J hJt) HNZ.it
                    · exact ⟨hO, hFc⟩⟩
                  have HO3 : Kp (Blk wr G ((fillS T L rk (k + 1)).1 ++ L.drop (k + 1))) := ⟨by rw [HN.it, ← HSF.it, ← HFIN.it.1]; exact HO.it⟩
                  have HM3 : Kp (Blk wr (G + 1) (T.map (fillS T L rk (k + 1)).2.1)) := ⟨by rw [HN.it, ← HFIN.it.2]; exact HM.it⟩
                  clear HS HFIN HO HM
                  go_wp2
                  go_roundw
                  case rel => exact ⟨k + 1, by omega, by go_num, HB, HO3, HM3⟩
                  case measure => simp [intOf]; omega
            · have hzq : (rd L k == 0) = false := by rw [beq_eq_false_iff_ne]; exact hz
              have HN : Kp (fillS T L rk (k + 1) = ((fillS T L rk k).1 ++ [rd L k], (fillS T L rk k).2.1, (fillS T L rk k).2.2)) := ⟨by rw [fillS, if_pos hz]⟩
              have HO3 : Kp (Blk wo G ((fillS T L rk (k + 1)).1 ++ L.drop (k + 1))) := ⟨by rw [HN.it]; simp only; rw [← HSY.it]; exact HO.it⟩
              have HM3 : Kp (Blk wo (G + 1) (T.map (fillS T L rk (k + 1)).2.1)) := ⟨by rw [HN.it]; exact HM.it⟩
              have hco := HO.it.cell (j := k) (by rw [HLN.it]; exact hkn)
              rw [hrdk] at hco
              obtain ⟨u, hu⟩ : ∃ u, u = rd L k := ⟨_, rfl⟩
              rw [← hu] at hco hzq
              clear hu hz hout0 hlen hrdk hkL hFL hbd HO HM
              go_wp2
              go_loop [139] (fun i => ∃ j : Nat, j ≤ t ∧ i = .int .i64 j) (fun i => t - (intOf i).toNat)
              case atStart => exact ⟨0, by omega, rfl⟩
              case round =>
                obtain ⟨j, hj, rfl⟩ := hrel
                by_cases hjt : j < t
                · have hd2 : decide ((j : Int) < (t : Int)) = true := by simp; omega
                  have h59 : Below w5.heap.size w5 wo := by rw [← HG.it]; exact HB.it
                  obtain ⟨b', o', hA', hlt', hcT⟩ := (R5.it.below h59).get hjt
                  cases hA'
                  clear hlt' h59
                  go_wp2
                  go_round
                  case rel => exact ⟨j + 1, by omega, by go_num⟩
                  case measure => simp [intOf]; omega
                · have hd2 : decide ((j : Int) < (t : Int)) = false := by simp; omega
                  obtain rfl : t = j := by omega
                  go_wp2
                  go_roundw
                  case rel => exact ⟨k + 1, by omega, by go_num, HB, HO3, HM3⟩
                  case measure => simp [intOf]; omega
          · have hd : decide ((k : Int) < (n1 : Int)) = false := by simp; omega
            obtain rfl : n1 = k := by omega
            go_wp2
            go_ret
            refine ⟨_, rfl, ?_, ?_⟩
            · have h9 := HO.it
              rw [List.drop_of_length_le (by rw [HLL.it]; exact Nat.le_refl _), List.append_nil, ← HEND.it] at h9
              have hl9 : (share os ms).length = n1 := by rw [share_len]; exact L1.it
              have h8 := h9.own (base := w.heap.size) (by rw [HG.it]; exact B5.it.size) (by rw [hl9]; omega)
              rwa [hl9] at h8
            · exact B5.it.trans (HB.it.mono (by rw [HG.it]; exact B5.it.size))

end
end Go.Proofs.Ytemnhmnompehoaa
