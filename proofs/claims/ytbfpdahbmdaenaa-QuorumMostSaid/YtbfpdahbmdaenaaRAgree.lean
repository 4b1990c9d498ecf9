/-
  The reference's Agreed.
-/
import Derived.Test.YtbfpdahbmdaenaaPlain3
import Derived.Deep.QuietTactic
import Derived.BigQuiet
namespace Go.Proofs.Ytbfpdahbmdaenaa
open Go.RowKit

theorem inR_nat {x : Int} (h : inR x = true) : ∃ m : Nat, x = m ∧ m < 5 := by
  unfold inR at h
  simp only [Bool.and_eq_true, decide_eq_true_eq] at h
  exact ⟨x.toNat, by omega, by omega⟩

set_option maxHeartbeats 2000000 in
theorem ragreed_any (A1 A2 : Option Addr) (n1 c1 n2 c2 : Nat) (vs : List Int) (r : Int → Int) (w : World) (h1 : Rd w A1 n1 vs) : Calls Try.prog 22 #[.agg #[.slice A1 n1 c1, .slice A2 n2 c2], .agg (arr5 r)] w fun e w' =>
    e = .returned (.int .i64 (agr r vs)) ∧ Below w.heap.size w w' := by
  obtain ⟨W0, hW0⟩ : ∃ W0, W0 = (w.alloc (.cells #[.slice A1 n1 c1, .slice A2 n2 c2] 24)).alloc (.cells (arr5 r) 25) := ⟨_, rfl⟩
  have hb : Below w.heap.size w W0 := by rw [hW0]; exact ((Below.refl _ _).alloc (Nat.le_refl _) _).alloc (by simp) _
  have hbd := h1.bd
  have HL : Kp (vs.length = n1) := ⟨h1.len⟩
  have HR := Kp.mk (h1.below hb)
  have hB0 : Kp (W0.heap[w.heap.size]? = some (.cells #[.slice A1 n1 c1, .slice A2 n2 c2] 24 (0, 0))) := ⟨by rw [hW0]; exact blk_old _ (blk_new _ _)⟩
  have hB1 : Kp (W0.heap[w.heap.size + 1]? = some (.cells (arr5 r) 25 (0, 0))) := ⟨by rw [hW0]; have := blk_new (w.alloc (.cells #[.slice A1 n1 c1, .slice A2 n2 c2] 24)) (.cells (arr5 r) 25); rwa [World.size_alloc] at this⟩
  have HB := Kp.mk hb
  have HW0 := Kp.mk hW0
  clear h1 hb hW0
  go_enter Try.func22, Try.ntmps22
  go_wp2
  go_loopw [17] (fun i wr => ∃ k : Nat, k ≤ n1 ∧ i = .int .i64 k ∧ Kp (∀ j, j < k → inR (rd vs j) = true) ∧ Kp (W0 = wr)) (fun i _ => n1 - (intOf i).toNat)
  case atStart => exact ⟨0, by omega, rfl, ⟨fun j hj => by omega⟩, ⟨HW0.it⟩⟩
  case round =>
    obtain ⟨k, hk, rfl, hin, hw⟩ := hrel
    have hw' := hw.it
    subst hw'
    clear hw
    by_cases hkn : k < n1
    · obtain ⟨b, o, hA, hlt, hcell⟩ := HR.it.get hkn
      cases hA
      have hl : k < vs.length := by rw [HL.it]; exact hkn
      by_cases hx : inR (rd vs k) = true
      · obtain ⟨m, hm, hm5⟩ := inR_nat hx
        rw [hm] at hcell
        have HX := Kp.mk hx
        clear hx hm hl
        go_wp2
        go_roundw
        case rel => exact ⟨k + 1, by omega, by go_num, ⟨fun j hj => by rcases Nat.lt_succ_iff_lt_or_eq.1 hj with h | rfl; exact hin.it j h; exact HX.it⟩, ⟨by trivial⟩⟩
        case measure => simp [intOf]; omega
      · rw [Bool.not_eq_true] at hx
        have HE := Kp.mk (agr_out (r := r) (vs := vs) (by rw [rd_lt hl]; exact List.getElem_mem _) hx)
        obtain ⟨y, hy⟩ : ∃ y, y = rd vs k := ⟨_, rfl⟩
        rw [← hy] at hcell
        have hyx : ¬ (0 ≤ y ∧ y < 5) := by rw [hy]; intro h; unfold inR at hx; simp at hx; omega
        clear hx hy hl
        by_cases hy0 : y < 0
        · clear hyx
          go_wp2
          go_ret
          exact ⟨ret_int HE.it.symm, HB.it⟩
        · have hy5 : 4 < y := by omega
          clear hyx
          go_wp2
          go_ret
          exact ⟨ret_int HE.it.symm, HB.it⟩
    · have hall : Kp (∀ j, j < n1 → inR (rd vs j) = true) := ⟨fun j hj => hin.it j (by omega)⟩
      have hA0 : W0.cell? ⟨w.heap.size, 0, none⟩ = some (.slice A1 n1 c1) := blk_cell hB0.it rfl
      clear hin
      go_wp2
      go_loopw [31, 7, 8] (fun i bst fnd wr => ∃ (k : Nat) (best : Int) (found : Bool), k ≤ n1 ∧ i = .int .i64 k ∧ bst = .int .i64 best ∧ fnd = .bool found ∧ Kp (Seen r vs (vs.take k) best found) ∧ Kp (∃ q, wr = W0.drewN q)) (fun i _ _ _ => n1 - (intOf i).toNat)
      case atStart => exact ⟨0, 0, false, by omega, rfl, rfl, rfl, ⟨seen_nil r vs⟩, ⟨0, rfl⟩⟩
      case round =>
        clear hA0
        obtain ⟨k, best, found, hk, rfl, rfl, rfl, hs, hW⟩ := hrel
        have HA0 : Kp (∀ q, (W0.drewN q).cell? ⟨w.heap.size, 0, none⟩ = some (.slice A1 n1 c1)) := ⟨fun q => blk_cell hB0.it rfl⟩
        have hA0 : wr.cell? ⟨w.heap.size, 0, none⟩ = some (.slice A1 n1 c1) := by obtain ⟨q, rfl⟩ := hW.it; exact HA0.it q
        by_cases hkn2 : k < n1
        · obtain ⟨b, o, hA, hlt, hc0⟩ := HR.it.get hkn2
          cases hA
          have hd : decide ((k : Int) < (n1 : Int)) = true := by simp; omega
          have hl : k < vs.length := by rw [HL.it]; exact hkn2
          obtain ⟨m, hm, hm5⟩ := inR_nat (hall.it k hkn2)
          have hcell : wr.cell? ⟨b, o + k, none⟩ = some (.int .i64 m) := by obtain ⟨q, rfl⟩ := hW.it; rw [← hm]; exact hc0
          have HM := Kp.mk hm
          obtain ⟨y, hy⟩ : ∃ y, y = r (m : Int) := ⟨_, rfl⟩
          have hp : Kp (∀ q, (W0.drewN q).cell? ⟨w.heap.size + 1, m, none⟩ = some (.int .i64 y)) := ⟨fun q => by rw [hy]; exact blk_cell hB1.it (arr5_get r m hm5)⟩
          have HY := Kp.mk hy
          have htk : Kp (vs.take (k + 1) = vs.take k ++ [rd vs k]) := ⟨by rw [List.take_succ_eq_append_getElem hl, rd_lt hl]⟩
          clear hm hy hl hc0
          obtain ⟨wo, hwo⟩ : ∃ wo : World, wo = wr := ⟨_, rfl⟩
          rw [← hwo] at hW hA0 hcell ⊢
          clear hwo
          go_wp2
          go_loopw [38, 11] (fun i t wr => ∃ j : Nat, j ≤ n1 ∧ i = .int .i64 j ∧ t = .int .i64 (cnt (fun x => decide (y ≤ r x)) vs j : Nat) ∧ Kp (∃ q, wr = W0.drewN q)) (fun i _ _ => n1 - (intOf i).toNat)
          case atStart => exact ⟨0, by omega, rfl, by rw [cnt_zero]; rfl, hW⟩
          case round =>
            obtain ⟨j, hj, rfl, rfl, hV⟩ := hrel
            have hcb := cnt_le (fun x => decide (y ≤ r x)) vs j
            clear hA0 hcell
            by_cases hjn : j < n1
            · obtain ⟨b', o', hA', hlt', hc0'⟩ := HR.it.get hjn
              cases hA'
              have hl' : j < vs.length := by rw [HL.it]; exact hjn
              obtain ⟨m', hm', hm5'⟩ := inR_nat (hall.it j hjn)
              have hcell' : wr.cell? ⟨b, o + j, none⟩ = some (.int .i64 m') := by obtain ⟨q, rfl⟩ := hV.it; rw [← hm']; exact hc0'
              obtain ⟨z, hz⟩ : ∃ z, z = r (m' : Int) := ⟨_, rfl⟩
              have hp1 : wr.cell? ⟨w.heap.size + 1, m, none⟩ = some (.int .i64 y) := by obtain ⟨q, rfl⟩ := hV.it; exact hp.it q
              have hp2 : wr.cell? ⟨w.heap.size + 1, m', none⟩ = some (.int .i64 z) := by obtain ⟨q, rfl⟩ := hV.it; rw [hz]; exact blk_cell hB1.it (arr5_get r m' hm5')
              have HH : y ≤ z → Kp (cnt (fun x => decide (y ≤ r x)) vs (j + 1) = cnt (fun x => decide (y ≤ r x)) vs j + 1) := fun h => ⟨cnt_hit hl' (by rw [decide_eq_true_eq, hm', ← hz]; exact h)⟩
              have HN : ¬ y ≤ z → Kp (cnt (fun x => decide (y ≤ r x)) vs (j + 1) = cnt (fun x => decide (y ≤ r x)) vs j) := fun h => ⟨cnt_miss hl' (by rw [decide_eq_false_iff_not, hm', ← hz]; exact h)⟩
              clear hc0' hl' hm' hz
              obtain ⟨cc, hcc⟩ : ∃ cc, cc = cnt (fun x => decide (y ≤ r x)) vs j := ⟨_, rfl⟩
              rw [← hcc] at hcb HH HN ⊢
              clear hcc
              by_cases hyz : y ≤ z
              · have HC := HH hyz
                clear HH HN
                go_wp2_with fail
                go_quiet (fail)
                go_wp2
                go_roundw
                case rel => exact ⟨j + 1, by omega, by go_num, by rw [HC.it]; go_num, ⟨by obtain ⟨q, rfl⟩ := hV.it; exact ⟨_, World.drewN_drewN ..⟩⟩⟩
                case measure => simp [intOf]; omega
              · have HC := HN hyz
                clear HH HN
                go_wp2_with fail
                go_quiet (fail)
                go_wp2
                go_roundw
                case rel => exact ⟨j + 1, by omega, by go_num, by rw [HC.it], ⟨by obtain ⟨q, rfl⟩ := hV.it; exact ⟨_, World.drewN_drewN ..⟩⟩⟩
                case measure => simp [intOf]; omega
            · have hcc : Kp (cnt (fun x => decide (y ≤ r x)) vs j = vs.countP (fun x => decide (y ≤ r x))) := ⟨by rw [show j = vs.length by rw [HL.it]; omega, cnt_all]⟩
              have hA1 : wr.cell? ⟨w.heap.size, 0, none⟩ = some (.slice (some ⟨b, o, none⟩) n1 c1) := by obtain ⟨q, rfl⟩ := hV.it; exact HA0.it q
              have hp1 : wr.cell? ⟨w.heap.size + 1, m, none⟩ = some (.int .i64 y) := by obtain ⟨q, rfl⟩ := hV.it; exact hp.it q
              obtain ⟨cc, hce⟩ : ∃ cc, cc = cnt (fun x => decide (y ≤ r x)) vs j := ⟨_, rfl⟩
              have HHALF : Kp (Half r vs (r (rd vs k)) ↔ n1 < 2 * cc) := ⟨by rw [HM.it, ← HY.it, hce, hcc.it]; unfold Half; rw [HL.it]⟩
              have HRV : Kp (r (rd vs k) = y) := ⟨by rw [HM.it, HY.it]⟩
              rw [← hce] at hcb ⊢
              clear hce hcc
              by_cases hh : n1 < 2 * cc
              · cases found with
                | false =>
                  have HS : Kp (Seen r vs (vs.take (k + 1)) y true) := ⟨by rw [htk.it, ← HRV.it]; exact seen_yes hs.it (HHALF.it.2 hh) (.inl rfl)⟩
                  go_wp2
                  go_roundw
                  case rel => exact ⟨k + 1, y, true, by omega, by go_num, rfl, rfl, HS, hV⟩
                  case measure => simp [intOf]; omega
                | true =>
                  by_cases hb : best < y
                  · have HS : Kp (Seen r vs (vs.take (k + 1)) y true) := ⟨by rw [htk.it, ← HRV.it]; exact seen_yes hs.it (HHALF.it.2 hh) (.inr (by rw [HRV.it]; exact hb))⟩
                    go_wp2
                    go_roundw
                    case rel => exact ⟨k + 1, y, true, by omega, by go_num, rfl, rfl, HS, hV⟩
                    case measure => simp [intOf]; omega
                  · have HS : Kp (Seen r vs (vs.take (k + 1)) best true) := ⟨by rw [htk.it]; exact seen_no hs.it (by rintro ⟨_, h | h⟩; cases h; rw [HRV.it] at h; exact hb h)⟩
                    go_wp2
                    go_roundw
                    case rel => exact ⟨k + 1, best, true, by omega, by go_num, rfl, rfl, HS, hV⟩
                    case measure => simp [intOf]; omega
              · have HS : Kp (Seen r vs (vs.take (k + 1)) best found) := ⟨by rw [htk.it]; exact seen_no hs.it (fun h => hh (HHALF.it.1 h.1))⟩
                go_wp2
                go_roundw
                case rel => exact ⟨k + 1, best, found, by omega, by go_num, rfl, rfl, HS, hV⟩
                case measure => simp [intOf]; omega
        · have HE : Kp (agr r vs = best) := ⟨by
            have e : vs.take k = vs := List.take_of_length_le (by rw [HL.it]; omega)
            have := hs.it
            rw [e] at this
            refine seen_all (fun v hv => ?_) this
            obtain ⟨i, hi, rfl⟩ := List.getElem_of_mem hv
            rw [← rd_lt hi]
            exact hall.it i (by rw [← HL.it]; exact hi)⟩
          have HBL : Kp (Below w.heap.size w wr) := ⟨by obtain ⟨q, rfl⟩ := hW.it; exact below_drewN HB.it q⟩
          go_wp2
          go_ret
          exact ⟨ret_int HE.it.symm, HBL.it⟩

end Go.Proofs.Ytbfpdahbmdaenaa
