/-
  GroupStill: by no other way that is as even more parts would be where they were.
-/
import Derived.Test.YtemnhmnompehoaaAwake
import Derived.Test.YtemnhmnompehoaaRShW
import Derived.Test.YtemnhmnompehoaaStill
import Derived.Test.YtemnhmnompehoaaOpen
namespace Go.Proofs.Ytemnhmnompehoaa
open Go.ChangeShapes Go.WideShapes Go.ChangeAt Go.RowKit

/-- How many of the first k stand where they stood. -/
def stK (l os : List Int) : Nat → Nat
  | 0 => 0
  | k + 1 => if rd l k = rd os k then stK l os k + 1 else stK l os k
theorem stK_le (l os : List Int) : ∀ k, stK l os k ≤ k
  | 0 => Nat.le_refl _
  | k + 1 => by have := stK_le l os k; unfold stK; split <;> omega
theorem stK_zip (l os : List Int) : ∀ k, k ≤ l.length → k ≤ os.length → stK l os k = ((l.take k).zip (os.take k)).countP (fun p => p.1 == p.2)
  | 0, _, _ => rfl
  | k + 1, h1, h2 => by
    have ih := stK_zip l os k (by omega) (by omega)
    rw [List.take_succ_eq_append_getElem (by omega), List.take_succ_eq_append_getElem (by omega), List.zip_append (by rw [List.length_take, List.length_take]; omega), List.countP_append, ← ih]
    rw [show stK l os (k + 1) = if rd l k = rd os k then stK l os k + 1 else stK l os k from rfl]
    rw [rd_lt (by omega), rd_lt (by omega)]
    by_cases e : l[k] = os[k] <;> simp [e]
theorem stK_all {l os : List Int} {n : Nat} (h1 : l.length = n) (h2 : os.length = n) : ((stK l os n : Nat) : Int) = stayS l os := by
  rw [stK_zip l os n (by omega) (by omega)]
  unfold stayS
  rw [List.take_of_length_le (by omega), List.take_of_length_le (by omega)]

set_option maxHeartbeats 1000000 in
theorem stay_any (A A1 : Option Addr) (n c c1 B : Nat) (l os : List Int) (w : World) (h : Rd w A n l) (h1 : Rd w A1 n os) (hn : n ≤ 200) (hbox : w.cell? ⟨B, 0, none⟩ = some (.slice A1 n c1)) :
    Calls Try.prog 20 #[.slice A n c, .pointer (some ⟨B, 0, none⟩)] w fun e w' => e = .returned (.int .i64 (stK l os n : Nat)) ∧ Below w.heap.size w w' := by
  have H := Kp.mk h
  have H1 := Kp.mk h1
  have HX := Kp.mk hbox
  clear h h1 hbox
  go_enter Try.func20, Try.ntmps20
  go_wp2
  go_loopw [4, 8] (fun a i wr => ∃ k : Nat, k ≤ n ∧ i = .int .i64 k ∧ a = .int .i64 (stK l os k : Nat) ∧ Kp (∃ q, wr = w.drewN q)) (fun _ i _ => n - (intOf i).toNat)
  case atStart => exact ⟨0, by omega, rfl, rfl, ⟨0, rfl⟩⟩
  case round =>
    obtain ⟨k, hk, rfl, rfl, hW⟩ := hrel
    by_cases hkn : k < n
    · obtain ⟨b1, o1, hA, _, e1⟩ := H.it.get hkn
      obtain ⟨b2, o2, hB, _, e2⟩ := H1.it.get hkn
      cases hA
      cases hB
      have f1 : wr.cell? ⟨b1, o1 + k, none⟩ = some (.int .i64 (rd l k)) := by obtain ⟨q, rfl⟩ := hW.it; exact e1
      have f2 : wr.cell? ⟨b2, o2 + k, none⟩ = some (.int .i64 (rd os k)) := by obtain ⟨q, rfl⟩ := hW.it; exact e2
      have f3 : wr.cell? ⟨B, 0, none⟩ = some (.slice (some ⟨b2, o2, none⟩) n c1) := by obtain ⟨q, rfl⟩ := hW.it; exact HX.it
      have hd : decide ((k : Int) < (n : Int)) = true := by simp; omega
      have hb := stK_le l os k
      clear e1 e2
      cases hx : rd l k == rd os k with
      | true =>
        have HN : Kp (stK l os (k + 1) = stK l os k + 1) := ⟨by rw [show stK l os (k + 1) = if rd l k = rd os k then stK l os k + 1 else stK l os k from rfl, if_pos (by simpa using hx)]⟩
        go_wp2_with fail
        go_quiet (fail)
        go_wp2
        go_roundw
        case rel => exact ⟨k + 1, by omega, by go_num, by rw [HN.it]; go_num, ⟨by obtain ⟨q, rfl⟩ := hW.it; exact ⟨_, World.drewN_drewN ..⟩⟩⟩
        case measure => simp [intOf]; omega
      | false =>
        have HN : Kp (stK l os (k + 1) = stK l os k) := ⟨by rw [show stK l os (k + 1) = if rd l k = rd os k then stK l os k + 1 else stK l os k from rfl, if_neg (by simpa using hx)]⟩
        go_wp2_with fail
        go_quiet (fail)
        go_wp2
        go_roundw
        case rel => exact ⟨k + 1, by omega, by go_num, by rw [HN.it], ⟨by obtain ⟨q, rfl⟩ := hW.it; exact ⟨_, World.drewN_drewN ..⟩⟩⟩
        case measure => simp [intOf]; omega
    · obtain rfl : n = k := by omega
      go_wp2
      go_ret
      exact ⟨rfl, by obtain ⟨q, hq⟩ := hW.it; rw [hq]; exact below_drewN (Below.refl _ _) q⟩

theorem set_mem {W T : List Int} {k : Nat} {v : Int} (h : ∀ o ∈ W.take k, o ∈ T) (hv : v ∈ T) (hk : k < W.length) : ∀ o ∈ (W.set k v).take (k + 1), o ∈ T := by
  intro o ho
  rw [List.take_succ_eq_append_getElem (by rw [List.length_set]; exact hk), List.mem_append, List.take_set_of_le (Nat.le_refl _)] at ho
  rcases ho with ho | ho
  · exact h o ho
  · simp at ho
    rw [ho]
    exact hv
set_option linter.unusedVariables false in
set_option maxRecDepth 100000 in
set_option maxHeartbeats 8000000 in
theorem still_walk (A1 A2 A3 : Option Addr) (n1 c1 n2 c2 n3 c3 : Nat) (os ms xs : List Int) (w : World) (h1 : Rd w A1 n1 os) (h2 : Rd w A2 n2 ms) (h3 : Rd w A3 n3 xs) (e1 : A1 = none → c1 = 0) (e2 : A2 = none → c2 = 0) (w1 : ∀ x ∈ os, Wf x) (w2 : ∀ x ∈ ms, Wf x) (w3 : ∀ x ∈ xs, Wf x) :
    Calls Try.prog 5 #[.slice A1 n1 c1, .slice A2 n2 c2, .slice A3 n3 c3] w fun e w' => e = .returned (.bool true) ∧ Below w.heap.size w w' := by
  have hb1 := h1.bd
  have hb2 := h2.bd
  have hb3 := h3.bd
  obtain ⟨wa, hwa⟩ : ∃ wa, wa = w.alloc (.cells #[.slice A1 n1 c1] 22) := ⟨_, rfl⟩
  have HBa : Kp (Below w.heap.size w wa) := ⟨by rw [hwa]; exact (Below.refl _ w).alloc (Nat.le_refl _) _⟩
  by_cases hl : 200 < n1 ∨ 100 < n2 ∨ n3 < n1
  · have AW := Kp.mk (awake_any wa)
    rw [hwa] at AW HBa
    clear h1 h2 h3 e1 e2 w1 w2 w3 hwa
    by_cases hl1 : 200 < n1
    · have hk1 : (200 : Int) < ↑n1 := by omega
      clear hl
      go_enter Try.func5, Try.ntmps5
      go_wp2_with (go_at_call 13; refine AW.it.mono ?_; rintro e w' ⟨rfl, hb'⟩)
      go_ret
      exact ⟨rfl, HBa.it.trans (hb'.mono HBa.it.size)⟩
    · have hk1 : (↑n1 : Int) ≤ 200 := by omega
      by_cases hl2 : 100 < n2
      · have hk2 : (100 : Int) < ↑n2 := by omega
        clear hl
        go_enter Try.func5, Try.ntmps5
        go_wp2_with (go_at_call 13; refine AW.it.mono ?_; rintro e w' ⟨rfl, hb'⟩)
        go_ret
        exact ⟨rfl, HBa.it.trans (hb'.mono HBa.it.size)⟩
      · have hk2 : (↑n2 : Int) ≤ 100 := by omega
        have hk3 : (↑n3 : Int) < ↑n1 := by omega
        clear hl
        go_enter Try.func5, Try.ntmps5
        go_wp2_with (go_at_call 13; refine AW.it.mono ?_; rintro e w' ⟨rfl, hb'⟩)
        go_ret
        exact ⟨rfl, HBa.it.trans (hb'.mono HBa.it.size)⟩
  · have hk1 : (↑n1 : Int) ≤ 200 := by omega
    have hk2 : (↑n2 : Int) ≤ 100 := by omega
    have hk3 : (↑n1 : Int) ≤ ↑n3 := by omega
    have hN1 : n1 ≤ 200 := by omega
    have hN2 : n2 ≤ 100 := by omega
    have L1 := Kp.mk h1.len
    have HBa' : Below w.heap.size w wa := HBa.it
    have R1 := Kp.mk (h1.below HBa')
    have R2 := Kp.mk (h2.below HBa')
    have R3 := Kp.mk (h3.below HBa')
    have E1 := Kp.mk e1
    have E2 := Kp.mk e2
    have V1 := Kp.mk w1
    have V2 := Kp.mk w2
    have V3 := Kp.mk w3
    have HX : Kp (wa.cell? ⟨w.heap.size, 0, none⟩ = some (.slice A1 n1 c1)) := ⟨by rw [hwa]; exact blk_cell (blk_new _ _) rfl⟩
    have hs1 : wa.heap.size = w.heap.size + 1 := by rw [hwa]; simp
    have TM := Kp.mk (rteam_any A2 n2 c2 ms wa R2.it (by omega))
    have hmk := make_ints n1 (by omega)
    have HWA := Kp.mk hwa
    rw [hwa] at TM
    clear h1 h2 h3 e1 e2 w1 w2 w3 hl HBa' hwa
    go_enter Try.func5, Try.ntmps5
    go_wp2_with fail
    go_at_call 18
    refine TM.it.mono ?_
    rintro e wd ⟨vd, rfl, od, hbd⟩
    clear TM
    rw [← HWA.it] at od hbd
    obtain ⟨T, hT⟩ : ∃ T, T = team ms := ⟨_, rfl⟩
    obtain ⟨t, ht⟩ : ∃ t, t = T.length := ⟨_, rfl⟩
    have htl : t ≤ 100 := by have := team_len ms; have := R2.it.len; rw [ht, hT]; omega
    rw [← hT] at od
    obtain ⟨At, ct, et, _, _, _, rt⟩ := od.form3 (by omega)
    rw [← ht] at et rt
    subst et
    have RT := Kp.mk rt
    have HT := Kp.mk hT
    have Ht := Kp.mk ht
    have HBd : Kp (Below w.heap.size w wd) := ⟨HBa.it.trans (hbd.mono HBa.it.size)⟩
    have S1 := Kp.mk (R1.it.below hbd)
    have S3 := Kp.mk (R3.it.below hbd)
    have S2 := Kp.mk (R2.it.below hbd)
    have hsd : w.heap.size < wd.heap.size := by have := hbd.size; omega
    have HXd : Kp (wd.cell? ⟨w.heap.size, 0, none⟩ = some (.slice A1 n1 c1)) := ⟨(hbd.cell (p := ⟨w.heap.size, 0, none⟩) (by show w.heap.size < _; omega)).trans HX.it⟩
    clear od hbd rt hT ht R1 R3 HX HBa hs1 E1 HWA
    by_cases ht0 : t = 0
    · subst ht0
      go_wp2_with (go_at_call 13; refine (awake_any _).mono ?_; rintro e w' ⟨rfl, hb'⟩)
      go_ret
      exact ⟨rfl, HBd.it.trans (hb'.mono HBd.it.size)⟩
    · have ht1 : 0 < t := by omega
      have ht2 : ((t : Int) == 0) = false := by simp; omega
      have hx0 := HXd.it
      have HL1 : Kp (T.length = t) := ⟨Ht.it.symm⟩
      have HG : Kp (Blk (wd.alloc (.cells (zrow n1) 3)) wd.heap.size (List.replicate n1 0)) := ⟨blk_zrow wd n1⟩
      clear Ht
      go_wp2
      go_loopw [45] (fun i wr => ∃ (k : Nat) (W : List Int), k ≤ n1 ∧ i = .int .i64 k ∧ Kp (W.length = n1 ∧ ∀ o ∈ W.take k, o ∈ T) ∧ Kp (Blk wr wd.heap.size W) ∧ Kp (Below wd.heap.size wd wr)) (fun i _ => n1 - (intOf i).toNat)
      case atStart => exact ⟨0, List.replicate n1 0, by omega, rfl, ⟨by simp, by simp⟩, HG, ⟨(Below.refl _ _).alloc (Nat.le_refl _) _⟩⟩
      case round =>
        clear HG
        obtain ⟨k, W, hk, rfl, HW, HK, HB⟩ := hrel
        have hx1 : wr.cell? ⟨w.heap.size, 0, none⟩ = some (.slice A1 n1 c1) := (HB.it.cell (p := ⟨w.heap.size, 0, none⟩) hsd).trans hx0
        by_cases hkn : k < n1
        · have T1 := Kp.mk (S1.it.below HB.it)
          have T3 := Kp.mk (S3.it.below HB.it)
          have TT := Kp.mk (RT.it.below HB.it)
          obtain ⟨b1, o1, hA1, hl1, _⟩ := S1.it.get hkn
          obtain ⟨b3, o3, hA3, hl3, _⟩ := S3.it.get (k := k) (by omega)
          obtain ⟨b1', o1', hA1', _, q1⟩ := T1.it.get hkn
          obtain ⟨b3', o3', hA3', _, q3⟩ := T3.it.get (k := k) (by omega)
          cases hA1
          cases hA3
          cases hA1'
          cases hA3'
          have WX : Kp (Wf (rd xs k)) := ⟨V3.it _ (by rw [rd_lt (by rw [S3.it.len]; omega)]; exact List.getElem_mem _)⟩
          obtain ⟨x, hx⟩ : ∃ x, x = rd xs k := ⟨_, rfl⟩
          rw [← hx] at q3 WX
          obtain ⟨y, hy⟩ : ∃ y, y = rd os k := ⟨_, rfl⟩
          rw [← hy] at q1
          clear hx hy
          obtain ⟨j, hj, hjt⟩ : ∃ j : Nat, (IntKind.u64.wrap x).tmod (t : Int) = (j : Int) ∧ j < t := by
            have h0 := Int.tmod_nonneg (t : Int) (wrap_u64_nonneg x)
            have h1 := Int.tmod_lt_of_pos (IntKind.u64.wrap x) (show (0 : Int) < (t : Int) by omega)
            exact ⟨((IntKind.u64.wrap x).tmod (t : Int)).toNat, by omega, by omega⟩
          obtain ⟨bt, ot, hAt, _, qt⟩ := TT.it.get hjt
          cases hAt
          have hj1 : (j : Int) < (t : Int) := by omega
          obtain ⟨v, hv⟩ : ∃ v, v = rd T j := ⟨_, rfl⟩
          have HV : Kp (v ∈ T) := ⟨by rw [hv, rd_lt (by rw [HL1.it]; exact hjt)]; exact List.getElem_mem _⟩
          rw [← hv] at qt
          clear hv
          have HK2 := Kp.mk (HK.it.store k v)
          have hkW : k < W.length := by rw [HW.it.1]; exact hkn
          have qk := HK.it.cell hkW
          have fk := HK.it.free k
          have TW : Kp (Rd (wr.setCell ⟨wd.heap.size, k, none⟩ (.int .i64 v)) (some ⟨bt, ot, none⟩) t T) := ⟨RT.it.below (HB.it.setCell (Nat.le_refl _) _)⟩
          generalize rd W k = old at qk
          have n1' : ¬ b1 = wd.heap.size := by omega
          have n3' : ¬ b3 = wd.heap.size := by omega
          have n5' : ¬ w.heap.size = wd.heap.size := by omega
          have HQ := Kp.mk (set_mem HW.it.2 HV.it hkW)
          cases hin : inB T y with
          | true =>
            have HI := Kp.mk hin
            clear hin
            go_wp2_with (go_at_call 19; refine (contains_any (some ⟨bt, ot, none⟩) t ct T y _ TW.it).mono ?_; rintro e wz ⟨rfl, rfl⟩; rw [HI.it])
            · have hlW : k < (W.set k v).length := by rw [List.length_set]; exact hkW
              have HK3 := Kp.mk (HK2.it.store k y)
              have HQ3 := Kp.mk (set_mem (W := W.set k v) (k := k) (v := y) (by rw [List.take_set_of_le (Nat.le_refl _)]; exact HW.it.2) (inB_iff.1 HI.it) hlW)
              go_roundw
              case rel => exact ⟨k + 1, _, by omega, by go_num, ⟨by rw [List.length_set, List.length_set]; exact HW.it.1, HQ3.it⟩, HK3, ⟨(HB.it.setCell (Nat.le_refl _) _).setCell (Nat.le_refl _) _⟩⟩
              case measure => simp [intOf]; omega
            · go_roundw
              case rel => exact ⟨k + 1, _, by omega, by go_num, ⟨by rw [List.length_set]; exact HW.it.1, HQ.it⟩, HK2, ⟨HB.it.setCell (Nat.le_refl _) _⟩⟩
              case measure => simp [intOf]; omega
          | false =>
            have HI := Kp.mk hin
            clear hin
            go_wp2_with (go_at_call 19; refine (contains_any (some ⟨bt, ot, none⟩) t ct T y _ TW.it).mono ?_; rintro e wz ⟨rfl, rfl⟩; rw [HI.it])
            go_roundw
            case rel => exact ⟨k + 1, _, by omega, by go_num, ⟨by rw [List.length_set]; exact HW.it.1, HQ.it⟩, HK2, ⟨HB.it.setCell (Nat.le_refl _) _⟩⟩
            case measure => simp [intOf]; omega
        · obtain rfl : n1 = k := by omega
          have HWL : Kp (W.length = n1) := ⟨HW.it.1⟩
          have HWT : Kp (∀ o ∈ W, o ∈ T) := ⟨by have := HW.it.2; rw [List.take_of_length_le (by rw [HWL.it]; omega)] at this; exact this⟩
          have TT := Kp.mk (RT.it.below HB.it)
          have T1 := Kp.mk (S1.it.below HB.it)
          have T2 := Kp.mk (S2.it.below HB.it)
          have HBr : Kp (Below w.heap.size w wr) := ⟨HBd.it.trans (HB.it.mono HBd.it.size)⟩
          have hsr : w.heap.size < wr.heap.size := by have := HB.it.size; omega
          obtain ⟨g, hg⟩ : ∃ g, g = wd.heap.size := ⟨_, rfl⟩
          have HWR := Kp.mk (HK.it.rd (by rw [HWL.it]; omega))
          rw [← hg] at HK HWR ⊢
          rw [HWL.it] at HWR
          clear HW HB hkn hk hx0 hsd HBd S1 S2 S3 RT V3 HXd hg
          obtain ⟨w5, rfl⟩ : ∃ w5 : World, w5 = wr := ⟨_, rfl⟩
          go_wp2
          go_loop [10, 11, 90] (fun a b j => ∃ (x y : Int) (i : Nat), i ≤ t ∧ j = .int .i64 i ∧ a = .int .i64 x ∧ b = .int .i64 y ∧ 0 ≤ x ∧ x ≤ n1 ∧ 0 ≤ y ∧ y ≤ n1 ∧ Kp (∀ i', i' < i → x ≤ (cnt (· == rd T i') W n1 : Nat) ∧ ((cnt (· == rd T i') W n1 : Nat) : Int) ≤ y)) (fun _ _ j => t - (intOf j).toNat)
          case atStart => exact ⟨n1, 0, 0, by omega, rfl, rfl, rfl, by omega, by omega, by omega, by omega, ⟨fun i' hi => by omega⟩⟩
          case round =>
            obtain ⟨x, y, i, hi, rfl, rfl, rfl, hx0, hx2, hy0, hy1, HC⟩ := hrel
            by_cases hit : i < t
            · obtain ⟨bt, ot, hA, hlt, hcell⟩ := TT.it.get hit
              cases hA
              go_wp2
              go_loop [14, 96] (fun a b => ∃ k : Nat, k ≤ n1 ∧ b = .int .i64 k ∧ a = .int .i64 (cnt (· == rd T i) W k : Nat)) (fun _ b => n1 - (intOf b).toNat)
              case atStart => exact ⟨0, by omega, rfl, by rw [cnt_zero]; rfl⟩
              case round =>
                obtain ⟨k, hk, rfl, rfl⟩ := hrel
                by_cases hkn : k < n1
                · have hcc := HK.it.cell (j := k) (by rw [HWL.it]; exact hkn)
                  have hcl := cnt_le (· == rd T i) W k
                  cases hv : rd W k == rd T i with
                  | true =>
                    have HN : Kp (cnt (· == rd T i) W (k + 1) = cnt (· == rd T i) W k + 1) := ⟨cnt_hit (by rw [HWL.it]; exact hkn) hv⟩
                    go_wp2
                    go_round
                    case rel => exact ⟨k + 1, by omega, by go_num, by rw [HN.it]; go_num⟩
                    case measure => simp [intOf]; omega
                  | false =>
                    have HN : Kp (cnt (· == rd T i) W (k + 1) = cnt (· == rd T i) W k) := ⟨cnt_miss (by rw [HWL.it]; exact hkn) hv⟩
                    go_wp2
                    go_round
                    case rel => exact ⟨k + 1, by omega, by go_num, by rw [HN.it]⟩
                    case measure => simp [intOf]; omega
                · obtain rfl : k = n1 := by omega
                  have hz0 := cnt_le (· == rd T i) W k
                  obtain ⟨z, hze⟩ : ∃ z : Int, z = ((cnt (· == rd T i) W k : Nat) : Int) := ⟨_, rfl⟩
                  have HZ := Kp.mk hze
                  rw [← hze]
                  have hz1 : 0 ≤ z := by omega
                  have hz2 : z ≤ k := by omega
                  clear hze hz0
                  go_wp2
                  exact ⟨⟨min x z, max y z, i + 1, by omega, by go_num, rfl, rfl, by omega, by omega, by omega, by omega, ⟨fun i' hi' => by
                    rcases Nat.lt_succ_iff_lt_or_eq.1 hi' with h | rfl
                    · have := HC.it i' h; omega
                    · have := HZ.it; omega⟩⟩, by simp [intOf]; omega⟩
            · obtain rfl : i = t := by omega
              by_cases hyx : 1 < y - x
              · go_wp2_with (go_at_call 13; refine (awake_any _).mono ?_; rintro e w' ⟨rfl, hb'⟩)
                go_ret
                exact ⟨rfl, HBr.it.trans (hb'.mono HBr.it.size)⟩
              · have hyx' : y - x ≤ 1 := by omega
                have LAW : Kp (stayS W os ≤ stayS (share os ms) os) := ⟨by
                  refine still_law os ms W (by rw [← HT.it, HL1.it]; omega) (by rw [HWL.it, L1.it]) (by rw [← HT.it]; exact HWT.it) ?_
                  rw [← HT.it]
                  intro a ha b hb
                  obtain ⟨i, hi, rfl⟩ := List.mem_iff_getElem.1 ha
                  obtain ⟨j, hj, rfl⟩ := List.mem_iff_getElem.1 hb
                  have g1 := HC.it i (by rw [← HL1.it]; exact hi)
                  have g2 := HC.it j (by rw [← HL1.it]; exact hj)
                  rw [← HWL.it, cnt_all, rd_lt hi] at g1
                  rw [← HWL.it, cnt_all, rd_lt hj] at g2
                  omega⟩
                clear hyx HC
                go_wp2_with fail
                go_at_call 16
                refine (share_any A1 A2 n1 c1 n2 c2 os ms w5 T1.it T2.it E2.it V1.it V2.it (by omega) (by omega)).mono ?_
                rintro e wc ⟨vc, rfl, oc, hbc⟩
                obtain ⟨Ac, cc, ec, _, _, _, rc⟩ := oc.form3 (by rw [share_len, L1.it]; omega)
                rw [share_len, L1.it] at ec rc
                subst ec
                have RC := Kp.mk rc
                have X1 := Kp.mk ((hbc.cell (p := ⟨w.heap.size, 0, none⟩) hsr).trans hx1)
                have O1 := Kp.mk (T1.it.below hbc)
                have WC := Kp.mk (HWR.it.below hbc)
                have HBc : Kp (Below w.heap.size w wc) := ⟨HBr.it.trans (hbc.mono HBr.it.size)⟩
                have hsc : w.heap.size < wc.heap.size := by have := hbc.size; omega
                have SL : Kp ((share os ms).length = n1) := ⟨by rw [share_len, L1.it]⟩
                clear oc rc hbc hx1
                go_wp2_with fail
                go_at_call 20
                refine (stay_any Ac A1 n1 cc c1 w.heap.size (share os ms) os wc RC.it O1.it hN1 X1.it).mono ?_
                rintro e wf ⟨rfl, hbf⟩
                have X2 := Kp.mk ((hbf.cell (p := ⟨w.heap.size, 0, none⟩) hsc).trans X1.it)
                have O2 := Kp.mk (O1.it.below hbf)
                have WF := Kp.mk (WC.it.below hbf)
                have HBf : Kp (Below w.heap.size w wf) := ⟨HBc.it.trans (hbf.mono HBc.it.size)⟩
                clear hbf
                obtain ⟨z1, hz1⟩ : ∃ z : Nat, z = stK (share os ms) os n1 := ⟨_, rfl⟩
                have Z1 := Kp.mk hz1
                rw [← hz1]
                clear hz1
                go_wp2_with fail
                go_at_call 20
                refine (stay_any (some ⟨g, 0, none⟩) A1 n1 n1 c1 w.heap.size W os wf WF.it O2.it hN1 X2.it).mono ?_
                rintro e wg ⟨rfl, hbg⟩
                have HBg : Kp (Below w.heap.size w wg) := ⟨HBf.it.trans (hbg.mono HBf.it.size)⟩
                clear hbg
                obtain ⟨z2, hz2⟩ : ∃ z : Nat, z = stK W os n1 := ⟨_, rfl⟩
                have Z2 := Kp.mk hz2
                rw [← hz2]
                clear hz2
                have hzz : (z2 : Int) ≤ (z1 : Int) := by
                  have := LAW.it
                  rw [← stK_all HWL.it L1.it, ← stK_all SL.it L1.it, ← Z1.it, ← Z2.it] at this
                  exact this
                go_wp2_with (go_at_call 13; refine (awake_any _).mono ?_; rintro e w' ⟨rfl, hb'⟩)
                go_ret
                exact ⟨rfl, HBg.it.trans (hb'.mono HBg.it.size)⟩

set_option linter.unusedVariables false in
set_option maxRecDepth 100000 in
theorem groupStill_lifted (os : Os) (started : os.Started) (H : Type) (enc : TypeId × Value → H) :
    ReturnsInHanded {} Try.checked os 5 .any (Rows.groupStillSpec.pre6 enc Try.prog Try.f5 Rows.groupStillRow.domain false) (Rows.groupStillSpec.post enc Try.prog Try.f5 false true false false) := by
  refine returnsInHanded_of_change_sized (C := Try.checked) (by kernel_rfl) started (by kernel_rfl) Try.func5
    (ChangeSpec.witness6 (enc := enc) (C := Try.checked) false ⟨#[], #[.slice none 0 0, .slice none 0 0, .slice none 0 0], []⟩ 8 (by kernel_rfl) (by kernel_rfl) (by kernel_rfl) (by kernel_rfl)) ?_
  intro W base args ds gs before hval0 hW hcnd hsz0 _
  have hval : ∀ (j : Nat) t v, Try.f5.params[j]? = some t → args[j]? = some v → Value.okWide Try.prog W .any base t v := hval0
  have hW' := hW
  obtain ⟨p, q, hA0, hV, rfl, hfz, hnd⟩ := hW
  have hA : DataW.TrodAll enc Try.prog W 0 (fun _ => true) true Try.f5.params.toList args.toList ds p := hA0
  have hsz : (DataW.weightsEach Try.prog (Try.f5.params.toList ++ Rows.groupStillSpec.plain.varTypes Try.prog) (ds ++ gs)).all (· ≤ reachBytes) = true := hsz0
  rw [Try.params5] at hA hval hsz
  obtain ⟨v0, vs0, d0, ds0, p0, q0, hargs, rfl, rfl, h0, r0⟩ := trodAll_cons hA
  obtain ⟨v1, vs1, d1, ds1, p1, q1, rfl, rfl, rfl, h1, r1⟩ := trodAll_cons r0
  obtain ⟨v2, vs2, d2, ds2, p2, q2, rfl, rfl, rfl, h2, r2⟩ := trodAll_cons r1
  obtain ⟨rfl, rfl, rfl⟩ := trodAll_nil r2
  obtain rfl : args = #[v0, v1, v2] := by cases args; simp_all
  obtain ⟨rfl, rfl⟩ := trodVars_none hV
  have k0 := h0
  have lt0 : ∀ x ∈ p0, x.block < W.heap.size := by obtain ⟨m, hm⟩ := k0; exact DataW.trod_lt m _ _ _ hm
  obtain ⟨A0, n0, c0, xs0, rfl, ra0, ea0, wf0⟩ := sl_open2 (hval 0 22 v0 rfl rfl) h0 (fun x hx => by simpa using List.all_eq_true.1 hsz x (DataW.weights_mem_each (j := 0) (t := 22) rfl rfl x hx))
  have k1 := h1
  have lt1 : ∀ x ∈ p1, x.block < W.heap.size := by obtain ⟨m, hm⟩ := k1; exact DataW.trod_lt m _ _ _ hm
  obtain ⟨A1, n1, c1, xs1, rfl, ra1, ea1, wf1⟩ := sl_open2 (hval 1 22 v1 rfl rfl) h1 (fun x hx => by simpa using List.all_eq_true.1 hsz x (DataW.weights_mem_each (j := 1) (t := 22) rfl rfl x hx))
  have k2 := h2
  have lt2 : ∀ x ∈ p2, x.block < W.heap.size := by obtain ⟨m, hm⟩ := k2; exact DataW.trod_lt m _ _ _ hm
  obtain ⟨A2, n2, c2, xs2, rfl, ra2, ea2, wf2⟩ := sl_open2 (hval 2 22 v2 rfl rfl) h2 (fun x hx => by simpa using List.all_eq_true.1 hsz x (DataW.weights_mem_each (j := 2) (t := 22) rfl rfl x hx))
  clear hA0 hval0 hsz hsz0
  refine (still_walk A0 A1 A2 n0 c0 n1 c1 n2 c2 xs0 xs1 xs2 W ra0 ra1 ra2 ea0 ea1 wf0 wf1 wf2).mono fun e W' ⟨he, bel⟩ => ?_
  subst he
  exact ⟨_, rfl, _, _, _, [], _, [], hW', trodAll_mk1 (shut_bool Try.underlying4 _), (trodAll_cons_mk (Below.trod (by kernel_rfl) (by kernel_rfl) (of_decide_eq_true (by kernel_rfl)) k0 bel lt0) (trodAll_cons_mk (Below.trod (by kernel_rfl) (by kernel_rfl) (of_decide_eq_true (by kernel_rfl)) k1 bel lt1) (trodAll_cons_mk (Below.trod (by kernel_rfl) (by kernel_rfl) (of_decide_eq_true (by kernel_rfl)) k2 bel lt2) trodAll_mk0))), rfl, bel.frame _, fun h => by cases h⟩

theorem GroupStill_holds : Rows.GroupStillSaid :=
  OpenClaim.holds_of_wide 5 Try.f5 rfl rfl rfl rfl rfl rfl rfl ⟨rfl, rfl, rfl, rfl, rfl⟩ rfl rfl rfl rfl rfl (by kernel_rfl) Try.func5 (by kernel_rfl)
    (of_decide_eq_true (by kernel_rfl)) (by unfold Func.isWrapper; first | (rw [if_pos (by decide +kernel)]; kernel_rfl) | (rw [if_neg (by decide +kernel)]; exact ⟨rfl, rfl⟩))
    (fun os started H enc _ => groupStill_lifted os started H enc)

end Go.Proofs.Ytemnhmnompehoaa
