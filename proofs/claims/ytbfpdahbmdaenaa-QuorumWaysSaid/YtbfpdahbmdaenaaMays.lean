/-
  May; the reference's one.
-/
import Derived.Test.YtbfpdahbmdaenaaMay
namespace Go.Proofs.Ytbfpdahbmdaenaa
open Go.RowKit

theorem blk_new1 (w : World) (o1 o2 : Obj) : ((w.alloc o1).alloc o2).heap[w.heap.size + 1]? = some o2 := by
  have := blk_new (w.alloc o1) o2
  rwa [World.size_alloc] at this

section
variable (A1 A2 : Option Addr) (n1 c1 n2 c2 : Nat) (vs ls : List Int) (A3 A4 : Option Addr) (n3 c3 n4 c4 : Nat) (vs' ls' : List Int) (w : World) (h1 : Rd w A1 n1 vs) (h2 : Rd w A2 n2 ls) (h3 : Rd w A3 n3 vs') (h4 : Rd w A4 n4 ls')
include h1 h2 h3 h4

set_option maxHeartbeats 1000000 in
theorem may_any : Calls Try.prog 19 #[.agg #[.slice A1 n1 c1, .slice A2 n2 c2], .agg #[.slice A3 n3 c3, .slice A4 n4 c4]] w fun e w' =>
    e = .returned (.int .i64 (errM vs ls vs' ls')) ∧ Below w.heap.size w w' := by
  have hb : Below w.heap.size w ((w.alloc (.cells #[.slice A1 n1 c1, .slice A2 n2 c2] 24)).alloc (.cells #[.slice A3 n3 c3, .slice A4 n4 c4] 24)) := ((Below.refl _ _).alloc (Nat.le_refl _) _).alloc (by simp) _
  have HP := Kp.mk (places_any A1 A2 n1 c1 n2 c2 vs ls _ (h1.below hb) (h2.below hb))
  have H3 := Kp.mk (h3.below hb)
  have H4 := Kp.mk (h4.below hb)
  clear hb h1 h2 h3 h4
  go_enter Try.func19, Try.ntmps19
  go_wp2_with fail
  refine HP.it.mono ?_
  rintro e w1 ⟨⟨p, rfl, hp⟩, hb1⟩
  have HPP := Kp.mk hp
  unfold arr5
  have hz1 := hb1.size
  simp at hz1
  have hz1a : w.heap.size + 1 < w1.heap.size := by omega
  have hc2 : w1.cell? ⟨w.heap.size + 1, 0, none⟩ = some (.slice A3 n3 c3) := (hb1.cell (p := ⟨w.heap.size + 1, 0, none⟩) (by simp)).trans (blk_cell (blk_new1 _ _ _) rfl)
  have hc3 : w1.cell? ⟨w.heap.size + 1, 1, none⟩ = some (.slice A4 n4 c4) := (hb1.cell (p := ⟨w.heap.size + 1, 1, none⟩) (by simp)).trans (blk_cell (blk_new1 _ _ _) rfl)
  clear hp
  have H3' := Kp.mk (H3.it.below (hb1.mono (Nat.le_refl _)))
  have H4' := Kp.mk (H4.it.below (hb1.mono (Nat.le_refl _)))
  have HB1 : Kp (Below w.heap.size w w1) := ⟨(((Below.refl _ _).alloc (Nat.le_refl _) _).alloc (by simp) _).trans (hb1.mono (by simp; omega))⟩
  clear hb1
  go_wp2_with fail
  refine (places_any A3 A4 n3 c3 n4 c4 vs' ls' _ (H3'.it.below ((Below.refl _ _).alloc (Nat.le_refl _) _)) (H4'.it.below ((Below.refl _ _).alloc (Nat.le_refl _) _))).mono ?_
  rintro e w2 ⟨⟨p', rfl, hp⟩, hb2⟩
  have HPP' := Kp.mk hp
  unfold arr5
  have hz2 := hb2.size
  simp at hz2
  have HB2 : Kp (Below w.heap.size w w2) := ⟨(HB1.it.alloc (by omega) _).trans (hb2.mono (by simp; omega))⟩
  have hba : w2.heap[w1.heap.size]? = some (.cells (arr5 p) 50 (0, 0)) := (hb2.block _ (by simp)).trans (blk_new _ _)
  clear hp hb2 hc2 hc3
  cases hg : goodB vs ls with
  | false =>
    have HE : Kp (errM vs ls vs' ls' = 110) := ⟨by simp [errM, hg]⟩
    clear hg
    go_wp2
    go_ret
    exact ⟨ret_int HE.it.symm, HB2.it.alloc (by omega) _⟩
  | true =>
    cases hg' : goodB vs' ls' with
    | false =>
      have HE : Kp (errM vs ls vs' ls' = 110) := ⟨by simp [errM, hg']⟩
      clear hg hg'
      go_wp2
      go_ret
      exact ⟨ret_int HE.it.symm, HB2.it.alloc (by omega) _⟩
    | true =>
      have HE : Kp (errM vs ls vs' ls' = mayOf p p') := ⟨by rw [errM, hg, hg', HPP.it hg, HPP'.it hg']; rfl⟩
      clear hg hg'
      have hba' : (w2.alloc (.cells (arr5 p') 50)).heap[w1.heap.size]? = some (.cells (arr5 p) 50 (0, 0)) := blk_old _ hba
      have hbb : (w2.alloc (.cells (arr5 p') 50)).heap[w2.heap.size]? = some (.cells (arr5 p') 50 (0, 0)) := blk_new _ _
      have HBA := Kp.mk hba'
      have HBB := Kp.mk hbb
      clear hba hba' hbb
      go_wp2
      go_loopw [9, 27] (fun t i wr => ∃ k : Nat, k ≤ 5 ∧ i = .int .i64 k ∧ t = .int .i64 (dif p p' k : Nat) ∧ Kp (¬ jump p p' k) ∧ Kp (Below w.heap.size w wr) ∧ Kp (wr.heap[w1.heap.size]? = some (.cells (arr5 p) 50 (0, 0))) ∧ Kp (wr.heap[w2.heap.size]? = some (.cells (arr5 p') 50 (0, 0)))) (fun _ i _ => 5 - (intOf i).toNat)
      case atStart => exact ⟨0, by omega, rfl, rfl, ⟨by rintro ⟨m, hm, _⟩; omega⟩, ⟨HB2.it.alloc (by omega) _⟩, HBA, HBB⟩
      case round =>
        obtain ⟨k, hk, rfl, rfl, hno, hB, hba, hbb⟩ := hrel
        have hdl := dif_le p p' k
        by_cases hk5 : k < 5
        · have hd : decide ((k : Int) < 5) = true := by simp; omega
          have e1 := blk_cell hba.it (arr5_get p k hk5)
          have e2 := blk_cell hbb.it (arr5_get p' k hk5)
          obtain ⟨x, hx⟩ : ∃ x, x = p k := ⟨_, rfl⟩
          obtain ⟨y, hy⟩ : ∃ y, y = p' k := ⟨_, rfl⟩
          rw [← hx] at e1
          rw [← hy] at e2
          have HX := Kp.mk hx
          have HY := Kp.mk hy
          clear hx hy
          by_cases hj : x = 0 ∧ y = 2
          · have HM : Kp (mayOf p p' = 111) := ⟨mayOf_jump hk5 (by rw [← HX.it]; exact hj.1) (by rw [← HY.it]; exact hj.2)⟩
            obtain ⟨rfl, rfl⟩ := hj
            go_wp2_with fail
            go_quiet (fail)
            go_wp2
            go_ret
            exact ⟨ret_int (by rw [HE.it, HM.it]), below_drewN hB.it _⟩
          · have HJ : Kp (¬ jump p p' (k + 1)) := ⟨jump_succ hno.it (by rw [← HX.it, ← HY.it]; exact hj)⟩
            by_cases hxy : x = y
            · have HD : Kp (dif p p' (k + 1) = dif p p' k) := ⟨by rw [dif, if_pos (by rw [← HX.it, ← HY.it]; exact hxy)]; rfl⟩
              subst hxy
              have q1 : (x != x) = false := by simp
              by_cases hx0 : x = 0
              · subst hx0
                clear hj
                go_wp2_with fail
                go_quiet (fail)
                go_wp2
                go_roundw
                case rel => exact ⟨k + 1, by omega, by go_num, by rw [HD.it], HJ, ⟨below_drewN hB.it _⟩, hba, hbb⟩
                case measure => simp [intOf]; omega
              · have q2 : (x == 0) = false := by simpa using hx0
                clear hj hx0
                go_wp2_with fail
                go_quiet (fail)
                go_wp2
                go_roundw
                case rel => exact ⟨k + 1, by omega, by go_num, by rw [HD.it], HJ, ⟨below_drewN hB.it _⟩, hba, hbb⟩
                case measure => simp [intOf]; omega
            · have HD : Kp (dif p p' (k + 1) = dif p p' k + 1) := ⟨by rw [dif, if_neg (by rw [← HX.it, ← HY.it]; exact hxy)]⟩
              have q1 : (x != y) = true := by simpa using hxy
              by_cases hx0 : x = 0
              · have q3 : (y == 2) = false := by simp; omega
                have q2 : (x == 0) = true := by simpa using hx0
                clear hj hxy hx0
                go_wp2_with fail
                go_quiet (fail)
                go_wp2
                go_roundw
                case rel => exact ⟨k + 1, by omega, by go_num, by rw [HD.it]; go_num, HJ, ⟨below_drewN hB.it _⟩, hba, hbb⟩
                case measure => simp [intOf]; omega
              · have q2 : (x == 0) = false := by simpa using hx0
                clear hj hx0 hxy
                go_wp2_with fail
                go_quiet (fail)
                go_wp2
                go_roundw
                case rel => exact ⟨k + 1, by omega, by go_num, by rw [HD.it]; go_num, HJ, ⟨below_drewN hB.it _⟩, hba, hbb⟩
                case measure => simp [intOf]; omega
        · have e : k = 5 := by omega
          subst e
          have HM := Kp.mk (mayOf_else hno.it)
          by_cases h1 : dif p p' 5 = 1
          · have HV : Kp (mayOf p p' = 0) := ⟨by rw [HM.it, if_pos h1]⟩
            rw [h1]
            clear h1 hdl
            go_wp2
            go_ret
            exact ⟨ret_int (by rw [HE.it, HV.it]), hB.it⟩
          · have HV : Kp (mayOf p p' = 111) := ⟨by rw [HM.it, if_neg h1]⟩
            have q : ((dif p p' 5 : Int) != 1) = true := by simp; omega
            clear h1
            go_wp2
            go_ret
            exact ⟨ret_int (by rw [HE.it, HV.it]), hB.it⟩
end

end Go.Proofs.Ytbfpdahbmdaenaa
