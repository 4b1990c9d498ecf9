/-
  Check, May.
-/
import Derived.Test.YtbfpdahbmdaenaaPlaces
import Derived.Test.YtbfpdahbmdaenaaPlain2
namespace Go.Proofs.Ytbfpdahbmdaenaa
open Go.RowKit

/-- What Check answers. -/
def errC (vs ls : List Int) : Int := if goodB vs ls then 0 else 110
theorem errC_good {vs ls : List Int} (h : goodB vs ls = true) : errC vs ls = 0 := by simp [errC, h]
theorem errC_bad {vs ls : List Int} (h : goodB vs ls = false) : errC vs ls = 110 := by simp [errC, h]

section
variable (A1 A2 : Option Addr) (n1 c1 n2 c2 : Nat) (vs ls : List Int) (w : World) (h1 : Rd w A1 n1 vs) (h2 : Rd w A2 n2 ls)
include h1 h2

set_option maxHeartbeats 400000 in
theorem check_any : Calls Try.prog 13 #[.agg #[.slice A1 n1 c1, .slice A2 n2 c2]] w fun e w' =>
    e = .returned (.int .i64 (errC vs ls)) ∧ Below w.heap.size w w' := by
  have hb : Below w.heap.size w (w.alloc (.cells #[.slice A1 n1 c1, .slice A2 n2 c2] 24)) := (Below.refl _ _).alloc (Nat.le_refl _) _
  have HP := Kp.mk (places_any A1 A2 n1 c1 n2 c2 vs ls _ (h1.below hb) (h2.below hb))
  clear hb h1 h2
  cases hg : goodB vs ls with
  | true =>
    have HE := Kp.mk (errC_good hg)
    have HG := Kp.mk hg
    clear hg
    go_enter Try.func13, Try.ntmps13
    go_wp2_with (go_at_call 39; refine HP.it.mono ?_; rintro e w' ⟨⟨p, rfl, hp⟩, hb⟩; rw [HG.it]; clear hp; unfold arr5; have hsz := hb.size; simp at hsz)
    go_ret
    exact ⟨ret_int HE.it.symm, ((((Below.refl _ _).alloc (Nat.le_refl _) _).trans (hb.mono (by simp))).alloc (by omega) _)⟩
  | false =>
    have HE := Kp.mk (errC_bad hg)
    have HG := Kp.mk hg
    clear hg
    go_enter Try.func13, Try.ntmps13
    go_wp2_with (go_at_call 39; refine HP.it.mono ?_; rintro e w' ⟨⟨p, rfl, hp⟩, hb⟩; rw [HG.it]; clear hp; unfold arr5; have hsz := hb.size; simp at hsz)
    go_ret
    exact ⟨ret_int HE.it.symm, ((((Below.refl _ _).alloc (Nat.le_refl _) _).trans (hb.mono (by simp))).alloc (by omega) _)⟩

set_option maxHeartbeats 1000000 in
theorem rcheck_any : Calls Try.prog 18 #[.agg #[.slice A1 n1 c1, .slice A2 n2 c2]] w fun e w' =>
    e = .returned (.int .i64 (errC vs ls)) ∧ Below w.heap.size w w' := by
  have hb : Below w.heap.size w (w.alloc (.cells #[.slice A1 n1 c1, .slice A2 n2 c2] 24)) := (Below.refl _ _).alloc (Nat.le_refl _) _
  have HA := Kp.mk (h1.below hb)
  have HB := Kp.mk (h2.below hb)
  have hb1 := h1.bd
  have hb2 := h2.bd
  have HL1 : Kp (vs.length = n1) := ⟨h1.len⟩
  have HL2 : Kp (ls.length = n2) := ⟨h2.len⟩
  clear hb h1 h2
  go_enter Try.func18, Try.ntmps18
  go_wp2
  go_loopw [3, 6] (fun t i wr => ∃ k : Nat, k ≤ 5 ∧ i = .int .i64 k ∧ t = .int .i64 (tot vs ls k : Nat) ∧ Kp (∀ m : Nat, m < k → cOf vs ls m ≤ 1) ∧ Kp (∃ q, wr = (w.alloc (.cells #[.slice A1 n1 c1, .slice A2 n2 c2] 24)).drewN q)) (fun _ i _ => 5 - (intOf i).toNat)
  case atStart => exact ⟨0, by omega, rfl, rfl, ⟨fun m hm => by omega⟩, ⟨0, rfl⟩⟩
  case round =>
    obtain ⟨k, hk, rfl, rfl, hno, hW⟩ := hrel
    have HA' : Kp (Rd wr A1 n1 vs) := ⟨by obtain ⟨q, rfl⟩ := hW.it; exact HA.it.drewN q⟩
    have HB' : Kp (Rd wr A2 n2 ls) := ⟨by obtain ⟨q, rfl⟩ := hW.it; exact HB.it.drewN q⟩
    have hx0 : wr.cell? ⟨w.heap.size, 0, none⟩ = some (.slice A1 n1 c1) := by obtain ⟨q, rfl⟩ := hW.it; exact blk_cell (blk_new _ _) rfl
    have hx1 : wr.cell? ⟨w.heap.size, 1, none⟩ = some (.slice A2 n2 c2) := by obtain ⟨q, rfl⟩ := hW.it; exact blk_cell (blk_new _ _) rfl
    have HBL : Kp (Below w.heap.size w wr) := ⟨by obtain ⟨q, rfl⟩ := hW.it; exact below_drewN ((Below.refl _ _).alloc (Nat.le_refl _) _) q⟩
    have ht := tot_le vs ls k
    rw [HL1.it, HL2.it] at ht
    by_cases hk5 : k < 5
    · have hd : decide ((k : Int) < 5) = true := by simp; omega
      obtain ⟨a, ha⟩ : ∃ a : Nat, a = vs.countP (· == (k : Int)) := ⟨_, rfl⟩
      obtain ⟨b, hb⟩ : ∃ b : Nat, b = ls.countP (· == (k : Int)) := ⟨_, rfl⟩
      have la : a ≤ n1 := by rw [ha, ← HL1.it]; exact cnt_cp _ _
      have lb : b ≤ n2 := by rw [hb, ← HL2.it]; exact cnt_cp _ _
      have HC : Kp (cOf vs ls k = a + b) := ⟨by rw [ha, hb]; rfl⟩
      have T1 := fun W h => Kp.mk (ha ▸ times_same A1 n1 c1 vs k W h)
      have T2 := fun W h => Kp.mk (hb ▸ times_same A2 n2 c2 ls k W h)
      clear ha hb
      have T1' := Kp.mk T1
      have T2' := Kp.mk T2
      clear T1 T2
      by_cases h1 : 1 < a + b
      · have HE := Kp.mk (errC_bad (good_many (by rw [HC.it]; exact h1)))
        go_wp2_with fail
        go_quiet (first | (go_at_call_of 44 (Value.slice A1 n1 c1); exact Calls.quiet_of_same (T1'.it _ (HA'.it.drewN _)).it) | (go_at_call_of 44 (Value.slice A2 n2 c2); exact Calls.quiet_of_same (T2'.it _ (HB'.it.drewN _)).it))
        go_wp2
        go_ret
        exact ⟨ret_int HE.it.symm, below_drewN HBL.it _⟩
      · go_wp2_with fail
        go_quiet (first | (go_at_call_of 44 (Value.slice A1 n1 c1); exact Calls.quiet_of_same (T1'.it _ (HA'.it.drewN _)).it) | (go_at_call_of 44 (Value.slice A2 n2 c2); exact Calls.quiet_of_same (T2'.it _ (HB'.it.drewN _)).it))
        go_wp2
        go_roundw
        case rel => exact ⟨k + 1, by omega, by go_num, by rw [tot, HC.it]; go_num, ⟨fun m hm => by rcases Nat.lt_succ_iff_lt_or_eq.1 hm with h | rfl; exact hno.it m h; rw [HC.it]; omega⟩, ⟨by obtain ⟨q, e⟩ := hW.it; exact ⟨_, by rw [e, World.drewN_drewN]⟩⟩⟩
        case measure => simp [intOf]; omega
    · have e : k = 5 := by omega
      subst e
      have HF := Kp.mk (good_fin hno.it)
      obtain ⟨tt, htt⟩ : ∃ tt : Nat, tt = tot vs ls 5 := ⟨_, rfl⟩
      have HTT : Kp (goodB vs ls = (decide (tt = n1 + n2) && decide (0 < n1))) := ⟨by rw [htt, HF.it, HL1.it, HL2.it]⟩
      rw [← htt] at ht ⊢
      clear htt
      by_cases h1 : tt = n1 + n2
      · by_cases hz : 0 < n1
        · have HE := Kp.mk (errC_good (vs := vs) (ls := ls) (by rw [HTT.it]; simp [h1, hz]))
          have hz' : ((n1 : Int) == 0) = false := by simp; omega
          have h1' : ((tt : Int) != (n1 : Int) + (n2 : Int)) = false := by simp; omega
          clear h1
          go_wp2
          go_ret
          exact ⟨ret_int HE.it.symm, HBL.it⟩
        · have HE := Kp.mk (errC_bad (vs := vs) (ls := ls) (by rw [HTT.it]; simp [hz]))
          have hz' : ((n1 : Int) == 0) = true := by simp; omega
          have h1' : ((tt : Int) != (n1 : Int) + (n2 : Int)) = false := by simp; omega
          clear h1
          go_wp2
          go_ret
          exact ⟨ret_int HE.it.symm, HBL.it⟩
      · have HE := Kp.mk (errC_bad (vs := vs) (ls := ls) (by rw [HTT.it]; simp [h1]))
        have h1' : ((tt : Int) != (n1 : Int) + (n2 : Int)) = true := by simp; omega
        clear h1
        go_wp2
        go_ret
        exact ⟨ret_int HE.it.symm, HBL.it⟩
end

end Go.Proofs.Ytbfpdahbmdaenaa
