/-
  The reference's Name and Check.
-/
import Derived.Test.YtemnhmnompehoaaName
namespace Go.Proofs.Ytemnhmnompehoaa
open Go Go.RowKit

def byteN (s : ByteArray) (k : Nat) : Int := ((s.data.getD k 0).toNat : Int)
def nmK (s : ByteArray) : Nat → Bool
  | 0 => decide (1 ≤ s.size ∧ s.size ≤ 8)
  | k + 1 => nmK s k && let1 (byteN s k)
theorem byteN_lt {s : ByteArray} {k : Nat} (h : k < s.size) : byteN s k = (s[k].toNat : Int) := by
  unfold byteN
  rw [Array.getD_eq_getD_getElem?, Array.getElem?_eq_getElem (by simpa using h)]
  rfl
theorem nmK_mono {s : ByteArray} {j k : Nat} (h : j ≤ k) (hk : nmK s k = true) : nmK s j = true := by
  induction k with
  | zero => obtain rfl : j = 0 := by omega
            exact hk
  | succ k ih =>
    rcases Nat.lt_or_eq_of_le h with h1 | rfl
    · exact ih (by omega) (by unfold nmK at hk; rw [Bool.and_eq_true] at hk; exact hk.1)
    · exact hk
theorem nmK_size {s : ByteArray} {k : Nat} (hk : nmK s k = true) : 1 ≤ s.size ∧ s.size ≤ 8 := by
  have := nmK_mono (Nat.zero_le k) hk
  simpa [nmK] using this
theorem allN_eq (s : ByteArray) : ∀ f n, s.size < n + f → n ≤ s.size → n ≤ 8 → (∀ k, k < n → let1 (byteN s k) = true) → allN s f n n = nmK s s.size
  | 0, n, h1, h2, _, _ => by omega
  | f + 1, n, h1, h2, h3, hp => by
    unfold allN
    by_cases hn : n < s.size
    · rw [if_pos hn]
      by_cases h8 : n < 8
      · rw [if_pos h8]
        have hb := byteN_lt hn
        have hone : nmK s s.size = true → let1 (byteN s n) = true := fun h => by
          have := nmK_mono (j := n + 1) (by omega) h
          unfold nmK at this
          rw [Bool.and_eq_true] at this
          exact this.2
        by_cases ha : (s[n]).toNat < 128
        · rw [decode_ascii s n hn ha]
          dsimp only
          cases hl : let1 ((s[n]).toNat : Int) with
          | true =>
            rw [if_pos rfl]
            refine allN_eq s f (n + 1) (by omega) (by omega) (by omega) fun k hk => ?_
            rcases Nat.lt_succ_iff_lt_or_eq.1 hk with h | rfl
            · exact hp k h
            · rw [hb]; exact hl
          | false =>
            rw [if_neg (by simp)]
            cases hz : nmK s s.size with
            | false => rfl
            | true => have := hone hz; rw [hb, hl] at this; cases this
        · have hh := (decode_high s n hn (by omega)).1
          have hl : let1 (Utf8.decode s n).1 = false := by
            unfold let1
            have : ¬ ((Utf8.decode s n).1 : Int) ≤ 122 := by omega
            simp [this]
          rw [hl, if_neg (by simp)]
          cases hz : nmK s s.size with
          | false => rfl
          | true =>
            have := hone hz
            rw [hb] at this
            unfold let1 at this
            simp at this
            omega
      · rw [if_neg h8]
        cases hz : nmK s s.size with
        | false => rfl
        | true => have := nmK_size hz; omega
    · obtain rfl : n = s.size := by omega
      rw [if_neg hn]
      have all : ∀ k, k ≤ s.size → nmK s k = decide (1 ≤ s.size) := fun k => by
        induction k with
        | zero => intro _; unfold nmK; simp [h3]
        | succ k ih => intro hk; unfold nmK; rw [ih (by omega), hp k (by omega), Bool.and_true]
      exact (all _ (Nat.le_refl _)).symm
theorem nameOk_eq (s : ByteArray) : nameOk s = nmK s s.size := allN_eq s (s.size + 1) 0 (by omega) (by omega) (by omega) (fun k hk => by omega)

def nameE (s : ByteArray) : Int := if nameOk s then 0 else 22
set_option maxRecDepth 1000000 in
set_option maxHeartbeats 1000000 in
theorem rname_any (s : ByteArray) (w : World) (hs : s.size ≤ maxLen) : Calls Try.prog 83 #[.string s] w fun e w' => e = .returned (.int .i64 (nameE s)) ∧ w = w' := by
  unfold maxLen at hs
  have HE := Kp.mk (nameOk_eq s)
  have h0 : Kp (nmK s 0 = (decide (1 ≤ s.size) && decide (s.size ≤ 8))) := ⟨by unfold nmK; simp⟩
  by_cases hs1 : 1 ≤ s.size
  · have hs2 : 1 ≤ (s.size : Int) := by omega
    go_enter Try.func83, Try.ntmps83
    go_wp2
    go_loop [3, 15] (fun v i => ∃ k : Nat, k ≤ s.size ∧ i = .int .i64 k ∧ v = .bool (nmK s k)) (fun _ i => s.size - (intOf i).toNat)
    case atStart => exact ⟨0, Nat.zero_le _, rfl, by rw [h0.it]; simp [hs1]; first | done | omega⟩
    case round =>
      obtain ⟨k, hk, rfl, rfl⟩ := hrel
      by_cases hlt : k < s.size
      · have hd : decide ((k : Int) < (s.size : Int)) = true := by simp; omega
        have HN : Kp (nmK s (k + 1) = (nmK s k && let1 (s[k].toNat : Int))) := ⟨by rw [← byteN_lt hlt]; rfl⟩
        cases hb : nmK s k with
        | false =>
          have HV : Kp (nmK s (k + 1) = false) := ⟨by rw [HN.it, hb]; rfl⟩
          clear hb
          go_wp2
          go_round
          case rel => exact ⟨k + 1, by omega, by go_num, by rw [HV.it]⟩
          case measure => simp [intOf]; omega
        | true =>
          rw [hb, Bool.true_and] at HN
          clear hb
          by_cases h1 : 97 ≤ (s[k].toNat : Int)
          · have HV : Kp (nmK s (k + 1) = decide ((s[k].toNat : Int) ≤ 122)) := ⟨by rw [HN.it]; unfold let1; simp only [ge_iff_le, h1, decide_true, Bool.true_and]⟩
            go_wp2
            go_round
            case rel => exact ⟨k + 1, by omega, by go_num, by rw [HV.it]⟩
            case measure => simp [intOf]; omega
          · have h1' : (s[k].toNat : Int) < 97 := by omega
            have HV : Kp (nmK s (k + 1) = false) := ⟨by rw [HN.it]; unfold let1; rw [show decide ((s[k].toNat : Int) ≥ 97) = false by simp only [decide_eq_false_iff_not]; omega]; rfl⟩
            clear h1
            go_wp2
            go_round
            case rel => exact ⟨k + 1, by omega, by go_num, by rw [HV.it]⟩
            case measure => simp [intOf]; omega
      · obtain rfl : k = s.size := by omega
        have hd : decide ((s.size : Int) < (s.size : Int)) = false := by simp
        cases hb : nmK s s.size with
        | false =>
          have HV : Kp (nameE s = 22) := ⟨by unfold nameE; rw [HE.it, hb]; rfl⟩
          clear hb
          go_wp2
          go_ret
          exact ⟨ret_int HV.it.symm, rfl⟩
        | true =>
          have HV : Kp (nameE s = 0) := ⟨by unfold nameE; rw [HE.it, hb]; rfl⟩
          clear hb
          go_wp2
          go_ret
          exact ⟨ret_int HV.it.symm, rfl⟩
  · have hs2 : (s.size : Int) < 1 := by omega
    go_enter Try.func83, Try.ntmps83
    go_wp2
    go_loop [3, 15] (fun v i => ∃ k : Nat, k ≤ s.size ∧ i = .int .i64 k ∧ v = .bool (nmK s k)) (fun _ i => s.size - (intOf i).toNat)
    case atStart => exact ⟨0, Nat.zero_le _, rfl, by rw [h0.it]; simp [hs1]⟩
    case round =>
      obtain ⟨k, hk, rfl, rfl⟩ := hrel
      by_cases hlt : k < s.size
      · exact absurd hlt (by omega)
      · obtain rfl : k = s.size := by omega
        have hd : decide ((s.size : Int) < (s.size : Int)) = false := by simp
        cases hb : nmK s s.size with
        | false =>
          have HV : Kp (nameE s = 22) := ⟨by unfold nameE; rw [HE.it, hb]; rfl⟩
          clear hb
          go_wp2
          go_ret
          exact ⟨ret_int HV.it.symm, rfl⟩
        | true =>
          have HV : Kp (nameE s = 0) := ⟨by unfold nameE; rw [HE.it, hb]; rfl⟩
          clear hb
          go_wp2
          go_ret
          exact ⟨ret_int HV.it.symm, rfl⟩

theorem rcheck_any (s : ByteArray) (n : Int) (w : World) (hs : s.size ≤ maxLen) : Calls Try.prog 49 #[.string s, .int .i64 n] w fun e w' => e = .returned (.int .i64 (checkE s n)) ∧ w = w' := by
  have HN := Kp.mk (rname_any s w hs)
  cases ho : nameOk s with
  | false =>
    have HE : Kp (checkE s n = 220) := ⟨by unfold checkE; rw [ho]; simp⟩
    have HM : Kp (nameE s = 22) := ⟨by unfold nameE; rw [ho]; rfl⟩
    rw [HM.it] at HN
    clear ho
    go_enter Try.func49, Try.ntmps49
    go_wp2_with (go_at_call 83; refine HN.it.mono ?_; rintro e w1 ⟨rfl, rfl⟩)
    go_ret
    exact ⟨ret_int HE.it.symm, rfl⟩
  | true =>
    have HM : Kp (nameE s = 0) := ⟨by unfold nameE; rw [ho]; rfl⟩
    rw [HM.it] at HN
    have HE : Kp (checkE s n = if 1 ≤ n ∧ n ≤ 12 then 0 else 220) := ⟨by unfold checkE; rw [ho]; simp⟩
    clear ho
    by_cases h1 : n < 1
    · have HF : Kp (checkE s n = 220) := ⟨by rw [HE.it, if_neg (by omega)]⟩
      go_enter Try.func49, Try.ntmps49
      go_wp2_with (go_at_call 83; refine HN.it.mono ?_; rintro e w1 ⟨rfl, rfl⟩)
      go_ret
      exact ⟨ret_int HF.it.symm, rfl⟩
    · have h1' : 1 ≤ n := by omega
      by_cases h2 : 12 < n
      · have HF : Kp (checkE s n = 220) := ⟨by rw [HE.it, if_neg (by omega)]⟩
        go_enter Try.func49, Try.ntmps49
        go_wp2_with (go_at_call 83; refine HN.it.mono ?_; rintro e w1 ⟨rfl, rfl⟩)
        go_ret
        exact ⟨ret_int HF.it.symm, rfl⟩
      · have h2' : n ≤ 12 := by omega
        have HF : Kp (checkE s n = 0) := ⟨by rw [HE.it, if_pos (by omega)]⟩
        go_enter Try.func49, Try.ntmps49
        go_wp2_with (go_at_call 83; refine HN.it.mono ?_; rintro e w1 ⟨rfl, rfl⟩)
        go_ret
        exact ⟨ret_int HF.it.symm, rfl⟩
end Go.Proofs.Ytemnhmnompehoaa
