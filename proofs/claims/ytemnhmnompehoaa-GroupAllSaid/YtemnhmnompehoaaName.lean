/-
  text.Name: one to eight small letters.
-/
import Derived.Test.YtemnhmnompehoaaLeave
import Derived.WalkSmall
import Derived.Lib.OthersKept
namespace Go.Proofs.Ytemnhmnompehoaa
open Go Go.RowKit

def let1 (r : Int) : Bool := decide (r ≥ 97) && decide (r ≤ 122)
/-- From place pos on, behind n letters. -/
def allN (s : ByteArray) : Nat → Nat → Nat → Bool
  | 0, _, n => decide (1 ≤ n)
  | f + 1, pos, n => if pos < s.size then (if n < 8 then (if let1 (Utf8.decode s pos).1 then allN s f (pos + (Utf8.decode s pos).2) (n + 1) else false) else false) else decide (1 ≤ n)
def nameOk (s : ByteArray) : Bool := allN s (s.size + 1) 0 0

theorem letter_any (r : Int) (w : World) : Calls Try.prog 102 #[.int .i32 r] w fun e w' => e = .returned (.bool (let1 r)) ∧ w = w' := by
  by_cases h1 : r < 97
  · have e : let1 r = false := by unfold let1; have : ¬ r ≥ 97 := by omega
                                  simp [this]
    go_enter Try.func102, Try.ntmps102
    go_wp2
    go_ret
    exact ⟨rfl, rfl⟩
  · have e : let1 r = decide (r ≤ 122) := by unfold let1; have : r ≥ 97 := by omega
                                             simp [this]
    go_enter Try.func102, Try.ntmps102
    go_wp2
    go_ret
    exact ⟨rfl, rfl⟩

theorem width_pos (s : ByteArray) (pos : Nat) (h : pos < s.size) : 1 ≤ (Utf8.decode s pos).2 := by
  by_cases ha : (s[pos]'h).toNat < 128
  · rw [decode_ascii s pos h ha]
    exact Nat.le_refl _
  · exact (decode_high s pos h (by omega)).2

set_option maxRecDepth 1000000 in
set_option maxHeartbeats 4000000 in
theorem all_any (s : ByteArray) (w : World) : Calls Try.prog 101 #[.string s, .int .i64 1, .int .i64 8, .func (.func 102) #[] #[]] w fun e w' => e = .returned (.bool (nameOk s)) ∧ Below w.heap.size w w' := by
  go_enter Try.func101, Try.ntmps101
  go_wp2
  go_loopw [9] (fun v wr => ∃ (pos fuel n : Nat), v = .int .i64 n ∧ n ≤ 8 ∧ wr.heap[w.heap.size]? = some (.stringIter s pos) ∧ Below w.heap.size w wr ∧ Kp (allN s fuel pos n = nameOk s) ∧ s.size < pos + fuel) (fun _ wr => s.size - wr.iterPos w.heap.size)
  case atStart => exact ⟨0, s.size + 1, 0, rfl, by omega, World.iter_heap w s 0, (Below.refl _ _).alloc (Nat.le_refl _) _, ⟨rfl⟩, by omega⟩
  case round =>
    obtain ⟨pos, fuel, n, rfl, hn8, hit, hbw, HS, hb⟩ := hrel
    have hpos0 := iterPos_of hit
    by_cases hp : pos < s.size
    · obtain ⟨fuel, rfl⟩ : ∃ f', fuel = f' + 1 := ⟨fuel - 1, by omega⟩
      have hnx : ∀ ty, (Instr.next (.pointer (some ⟨w.heap.size, 0, none⟩)) true ty).run Try.prog wr = _ := fun ty => Lib.run_next_any_at wr w.heap.size s pos ty hit hp
      have hwd := width_pos s pos hp
      have hit2 := Lib.iterAt_heap wr w.heap.size s pos (pos + (Utf8.decode s pos).2) hit
      have hbw2 := Lib.below_iterAt hbw (k := w.heap.size) (Nat.le_refl _) s (pos + (Utf8.decode s pos).2)
      obtain ⟨W1, hW1⟩ : ∃ W1, W1 = wr.iterAt w.heap.size s (pos + (Utf8.decode s pos).2) := ⟨_, rfl⟩
      rw [← hW1] at hnx hit2 hbw2
      have HI := Kp.mk hit2
      have HB := Kp.mk hbw2
      clear hW1 hit hbw hit2 hbw2
      by_cases hn : n < 8
      · have hn1 : (↑n : Int) + 1 ≤ 8 := by omega
        cases hl : let1 (Utf8.decode s pos).1 with
        | true =>
          have HL := Kp.mk hl
          have HV : Kp (allN s fuel (pos + (Utf8.decode s pos).2) (n + 1) = nameOk s) := ⟨by rw [← HS.it, allN, if_pos hp, if_pos hn, if_pos hl]⟩
          clear hl
          go_wp2_with (go_at_call 102; refine (letter_any _ _).mono ?_; rintro e w2 ⟨rfl, rfl⟩; rw [HL.it])
          go_roundw
          case rel => exact ⟨_, fuel, n + 1, by go_num, by omega, HI.it, HB.it, HV, by omega⟩
          case measure => rw [iterPos_of HI.it, hpos0]; omega
        | false =>
          have HL := Kp.mk hl
          have HV : Kp (nameOk s = false) := ⟨by rw [← HS.it, allN, if_pos hp, if_pos hn, hl]; rfl⟩
          clear hl
          go_wp2_with (go_at_call 102; refine (letter_any _ _).mono ?_; rintro e w2 ⟨rfl, rfl⟩; rw [HL.it])
          go_ret
          exact ⟨ret_bool HV.it.symm, HB.it⟩
      · have hn1 : (8 : Int) < ↑n + 1 := by omega
        have HV : Kp (nameOk s = false) := ⟨by rw [← HS.it, allN, if_pos hp, if_neg hn]⟩
        go_wp2
        go_ret
        exact ⟨ret_bool HV.it.symm, HB.it⟩
    · have hnx : ∀ ty, (Instr.next (.pointer (some ⟨w.heap.size, 0, none⟩)) true ty).run Try.prog wr = _ := fun ty => Lib.run_next_end_at wr w.heap.size s pos ty hit hp
      have HV : Kp (nameOk s = decide (1 ≤ n)) := ⟨by rw [← HS.it]; cases fuel with | zero => rfl | succ f => rw [allN, if_neg hp]⟩
      have HB := Kp.mk hbw
      clear hbw
      go_wp2
      go_ret
      exact ⟨ret_bool (by rw [HV.it]; apply decide_eq_decide.2; omega), HB.it⟩

theorem name_any (s : ByteArray) (w : World) : Calls Try.prog 82 #[.string s] w fun e w' => e = .returned (.int .i64 (if nameOk s then 0 else 22)) ∧ Below w.heap.size w w' := by
  have AL := Kp.mk (all_any s w)
  cases hv : nameOk s with
  | true =>
    rw [hv] at AL
    clear hv
    go_enter Try.func82, Try.ntmps82
    go_wp2_with (go_at_call 101; refine AL.it.mono ?_; rintro e w2 ⟨rfl, hb⟩)
    go_ret
    exact ⟨rfl, hb⟩
  | false =>
    rw [hv] at AL
    clear hv
    go_enter Try.func82, Try.ntmps82
    go_wp2_with (go_at_call 101; refine AL.it.mono ?_; rintro e w2 ⟨rfl, hb⟩)
    go_ret
    exact ⟨rfl, hb⟩
def checkE (s : ByteArray) (n : Int) : Int := if nameOk s = true ∧ 1 ≤ n ∧ n ≤ 12 then 0 else 220
theorem check_any (s : ByteArray) (n : Int) (w : World) : Calls Try.prog 48 #[.string s, .int .i64 n] w fun e w' => e = .returned (.int .i64 (checkE s n)) ∧ Below w.heap.size w w' := by
  have NA := Kp.mk (name_any s w)
  cases hv : nameOk s with
  | true =>
    rw [hv] at NA
    by_cases h1 : n < 1
    · have HV : Kp (checkE s n = 220) := ⟨by unfold checkE; rw [if_neg (by omega)]⟩
      clear hv
      go_enter Try.func48, Try.ntmps48
      go_wp2_with (go_at_call 82; refine NA.it.mono ?_; rintro e w2 ⟨rfl, hb⟩)
      go_ret
      exact ⟨ret_int HV.it.symm, hb⟩
    · by_cases h2 : 12 < n
      · have HV : Kp (checkE s n = 220) := ⟨by unfold checkE; rw [if_neg (by omega)]⟩
        clear hv
        go_enter Try.func48, Try.ntmps48
        go_wp2_with (go_at_call 82; refine NA.it.mono ?_; rintro e w2 ⟨rfl, hb⟩)
        go_ret
        exact ⟨ret_int HV.it.symm, hb⟩
      · have HV : Kp (checkE s n = 0) := ⟨by unfold checkE; rw [if_pos ⟨hv, by omega, by omega⟩]⟩
        clear hv
        go_enter Try.func48, Try.ntmps48
        go_wp2_with (go_at_call 82; refine NA.it.mono ?_; rintro e w2 ⟨rfl, hb⟩)
        go_ret
        exact ⟨ret_int HV.it.symm, hb⟩
  | false =>
    have HV : Kp (checkE s n = 220) := ⟨by unfold checkE; rw [if_neg (by rw [hv]; simp)]⟩
    rw [hv] at NA
    clear hv
    go_enter Try.func48, Try.ntmps48
    go_wp2_with (go_at_call 82; refine NA.it.mono ?_; rintro e w2 ⟨rfl, hb⟩)
    go_ret
    exact ⟨ret_int HV.it.symm, hb⟩
