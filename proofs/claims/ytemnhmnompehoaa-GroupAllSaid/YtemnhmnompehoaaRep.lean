/-
  slices.Repeat of one number.
-/
import Derived.Test.YtemnhmnompehoaaName
import Derived.Laws.CopyRow
namespace Go.Proofs.Ytemnhmnompehoaa
open Go Go.RowKit
attribute [local go_sem ↓] Go.wp_at_zero Go.wp_at_succ

def ak (a : Int) (n k : Nat) : List Int := List.replicate k a ++ List.replicate (n - k) 0
theorem ak_len (a : Int) {n k : Nat} (h : k ≤ n) : (ak a n k).length = n := by unfold ak; simp; omega
/-- copy within a row that is known whole, or into it. -/
theorem copy_ak {w : World} {g n k m dc sl sc : Nat} {a : Int} {ad : Addr} (hg : Blk w g (ak a n k)) (hk : k + m ≤ n) (hm : m = Nat.min sl (n - k)) (hs : ∀ j, j < m → w.cell? (ad.add j) = some (.int .i64 a)) :
    ∃ w', (∀ ty, (Builtin.copy_ #[22, 22] ty #[.slice (some ⟨g, k, none⟩) (n - k) dc, .slice (some ad) sl sc]).run Try.prog w = .ok (.int .i64 m) w') ∧ Blk w' g (ak a n (k + m)) ∧ Kt g g w w' := by
  refine ⟨w.setRow g ((row (ak a n k)).toList.take k ++ List.replicate m (Value.int .i64 a) ++ (row (ak a n k)).toList.drop (k + m)).toArray, ?_, ?_, ?_⟩
  · intro ty
    have := run_copy_row (P := Try.prog) w 22 22 ty 3 g k (n - k) dc ad sl sc (row (ak a n k)) 3 (List.replicate m (Value.int .i64 a)) Try.underlying22 (by kernel_rfl) hg (by simpa using hm) (fun j v hj => by
      obtain ⟨hj1, rfl⟩ := List.getElem?_eq_some_iff.1 hj
      simp at hj1
      rw [hs j hj1]
      simp) (by simp [row, ak_len a (show k ≤ n by omega)]; omega) (by simp [Value.oneCell'])
    simpa [goInt] using this
  · unfold Blk
    rw [setRow_heap w g (row (ak a n k)) _ 3 _ hg]
    have e0 : (row (ak a n k)).toList = List.replicate k (Value.int .i64 a) ++ List.replicate (n - k) (Value.int .i64 0) := by simp [row, ak]
    have e3 : row (ak a n (k + m)) = (List.replicate (k + m) (Value.int .i64 a) ++ List.replicate (n - (k + m)) (Value.int .i64 0)).toArray := by simp [row, ak]
    have h1 : (List.replicate k (Value.int .i64 a) ++ List.replicate (n - k) (Value.int .i64 0)).take k = List.replicate k (Value.int .i64 a) := by
      rw [List.take_append_of_le_length (by simp), List.take_of_length_le (by simp)]
    have h2 : (List.replicate k (Value.int .i64 a) ++ List.replicate (n - k) (Value.int .i64 0)).drop (k + m) = List.replicate (n - (k + m)) (Value.int .i64 0) := by
      rw [List.drop_append, List.drop_eq_nil_of_le (by simp), List.drop_replicate, List.nil_append]
      congr 1
      simp
      omega
    rw [e0, h1, h2, e3, ← List.replicate_append_replicate]
  · exact ⟨rfl, rfl, rfl, by simp [World.setRow], fun i hi _ => setRow_other w g i _ hi⟩
set_option maxRecDepth 100000 in
set_option maxHeartbeats 4000000 in
theorem rep_any (a : Int) (n b : Nat) (w : World) (hb : w.cell? ⟨b, 0, none⟩ = some (.int .i64 a)) (hlt : b < w.heap.size) (hn1 : 1 ≤ n) (hn : n ≤ 1000) : Calls Try.prog 77 #[.slice (some ⟨b, 0, none⟩) 1 1, .int .i64 n] w fun e w' =>
    ∃ c, e = .returned (.slice (some ⟨w.heap.size, 0, none⟩) n c) ∧ Own w' w.heap.size (.slice (some ⟨w.heap.size, 0, none⟩) n c) (List.replicate n a) ∧ Below w.heap.size w w' := by
  have hmk := make_ints n (by omega)
  have MU : Kp (Calls Try.prog 100 #[.int .u64 1, .int .u64 n] w fun e w' => e = .returned (.tuple #[.int .u64 0, .int .u64 n]) ∧ w' = w) := ⟨by
    have h := Try.bits_Mul 1 n (by omega) (by omega) w
    have e1 : 1 * n / 18446744073709551616 = 0 := by omega
    have e2 : 1 * n % 18446744073709551616 = n := by omega
    rw [e1, e2] at h
    exact h⟩
  have B0 : Blk (w.alloc (.cells (zrow n) 3)) w.heap.size (ak a n 0) := by have := blk_zrow w n; unfold ak; simpa using this
  have hn0 : ¬ n = 0 := by omega
  have hnb : (↑n : Int) ≤ 9223372036854775807 := by omega
  obtain ⟨W1, hcp, hB1, hK1⟩ := copy_ak (dc := n) (sl := 1) (sc := 1) (ad := ⟨b, 0, none⟩) (k := 0) (m := 1) B0 (by omega) (by simp [Nat.min_def]; omega) (fun j hj => by
    obtain rfl : j = 0 := by omega
    rw [add_plain]
    exact (((Below.refl w.heap.size w).alloc (Nat.le_refl _) (.cells (zrow n) 3)).cell (p := ⟨b, 0, none⟩) hlt).trans hb)
  simp only [Nat.sub_zero, Nat.zero_add] at hcp hB1
  have K1 := Kp.mk hK1
  have B1 := Kp.mk hB1
  have hK0 : Kp (Kt w.heap.size w.heap.size (w.alloc (.cells (zrow n) 3)) W1) := K1
  have BW : Kp (Below w.heap.size w W1) := ⟨((Below.refl _ w).alloc (Nat.le_refl _) _).trans (K1.it.below (Nat.le_refl _) (Nat.le_refl _))⟩
  clear hK1 hB1 K1 hK0 B0
  go_enter Try.func77, Try.ntmps77
  go_wp2_with (go_at_call 100; refine MU.it.mono ?_; rintro e w1 ⟨rfl, hw⟩; subst hw)
  go_loopw [8] (fun v wr => ∃ k : Nat, v = .int .i64 k ∧ 1 ≤ k ∧ k ≤ n ∧ Kp (Blk wr w1.heap.size (ak a n k)) ∧ Kp (Below w1.heap.size w1 wr)) (fun v _ => n - (intOf v).toNat)
  case atStart => exact ⟨1, rfl, by omega, by omega, B1, BW⟩
  case round =>
    obtain ⟨k, rfl, hk1, hk2, HB, HW⟩ := hrel
    by_cases hkn : k < n
    · have hkn1 : (↑k : Int) < ↑n := by omega
      obtain ⟨m, hm⟩ : ∃ m, m = Nat.min k (n - k) := ⟨_, rfl⟩
      have hm1 : k + m ≤ n := by have := Nat.min_le_right k (n - k); have e : Nat.min k (n - k) = min k (n - k) := rfl; omega
      have hm0 : 0 < m := by have e : Nat.min k (n - k) = min k (n - k) := rfl; omega
      have hmk2 : m ≤ k := by have e : Nat.min k (n - k) = min k (n - k) := rfl; omega
      obtain ⟨W2, hcp2, hB2, hK2⟩ := copy_ak (w := wr.drew) (dc := n - k) (sl := k) (sc := n) (ad := ⟨w1.heap.size, 0, none⟩) (k := k) (m := m) HB.it hm1 hm (fun j hj => by
        rw [add_plain, Nat.zero_add]
        have := Blk.cell (w := wr.drew) HB.it (j := j) (by rw [ak_len a hk2]; omega)
        rw [this]
        congr 2
        unfold ak rd
        rw [List.getD_eq_getElem?_getD, List.getElem?_append_left (by simp; omega), List.getElem?_replicate, if_pos (by omega)]
        rfl)
      have HB2 := Kp.mk hB2
      have HK2 := Kp.mk hK2
      have hck : (n == k) = false := by simp; omega
      have hck2 : ¬ n = k := by omega
      have hk0 : (0 : Int) ≤ ↑k := by omega
      have hk3 : (↑k : Int) ≤ ↑n := by omega
      clear hB2 hK2 hm
      go_wp2
      go_region
      all_goals
        go_wp2
        go_roundw
        case rel => exact ⟨k + m, by go_num, by omega, hm1, HB2, ⟨HW.it.trans ((below_drew (Below.refl _ wr)).trans (HK2.it.below (Nat.le_refl _) (Nat.le_refl _)))⟩⟩
        case measure => simp [intOf]; omega
    · obtain rfl : k = n := by omega
      have hak : ak a k k = List.replicate k a := by unfold ak; simp
      have OO : Kp (Own wr w1.heap.size (.slice (some ⟨w1.heap.size, 0, none⟩) k k) (List.replicate k a)) := ⟨by
        have := (hak ▸ HB.it).own (base := w1.heap.size) (Nat.le_refl _) (by simp; omega)
        simpa using this⟩
      clear hak
      go_wp2
      go_ret
      exact ⟨_, rfl, OO.it, HW.it⟩
