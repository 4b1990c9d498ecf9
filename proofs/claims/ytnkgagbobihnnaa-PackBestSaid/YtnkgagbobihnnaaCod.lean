/-
  Codes by lengths: the program's, the reference's.
-/
import Derived.Test.YtnkgagbobihnnaaRow
namespace Go.Proofs.Ytnkgagbobihnnaa
open Go Go.RowKit

/-- One sign of one length: the next code, the codes till now. -/
def stepC (ls : List Int) (n : Nat) (s : Nat × List Int) (k : Nat) : Except Int (Nat × List Int) :=
  if rd ls k < 0 ∨ 31 < rd ls k then .error 5 else if rd ls k = (n : Int) then (if 2 ^ n ≤ s.1 then .error 200 else .ok (s.1 + 1, s.2.set k (s.1 : Int))) else .ok s
def rowC (ls : List Int) (n : Nat) (s : Nat × List Int) (k : Nat) : Except Int (Nat × List Int) := (List.range k).foldlM (stepC ls n) s
def allC (ls : List Int) (m : Nat) : Except Int (Nat × List Int) := (List.range m).foldlM (fun s n => rowC ls (n + 1) (2 * s.1, s.2) ls.length) (0, List.replicate ls.length 0)
/-- The codes by lengths, or why there are none. -/
def codesP (ls : List Int) : Int × List Int := match allC ls 31 with
  | .ok s => (0, s.2)
  | .error e => (e, [])

theorem foldlM_range_succ {α : Type} (f : α → Nat → Except Int α) (s : α) (k : Nat) : (List.range (k + 1)).foldlM f s = ((List.range k).foldlM f s).bind fun t => f t k := by
  rw [List.range_succ, List.foldlM_append]
  show ((List.range k).foldlM f s).bind (fun t => [k].foldlM f t) = _
  congr 1
  funext t
  show (f t k).bind (fun u => pure u) = f t k
  cases f t k <;> rfl
theorem foldlM_range_err {α : Type} {f : α → Nat → Except Int α} {s : α} {k : Nat} {e : Int} (h : (List.range k).foldlM f s = .error e) : ∀ m, (List.range (k + m)).foldlM f s = .error e
  | 0 => h
  | m + 1 => by rw [← Nat.add_assoc, foldlM_range_succ, foldlM_range_err h m]; rfl
theorem rowC_succ (ls : List Int) (n : Nat) (s : Nat × List Int) (k : Nat) : rowC ls n s (k + 1) = (rowC ls n s k).bind fun t => stepC ls n t k := foldlM_range_succ _ _ _
theorem allC_succ (ls : List Int) (m : Nat) : allC ls (m + 1) = (allC ls m).bind fun s => rowC ls (m + 1) (2 * s.1, s.2) ls.length := foldlM_range_succ _ _ _
theorem codes_err {ls : List Int} {m k : Nat} {s t : Nat × List Int} {e : Int} (hm : m < 31) (hk : k < ls.length) (ha : allC ls m = .ok s) (hr : rowC ls (m + 1) (2 * s.1, s.2) k = .ok t) (he : stepC ls (m + 1) t k = .error e) : codesP ls = (e, []) := by
  have h1 : rowC ls (m + 1) (2 * s.1, s.2) (k + 1) = .error e := by rw [rowC_succ, hr]; exact he
  have h2 : rowC ls (m + 1) (2 * s.1, s.2) ls.length = .error e := by
    have := foldlM_range_err h1 (ls.length - (k + 1))
    rwa [show k + 1 + (ls.length - (k + 1)) = ls.length by omega] at this
  have h3 : allC ls (m + 1) = .error e := by rw [allC_succ, ha]; exact h2
  have h4 : allC ls 31 = .error e := by
    have := foldlM_range_err h3 (31 - (m + 1))
    rwa [show m + 1 + (31 - (m + 1)) = 31 by omega] at this
  unfold codesP
  rw [h4]
theorem codes_ok {ls : List Int} {s : Nat × List Int} (h : allC ls 31 = .ok s) : codesP ls = (0, s.2) := by unfold codesP; rw [h]
theorem allC_next {ls : List Int} {m : Nat} {s t : Nat × List Int} (ha : allC ls m = .ok s) (hr : rowC ls (m + 1) (2 * s.1, s.2) ls.length = .ok t) : allC ls (m + 1) = .ok t := by rw [allC_succ, ha]; exact hr
theorem rowC_next {ls : List Int} {n k : Nat} {s t u : Nat × List Int} (hr : rowC ls n s k = .ok t) (hs : stepC ls n t k = .ok u) : rowC ls n s (k + 1) = .ok u := by rw [rowC_succ, hr]; exact hs

set_option maxRecDepth 100000 in
set_option maxHeartbeats 4000000 in
theorem codes_any (A : Option Addr) (n c : Nat) (ls : List Int) (w : World) (h : Rd w A n ls) (hn : n ≤ 1000000) :
    Calls Try.prog 16 #[.slice A n c] w fun e w' => ∃ v, e = .returned (.tuple #[v, .int .i64 (codesP ls).1]) ∧ Own w' w.heap.size v (codesP ls).2 ∧ Below w.heap.size w w' := by
  have hmk := make_ints n (by omega)
  have H := Kp.mk h
  have HL := Kp.mk h.len
  have HZ := Kp.mk (blk_zrow w n)
  obtain ⟨G, hG⟩ : ∃ G, G = w.heap.size := ⟨_, rfl⟩
  have HG := Kp.mk hG
  have HB0 : Kp (Below w.heap.size w (w.alloc (.cells (zrow n) 3))) := ⟨(Below.refl _ _).alloc (Nat.le_refl _) _⟩
  clear h
  go_enter Try.func16, Try.ntmps16
  go_wp2_with fail
  rw [← hG]
  rw [← hG] at HZ
  clear hG
  go_wp2
  go_loopw [5, 6] (fun x i wr => ∃ (m X : Nat) (O : List Int), m ≤ 31 ∧ i = .int .i64 ((m : Int) + 1) ∧ x = .int .i64 X ∧ X ≤ 2 ^ m ∧ Kp (allC ls m = .ok (X, O)) ∧ Kp (O.length = n) ∧ Kp (Blk wr G O) ∧ Kp (Below w.heap.size w wr)) (fun _ i _ => 32 - (intOf i).toNat)
  case atStart =>
    refine ⟨0, 0, List.replicate n 0, by omega, rfl, rfl, by omega, ⟨?_⟩, ⟨by simp⟩, HZ, HB0⟩
    show Except.ok (0, List.replicate ls.length 0) = _
    rw [HL.it]
  case round =>
    obtain ⟨m, X, O, hm, rfl, rfl, hX, HA, HOL, HK, HB⟩ := hrel
    by_cases hm31 : m < 31
    · have hd : decide ((m : Int) + 1 ≤ 31) = true := by simp; omega
      have hp31 : 2 ^ m ≤ 2 ^ 30 := Nat.pow_le_pow_right (by omega) (by omega)
      have hXb : X ≤ 1073741824 := by omega
      have hw2 : wrap64 ((X : Int) * 2) = ((2 * X : Nat) : Int) := by unfold wrap64; omega
      have hp2 : 2 * 2 ^ m = 2 ^ (m + 1) := by rw [Nat.pow_succ]; omega
      have HP2 := Kp.mk hp2
      have HX := Kp.mk hX
      clear hp31 hp2 hX
      go_wp2
      go_loopw [5, 20] (fun y i wy => ∃ (k Y : Nat) (P : List Int), k ≤ n ∧ i = .int .i64 k ∧ y = .int .i64 Y ∧ Y ≤ 2147483648 ∧ Kp (Y ≤ 2 ^ (m + 1)) ∧ Kp (rowC ls (m + 1) (2 * X, O) k = .ok (Y, P)) ∧ Kp (P.length = n) ∧ Kp (Blk wy G P) ∧ Kp (Below w.heap.size w wy)) (fun _ i _ => n - (intOf i).toNat)
      case atStart => exact ⟨0, 2 * X, O, by omega, rfl, by go_num, by omega, ⟨by have := HX.it; have := HP2.it; omega⟩, ⟨rfl⟩, HOL, HK, HB⟩
      case round =>
        obtain ⟨k, Y, P, hk, rfl, rfl, hYb, HY, HR, HPL, HKY, HBY⟩ := hrel
        by_cases hkn : k < n
        · have hd2 : decide ((k : Int) < (n : Int)) = true := by simp; omega
          have hkl : k < ls.length := by rw [HL.it]; exact hkn
          have HKL := Kp.mk hkl
          obtain ⟨b, o, hA, hlt, hc0⟩ := H.it.get hkn
          have hcell := (HBY.it.cell (p := ⟨b, o + k, none⟩) hlt).trans hc0
          cases hA
          have HS : Kp (stepC ls (m + 1) (Y, P) k = if rd ls k < 0 ∨ 31 < rd ls k then .error 5 else if rd ls k = ((m + 1 : Nat) : Int) then (if 2 ^ (m + 1) ≤ Y then .error 200 else .ok (Y + 1, P.set k (Y : Int))) else .ok (Y, P)) := ⟨rfl⟩
          obtain ⟨v, hv⟩ : ∃ v, v = rd ls k := ⟨_, rfl⟩
          rw [← hv] at hcell HS
          clear hv hc0 hlt hkl
          by_cases hv0 : v < 0
          · have hq1 : decide (v < 0) = true := by simpa using hv0
            have HE : Kp (codesP ls = (5, [])) := ⟨codes_err hm31 HKL.it HA.it HR.it (by rw [HS.it, if_pos (.inl hv0)])⟩
            clear hv0
            go_wp2
            go_ret2
            rw [HE.it]
            exact ⟨_, rfl, Own.nil _ _, HBY.it⟩
          have hq1 : decide (v < 0) = false := by simpa using hv0
          by_cases hv1 : 31 < v
          · have hq2 : decide (v > 31) = true := by simpa using hv1
            have HE : Kp (codesP ls = (5, [])) := ⟨codes_err hm31 HKL.it HA.it HR.it (by rw [HS.it, if_pos (.inr hv1)])⟩
            clear hv0 hv1
            go_wp2
            go_ret2
            rw [HE.it]
            exact ⟨_, rfl, Own.nil _ _, HBY.it⟩
          have hq2 : decide (v > 31) = false := by simpa using hv1
          have hor : ¬ (v < 0 ∨ 31 < v) := by omega
          rw [if_neg hor] at HS
          by_cases hvm : v = (m : Int) + 1
          · have hq3 : (v == (m : Int) + 1) = true := by simpa using hvm
            rw [if_pos (by omega)] at HS
            obtain ⟨E, hE⟩ : ∃ E : Nat, E = 2 ^ (m + 1) := ⟨_, rfl⟩
            have hEb : E ≤ 2147483648 := by rw [hE]; have h9 : 2 ^ (m + 1) ≤ 2 ^ 31 := Nat.pow_le_pow_right (by omega) (by omega); omega
            have hsh : wrap64 ((2 : Int) ^ (m + 1)) = (E : Int) := by
              have h9 : ((2 : Int) ^ (m + 1)) = (E : Int) := by rw [hE]; simp
              rw [h9]; unfold wrap64; omega
            rw [← hE] at HS HY
            have HEq := Kp.mk hE
            have HSH := Kp.mk hsh
            clear hE hsh
            by_cases hyo : E ≤ Y
            · have hq4 : decide (wrap64 ((2 : Int) ^ (m + 1)) ≤ (Y : Int)) = true := by rw [HSH.it]; simp; omega
              rw [if_pos hyo] at HS
              have HE : Kp (codesP ls = (200, [])) := ⟨codes_err hm31 HKL.it HA.it HR.it HS.it⟩
              clear hv0 hv1 hor hyo
              go_wp2
              go_ret2
              rw [HE.it]
              exact ⟨_, rfl, Own.nil _ _, HBY.it⟩
            · have hq4 : decide (wrap64 ((2 : Int) ^ (m + 1)) ≤ (Y : Int)) = false := by rw [HSH.it]; simp; omega
              rw [if_neg hyo] at HS
              have hcg := HKY.it.cell (j := k) (by rw [HPL.it]; exact hkn)
              have hfz := HKY.it.free k
              generalize rd P k = old at hcg
              have HGN : Kp (w.heap.size ≤ G) := ⟨by rw [HG.it]; exact Nat.le_refl _⟩
              have HY2 : Kp (Y + 1 ≤ 2147483648) := ⟨by omega⟩
              have HYE : Kp (Y + 1 ≤ 2 ^ (m + 1)) := ⟨by rw [← HEq.it]; omega⟩
              clear hv0 hv1 hor hyo
              go_wp2
              go_roundw
              case rel => exact ⟨k + 1, Y + 1, P.set k (Y : Int), by omega, by go_num, by go_num, HY2.it, HYE, ⟨rowC_next HR.it HS.it⟩, ⟨by rw [List.length_set]; exact HPL.it⟩, ⟨HKY.it.store k _⟩, ⟨HBY.it.setCell HGN.it _⟩⟩
              case measure => simp [intOf]; omega
          · have hq3 : (v == (m : Int) + 1) = false := by simpa using hvm
            rw [if_neg (by omega)] at HS
            clear hv0 hv1 hor hvm
            go_wp2
            go_roundw
            case rel => exact ⟨k + 1, Y, P, by omega, by go_num, rfl, hYb, HY, ⟨rowC_next HR.it HS.it⟩, HPL, HKY, HBY⟩
            case measure => simp [intOf]; omega
        · obtain rfl : k = n := by omega
          have hd2 : decide ((k : Int) < (k : Int)) = false := by simp
          rw [← HL.it] at HR
          have HN : Kp (allC ls (m + 1) = .ok (Y, P)) := ⟨allC_next HA.it HR.it⟩
          clear HA HR
          go_wp2
          go_roundw
          case rel => exact ⟨m + 1, Y, P, by omega, by go_num, rfl, HY.it, HN, HPL, HKY, HBY⟩
          case measure => simp [intOf]; omega
    · obtain rfl : m = 31 := by omega
      have HE := Kp.mk (codes_ok HA.it)
      go_wp2
      go_ret2
      rw [HE.it]
      refine ⟨_, rfl, ?_, HB.it⟩
      have h9 := HK.it.own (base := w.heap.size) (by rw [HG.it]; exact Nat.le_refl _) (by rw [HOL.it]; omega)
      rw [HOL.it] at h9
      exact h9
set_option maxRecDepth 100000 in
set_option maxHeartbeats 4000000 in
theorem rcodes_any (A : Option Addr) (n c : Nat) (ls : List Int) (w : World) (h : Rd w A n ls) (hn : n ≤ 1000000) :
    Calls Try.prog 17 #[.slice A n c] w fun e w' => ∃ v, e = .returned (.tuple #[v, .int .i64 (codesP ls).1]) ∧ Own w' w.heap.size v (codesP ls).2 ∧ Below w.heap.size w w' := by
  have hmk := make_ints n (by omega)
  have H := Kp.mk h
  have HL := Kp.mk h.len
  have HZ := Kp.mk (blk_zrow w n)
  obtain ⟨G, hG⟩ : ∃ G, G = w.heap.size := ⟨_, rfl⟩
  have HG := Kp.mk hG
  have HB0 : Kp (Below w.heap.size w (w.alloc (.cells (zrow n) 3))) := ⟨(Below.refl _ _).alloc (Nat.le_refl _) _⟩
  clear h
  go_enter Try.func17, Try.ntmps17
  go_wp2_with fail
  rw [← hG]
  rw [← hG] at HZ
  clear hG
  go_wp2
  go_loopw [5, 6, 7] (fun x p i wr => ∃ (m X T : Nat) (O : List Int), m ≤ 31 ∧ i = .int .i64 ((m : Int) + 1) ∧ p = .int .i64 T ∧ T ≤ 2147483648 ∧ Kp (T = 2 ^ m) ∧ x = .int .i64 X ∧ X ≤ 2 ^ m ∧ Kp (allC ls m = .ok (X, O)) ∧ Kp (O.length = n) ∧ Kp (Blk wr G O) ∧ Kp (Below w.heap.size w wr)) (fun _ _ i _ => 32 - (intOf i).toNat)
  case atStart =>
    refine ⟨0, 0, 1, List.replicate n 0, by omega, rfl, rfl, by omega, ⟨rfl⟩, rfl, by omega, ⟨?_⟩, ⟨by simp⟩, HZ, HB0⟩
    show Except.ok (0, List.replicate ls.length 0) = _
    rw [HL.it]
  case round =>
    obtain ⟨m, X, T, O, hm, rfl, rfl, hTb, HT, rfl, hX, HA, HOL, HK, HB⟩ := hrel
    by_cases hm31 : m < 31
    · have hd : decide ((m : Int) + 1 < 32) = true := by simp; omega
      have hp31 : 2 ^ m ≤ 2 ^ 30 := Nat.pow_le_pow_right (by omega) (by omega)
      have hXb : X ≤ 1073741824 := by omega
      have HT1 : Kp (2 * T = 2 ^ (m + 1)) := ⟨by rw [HT.it, Nat.pow_succ]; omega⟩
      have hTb1 : T ≤ 1073741824 := by rw [HT.it]; omega
      clear hTb
      have hp2 : 2 * 2 ^ m = 2 ^ (m + 1) := by rw [Nat.pow_succ]; omega
      have HP2 := Kp.mk hp2
      have HX := Kp.mk hX
      clear hp31 hp2 hX
      go_wp2
      go_loopw [5, 23] (fun y i wy => ∃ (k Y : Nat) (P : List Int), k ≤ n ∧ i = .int .i64 k ∧ y = .int .i64 Y ∧ Y ≤ 2147483648 ∧ Kp (Y ≤ 2 ^ (m + 1)) ∧ Kp (rowC ls (m + 1) (2 * X, O) k = .ok (Y, P)) ∧ Kp (P.length = n) ∧ Kp (Blk wy G P) ∧ Kp (Below w.heap.size w wy)) (fun _ i _ => n - (intOf i).toNat)
      case atStart => exact ⟨0, 2 * X, O, by omega, rfl, by go_num, by omega, ⟨by have := HX.it; have := HP2.it; omega⟩, ⟨rfl⟩, HOL, HK, HB⟩
      case round =>
        obtain ⟨k, Y, P, hk, rfl, rfl, hYb, HY, HR, HPL, HKY, HBY⟩ := hrel
        by_cases hkn : k < n
        · have hd2 : decide ((k : Int) < (n : Int)) = true := by simp; omega
          have hkl : k < ls.length := by rw [HL.it]; exact hkn
          have HKL := Kp.mk hkl
          obtain ⟨b, o, hA, hlt, hc0⟩ := H.it.get hkn
          have hcell := (HBY.it.cell (p := ⟨b, o + k, none⟩) hlt).trans hc0
          cases hA
          have HS : Kp (stepC ls (m + 1) (Y, P) k = if rd ls k < 0 ∨ 31 < rd ls k then .error 5 else if rd ls k = ((m + 1 : Nat) : Int) then (if 2 ^ (m + 1) ≤ Y then .error 200 else .ok (Y + 1, P.set k (Y : Int))) else .ok (Y, P)) := ⟨rfl⟩
          obtain ⟨v, hv⟩ : ∃ v, v = rd ls k := ⟨_, rfl⟩
          rw [← hv] at hcell HS
          clear hv hc0 hlt hkl
          by_cases hv0 : v < 0
          · have hq1 : decide (v < 0) = true := by simpa using hv0
            have HE : Kp (codesP ls = (5, [])) := ⟨codes_err hm31 HKL.it HA.it HR.it (by rw [HS.it, if_pos (.inl hv0)])⟩
            clear hv0
            go_wp2
            go_ret2
            rw [HE.it]
            exact ⟨_, rfl, Own.nil _ _, HBY.it⟩
          have hq1 : decide (v < 0) = false := by simpa using hv0
          by_cases hv1 : 31 < v
          · have hq2 : decide (v > 31) = true := by simpa using hv1
            have HE : Kp (codesP ls = (5, [])) := ⟨codes_err hm31 HKL.it HA.it HR.it (by rw [HS.it, if_pos (.inr hv1)])⟩
            clear hv0 hv1
            go_wp2
            go_ret2
            rw [HE.it]
            exact ⟨_, rfl, Own.nil _ _, HBY.it⟩
          have hq2 : decide (v > 31) = false := by simpa using hv1
          have hor : ¬ (v < 0 ∨ 31 < v) := by omega
          rw [if_neg hor] at HS
          by_cases hvm : v = (m : Int) + 1
          · have hq3 : (v != (m : Int) + 1) = false := by simpa using hvm
            rw [if_pos (by omega)] at HS
            obtain ⟨E, hE⟩ : ∃ E : Nat, E = 2 * T := ⟨_, rfl⟩
            have hEb : E ≤ 2147483648 := by omega
            have HEq : Kp (E = 2 ^ (m + 1)) := ⟨by rw [hE]; exact HT1.it⟩
            rw [← HEq.it] at HS HY
            have HE2 := Kp.mk hE
            clear hE
            by_cases hyo : E ≤ Y
            · have hq4 : decide (2 * (T : Int) ≤ (Y : Int)) = true := by simp; have := HE2.it; omega
              rw [if_pos hyo] at HS
              have HE : Kp (codesP ls = (200, [])) := ⟨codes_err hm31 HKL.it HA.it HR.it HS.it⟩
              clear hv0 hv1 hor hyo
              go_wp2
              go_ret2
              rw [HE.it]
              exact ⟨_, rfl, Own.nil _ _, HBY.it⟩
            · have hq4 : decide (2 * (T : Int) ≤ (Y : Int)) = false := by simp; have := HE2.it; omega
              rw [if_neg hyo] at HS
              have hcg := HKY.it.cell (j := k) (by rw [HPL.it]; exact hkn)
              have hfz := HKY.it.free k
              generalize rd P k = old at hcg
              have HGN : Kp (w.heap.size ≤ G) := ⟨by rw [HG.it]; exact Nat.le_refl _⟩
              have HY2 : Kp (Y + 1 ≤ 2147483648) := ⟨by omega⟩
              have HYE : Kp (Y + 1 ≤ 2 ^ (m + 1)) := ⟨by rw [← HEq.it]; omega⟩
              clear hv0 hv1 hor hyo
              go_wp2
              go_roundw
              case rel => exact ⟨k + 1, Y + 1, P.set k (Y : Int), by omega, by go_num, by go_num, HY2.it, HYE, ⟨rowC_next HR.it HS.it⟩, ⟨by rw [List.length_set]; exact HPL.it⟩, ⟨HKY.it.store k _⟩, ⟨HBY.it.setCell HGN.it _⟩⟩
              case measure => simp [intOf]; omega
          · have hq3 : (v != (m : Int) + 1) = true := by simpa using hvm
            rw [if_neg (by omega)] at HS
            clear hv0 hv1 hor hvm
            go_wp2
            go_roundw
            case rel => exact ⟨k + 1, Y, P, by omega, by go_num, rfl, hYb, HY, ⟨rowC_next HR.it HS.it⟩, HPL, HKY, HBY⟩
            case measure => simp [intOf]; omega
        · obtain rfl : k = n := by omega
          have hd2 : decide ((k : Int) < (k : Int)) = false := by simp
          rw [← HL.it] at HR
          have HN : Kp (allC ls (m + 1) = .ok (Y, P)) := ⟨allC_next HA.it HR.it⟩
          clear HA HR
          go_wp2
          go_roundw
          case rel => exact ⟨m + 1, Y, 2 * T, P, by omega, by go_num, by go_num, by omega, HT1, rfl, HY.it, HN, HPL, HKY, HBY⟩
          case measure => simp [intOf]; omega
    · obtain rfl : m = 31 := by omega
      have HE := Kp.mk (codes_ok HA.it)
      go_wp2
      go_ret2
      rw [HE.it]
      refine ⟨_, rfl, ?_, HB.it⟩
      have h9 := HK.it.own (base := w.heap.size) (by rw [HG.it]; exact Nat.le_refl _) (by rw [HOL.it]; omega)
      rw [HOL.it] at h9
      exact h9
end Go.Proofs.Ytnkgagbobihnnaa
