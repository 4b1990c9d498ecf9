/-
  The bytes of which these are the turns' last ones: the program's Unturn.
-/
import Derived.Test.YtnkgagbobihnnaaFro
namespace Go.Proofs.Ytnkgagbobihnnaa
open Go Go.RowKit
attribute [local go_sem ↓] Go.wp_at_zero Go.wp_at_succ

/-- Block g, made for type T, is this row. -/
def Bt (T : TypeId) (w : World) (g : Nat) (xs : List Int) : Prop := w.heap[g]? = some (.cells (row xs) T (0, 0))
theorem Bt.cell {T : TypeId} {w : World} {g : Nat} {xs : List Int} (h : Bt T w g xs) {j : Nat} (hj : j < xs.length) : w.cell? ⟨g, j, none⟩ = some (.int .i64 (rd xs j)) := blk_cell h (row_get hj)
theorem Bt.free {T : TypeId} {w : World} {g : Nat} {xs : List Int} (h : Bt T w g xs) (j : Nat) : w.frozen? ⟨g, j, none⟩ = false := blk_free h
theorem Bt.lt {T : TypeId} {w : World} {g : Nat} {xs : List Int} (h : Bt T w g xs) : g < w.heap.size := (Array.getElem?_eq_some_iff.1 h).1
theorem Bt.store {T : TypeId} {w : World} {g : Nat} {xs : List Int} (h : Bt T w g xs) (k : Nat) (v : Int) : Bt T (w.setCell ⟨g, k, none⟩ (.int .i64 v)) g (xs.set k v) := by
  unfold Bt
  rw [blk_set _ h, row_set]
theorem Bt.kept {T : TypeId} {w w' : World} {g : Nat} {xs : List Int} {r : Option Nat} (h : Bt T w g xs) (hg : w.grownBy w' r) (hne : some g ≠ r) : Bt T w' g xs := (hg.block g h.lt hne).trans h
theorem Bt.below {T : TypeId} {w w' : World} {g B : Nat} {xs : List Int} (h : Bt T w g xs) (hb : Below B w w') (hlt : g < B) : Bt T w' g xs := (hb.block g hlt).trans h

theorem below_drew {B : Nat} {w W : World} (h : Below B w W) : Below B w W.drew := ⟨h.os, h.tape, h.output, h.size, h.block⟩
/-- A row of so many numbers by their places. -/
def tab (m : Nat) (f : Nat → Nat) : List Int := (List.range m).map fun y => (f y : Int)
theorem tab_len (m : Nat) (f : Nat → Nat) : (tab m f).length = m := by simp [tab]
theorem tab_rd {m : Nat} (f : Nat → Nat) {y : Nat} (h : y < m) : rd (tab m f) y = (f y : Int) := by
  rw [rd_lt (by rw [tab_len]; exact h)]
  simp [tab]
theorem tab_set {m : Nat} (f g : Nat → Nat) (j v : Nat) (hj : g j = v) (h : ∀ y, y ≠ j → g y = f y) : (tab m f).set j (v : Int) = tab m g := by
  apply List.ext_getElem (by simp [tab])
  intro i h1 h2
  rw [List.getElem_set]
  by_cases he : j = i
  · subst he; rw [if_pos rfl]; simp [tab, hj]
  · rw [if_neg he]; simp [tab, h i (fun h9 => he h9.symm)]
theorem tab_zero (m : Nat) (f : Nat → Nat) (h : ∀ y, f y = 0) : tab m f = List.replicate m 0 := by
  unfold tab
  simp [h, List.map_const']

/-- How many bytes are less than y; how many of the first k are y. -/
def lessN (bs : List UInt8) (y : Nat) : Nat := bs.countP fun x => decide (x.toNat < y)
def sameN (bs : List UInt8) (k y : Nat) : Nat := (bs.take k).countP fun x => x.toNat == y
theorem sameN_succ {bs : List UInt8} {k : Nat} (h : k < bs.length) (y : Nat) : sameN bs (k + 1) y = sameN bs k y + (if (bs.getD k 0).toNat = y then 1 else 0) := by
  unfold sameN
  rw [List.take_succ_eq_append_getElem h, List.countP_append, List.getD_eq_getElem?_getD, List.getElem?_eq_getElem h]
  show _ = _ + if (bs[k]).toNat = y then 1 else 0
  congr 1
  by_cases hy : (bs[k]).toNat = y <;> simp [hy]
theorem sameN_zero (bs : List UInt8) (y : Nat) : sameN bs 0 y = 0 := by simp [sameN]
theorem less_zero (bs : List UInt8) : lessN bs 0 = 0 := by simp [lessN]
theorem less_succ (bs : List UInt8) (y : Nat) : lessN bs (y + 1) = lessN bs y + sameN bs bs.length y := by
  unfold lessN sameN
  rw [List.take_length]
  induction bs with
  | nil => rfl
  | cons x bs ih =>
    simp only [List.countP_cons, ih]
    by_cases h1 : x.toNat < y
    · have h2 : x.toNat < y + 1 := by omega
      have h3 : ¬ x.toNat = y := by omega
      simp [h1, h2, h3]; omega
    · by_cases h3 : x.toNat = y
      · have h2 : x.toNat < y + 1 := by omega
        simp [h3]; omega
      · have h2 : ¬ x.toNat < y + 1 := by omega
        simp [h1, h2, h3]
theorem less_le (bs : List UInt8) (y : Nat) : lessN bs y ≤ bs.length := List.countP_le_length
theorem same_le (bs : List UInt8) (k y : Nat) : sameN bs k y ≤ sameN bs bs.length y := by
  unfold sameN
  rw [List.take_length]
  exact (List.take_sublist k bs).countP_le
theorem room_le (bs : List UInt8) (y : Nat) : lessN bs y + sameN bs bs.length y ≤ bs.length := by rw [← less_succ]; exact less_le _ _
/-- Where the turn stands that begins with the byte with which the j-th one ends. -/
def toP (bs : List UInt8) (j : Nat) : Nat := lessN bs (bs.getD j 0).toNat + sameN bs j (bs.getD j 0).toNat
theorem toP_lt {bs : List UInt8} {j : Nat} (h : j < bs.length) : toP bs j < bs.length := by
  unfold toP
  have h1 := sameN_succ h (bs.getD j 0).toNat
  rw [if_pos rfl] at h1
  have h2 := same_le bs (j + 1) (bs.getD j 0).toNat
  have h3 := room_le bs (bs.getD j 0).toNat
  omega
def rowAt (bs : List UInt8) (r : Nat) : Nat → Nat
  | 0 => r
  | k + 1 => toP bs (rowAt bs r k)
theorem rowAt_lt {bs : List UInt8} {r : Nat} (h : r < bs.length) : ∀ k, rowAt bs r k < bs.length
  | 0 => h
  | k + 1 => toP_lt (rowAt_lt h k)
/-- The bytes, from behind. -/
def backN (bs : List UInt8) (r : Nat) : List UInt8 := (List.range bs.length).map fun k => bs.getD (rowAt bs r (bs.length - 1 - k)) 0
def unturnP (bs : List UInt8) (r : Int) : Int × List UInt8 :=
  if bs.length = 0 ∧ r = 0 then (0, []) else if r < 0 ∨ (bs.length : Int) ≤ r then (1, []) else (0, backN bs r.toNat)
theorem backN_len (bs : List UInt8) (r : Nat) : (backN bs r).length = bs.length := by simp [backN]
theorem back_set {bs : List UInt8} {r t : Nat} (h : t < bs.length) : (List.replicate (t + 1) 0 ++ (backN bs r).drop (t + 1)).set t (bs.getD (rowAt bs r (bs.length - 1 - t)) 0) = List.replicate t 0 ++ (backN bs r).drop t := by
  have h1 : t < (backN bs r).length := by rw [backN_len]; exact h
  have h2 : (backN bs r)[t] = bs.getD (rowAt bs r (bs.length - 1 - t)) 0 := by simp [backN]
  rw [List.drop_eq_getElem_cons h1, h2, List.replicate_succ', List.append_assoc, List.set_append_right _ _ (by simp), List.length_replicate, Nat.sub_self]
  rfl

theorem zc50 : Try.zeroCells50 = row (List.replicate 257 0) := by kernel_rfl
set_option maxRecDepth 100000 in
set_option maxHeartbeats 4000000 in
theorem unturn_any (A : Option Addr) (n c : Nat) (bs : List UInt8) (r : Int) (w : World) (h : Rb w A n bs) (hn : n ≤ 1000000) :
    Calls Try.prog 20 #[.slice A n c, .int .i64 r] w fun e w' => ∃ v, e = .returned (.tuple #[v, .int .i64 (unturnP bs r).1]) ∧ OwnB w' w.heap.size v (unturnP bs r).2 ∧ Below w.heap.size w w' := by
  have H := Kp.mk h
  have HL := Kp.mk h.len
  have HB0 : Kp (Below w.heap.size w w) := ⟨Below.refl _ _⟩
  clear h
  go_enter Try.func20, Try.ntmps20
  by_cases hn0 : n = 0
  · subst hn0
    by_cases hr0 : r = 0
    · subst hr0
      have HE : Kp (unturnP bs 0 = (0, [])) := ⟨by unfold unturnP; rw [if_pos ⟨HL.it, rfl⟩]⟩
      go_wp2
      go_ret2
      rw [HE.it]
      exact ⟨_, rfl, OwnB.nil _ _, HB0.it⟩
    have hq0 : (r == 0) = false := by simpa using hr0
    have HE : Kp (unturnP bs r = (1, [])) := ⟨by unfold unturnP; rw [if_neg (fun h9 => hr0 h9.2), if_pos (by rw [HL.it]; omega)]⟩
    by_cases hr1 : r < 0
    · have hq1 : decide (r < 0) = true := by simpa using hr1
      clear hr1 hr0
      go_wp2
      go_ret2
      rw [HE.it]
      exact ⟨_, rfl, OwnB.nil _ _, HB0.it⟩
    · have hq1 : decide (r < 0) = false := by simpa using hr1
      have hr3 : 0 ≤ r := by omega
      have hq2 : decide ((0 : Int) ≤ r) = true := by simpa using hr3
      clear hr0
      go_wp2
      go_ret2
      rw [HE.it]
      exact ⟨_, rfl, OwnB.nil _ _, HB0.it⟩
  have hqn : ((n : Int) == 0) = false := by simp; omega
  by_cases hr1 : r < 0
  · have HE : Kp (unturnP bs r = (1, [])) := ⟨by unfold unturnP; rw [if_neg (fun h9 => hn0 (by rw [← HL.it]; exact h9.1)), if_pos (.inl hr1)]⟩
    have hq1 : decide (r < 0) = true := by simpa using hr1
    clear hr1
    go_wp2
    go_ret2
    rw [HE.it]
    exact ⟨_, rfl, OwnB.nil _ _, HB0.it⟩
  have hq1 : decide (r < 0) = false := by simpa using hr1
  by_cases hr2 : (n : Int) ≤ r
  · have HE : Kp (unturnP bs r = (1, [])) := ⟨by unfold unturnP; rw [if_neg (fun h9 => hn0 (by rw [← HL.it]; exact h9.1)), if_pos (.inr (by rw [HL.it]; exact hr2))]⟩
    have hq2 : decide (r ≥ (n : Int)) = true := by simpa using hr2
    clear hr1 hr2
    go_wp2
    go_ret2
    rw [HE.it]
    exact ⟨_, rfl, OwnB.nil _ _, HB0.it⟩
  have hq2 : decide (r ≥ (n : Int)) = false := by simpa using hr2
  obtain ⟨R, rfl⟩ : ∃ R : Nat, r = (R : Int) := ⟨r.toNat, by omega⟩
  have HE : Kp (unturnP bs (R : Int) = (0, backN bs R)) := ⟨by unfold unturnP; rw [if_neg (fun h9 => hn0 (by rw [← HL.it]; exact h9.1)), if_neg (by rw [HL.it]; omega)]; rfl⟩
  have hRn : R < n := by omega
  clear hr1 hr2
  have HF0 : Kp (Bt 50 (w.alloc (.cells Try.zeroCells50 50)) w.heap.size (tab 257 fun y => if y = 0 then 0 else sameN bs 0 (y - 1))) := ⟨by
    rw [tab_zero 257 _ (fun y => by rw [sameN_zero]; split <;> rfl), zc50]
    exact blk_new _ _⟩
  have HB1 : Kp (Below w.heap.size w (w.alloc (.cells Try.zeroCells50 50))) := ⟨(Below.refl _ _).alloc (Nat.le_refl _) _⟩
  obtain ⟨F, hF⟩ : ∃ F, F = w.heap.size := ⟨_, rfl⟩
  have HF := Kp.mk hF
  rw [← hF] at HF0
  have hmk := make_ints n (by omega)
  have hmz := make_zeros n (by omega)
  have HN := Kp.mk hn0
  have HR := Kp.mk hRn
  clear HB0
  go_wp2_with fail
  rw [← hF]
  clear hF
  go_loopw [33] (fun i wr => ∃ k : Nat, k ≤ n ∧ i = .int .i64 k ∧ Kp (Bt 50 wr F (tab 257 fun y => if y = 0 then 0 else sameN bs k (y - 1))) ∧ Kp (Below w.heap.size w wr)) (fun i _ => n - (intOf i).toNat)
  case atStart => exact ⟨0, by omega, rfl, HF0, HB1⟩
  case round =>
    obtain ⟨k, hk, rfl, HK, HB⟩ := hrel
    by_cases hkn : k < n
    · have hd : decide ((k : Int) < (n : Int)) = true := by simp; omega
      obtain ⟨b, o, hA, hlt, hc0⟩ := H.it.cells (by omega)
      have hcell := (HB.it.cell (p := ⟨b, o + k, none⟩) hlt).trans (hc0 k hkn)
      cases hA
      clear hc0 hlt
      have HS : Kp (∀ y, sameN bs (k + 1) y = sameN bs k y + (if (bs.getD k 0).toNat = y then 1 else 0)) := ⟨fun y => sameN_succ (by rw [HL.it]; exact hkn) y⟩
      have hbx : byte bs k = (((bs.getD k 0).toNat : Nat) : Int) := rfl
      rw [hbx] at hcell
      have hX : (bs.getD k 0).toNat < 256 := UInt8.toNat_lt _
      obtain ⟨X, hXe⟩ : ∃ X, X = (bs.getD k 0).toNat := ⟨_, rfl⟩
      rw [← hXe] at hcell HS hX
      clear hXe hbx
      have hwx : wrap64 (X : Int) = (X : Int) := by unfold wrap64; omega
      have hcf := HK.it.cell (j := X + 1) (by rw [tab_len]; omega)
      rw [tab_rd _ (by omega), if_neg (by omega), Nat.add_sub_cancel] at hcf
      have hsb : sameN bs k X ≤ 1000000 := Nat.le_trans List.countP_le_length (by rw [List.length_take]; omega)
      have hfz := HK.it.free (X + 1)
      have HK2 : Kp (Bt 50 (wr.setCell ⟨F, X + 1, none⟩ (.int .i64 ((sameN bs k X : Int) + 1))) F (tab 257 fun y => if y = 0 then 0 else sameN bs (k + 1) (y - 1))) := ⟨by
        have h9 := HK.it.store (X + 1) ((sameN bs k X + 1 : Nat) : Int)
        rw [tab_set _ (fun y => if y = 0 then 0 else sameN bs (k + 1) (y - 1)) (X + 1) (sameN bs k X + 1) (by rw [if_neg (by omega), Nat.add_sub_cancel, HS.it, if_pos rfl]) (fun y hy => by
          by_cases h0 : y = 0
          · rw [if_pos h0, if_pos h0]
          · rw [if_neg h0, if_neg h0, HS.it, if_neg (by omega), Nat.add_zero])] at h9
        exact h9⟩
      obtain ⟨s, hs⟩ : ∃ s, s = sameN bs k X := ⟨_, rfl⟩
      rw [← hs] at hcf hsb HK2
      have HFN : Kp (w.heap.size ≤ F) := ⟨by rw [HF.it]; exact Nat.le_refl _⟩
      clear hs
      go_wp2
      go_roundw
      case rel => exact ⟨k + 1, by omega, by go_num, HK2, ⟨HB.it.setCell HFN.it _⟩⟩
      case measure => simp [intOf]; omega
    obtain rfl : n = k := by omega
    have hd : decide ((n : Int) < (n : Int)) = false := by simp
    have HK0 : Kp (Bt 50 wr F (tab 257 fun y => if y < 1 then lessN bs y else sameN bs n (y - 1))) := ⟨by
      have h9 := HK.it
      have e : (fun y => if y = 0 then 0 else sameN bs n (y - 1)) = fun y => if y < 1 then lessN bs y else sameN bs n (y - 1) := by
        funext y
        by_cases h0 : y = 0
        · subst h0; simp [less_zero]
        · rw [if_neg h0, if_neg (by omega)]
      rwa [e] at h9⟩
    have HBx := HB
    clear HK HB
    go_wp2_with fail
    go_loopw [10] (fun i wr => ∃ m : Nat, 1 ≤ m ∧ m ≤ 257 ∧ i = .int .i64 m ∧ Kp (Bt 50 wr F (tab 257 fun y => if y < m then lessN bs y else sameN bs n (y - 1))) ∧ Kp (Below w.heap.size w wr)) (fun i _ => 257 - (intOf i).toNat)
    case atStart => exact ⟨1, by omega, by omega, rfl, HK0, HBx⟩
    case round =>
      obtain ⟨m, hm1, hm2, rfl, HK, HB⟩ := hrel
      by_cases hm : m < 257
      · have hd : decide ((m : Int) < 257) = true := by simp; omega
        have hcf := HK.it.cell (j := m) (by rw [tab_len]; omega)
        rw [tab_rd _ (by omega), if_neg (by omega)] at hcf
        have hcg := HK.it.cell (j := m - 1) (by rw [tab_len]; omega)
        rw [tab_rd _ (by omega), if_pos (by omega)] at hcg
        have hfz := HK.it.free m
        have HLE := Kp.mk (room_le bs (m - 1))
        have hs1 : sameN bs n (m - 1) ≤ 1000000 := Nat.le_trans List.countP_le_length (by rw [List.length_take]; omega)
        have hs2 : lessN bs (m - 1) ≤ 1000000 := Nat.le_trans (less_le _ _) (by rw [HL.it]; exact hn)
        have HLS : Kp (lessN bs m = lessN bs (m - 1) + sameN bs n (m - 1)) := ⟨by have h9 := less_succ bs (m - 1); rw [HL.it, show m - 1 + 1 = m by omega] at h9; exact h9⟩
        have HK2 : Kp (Bt 50 (wr.setCell ⟨F, m, none⟩ (.int .i64 ((sameN bs n (m - 1) : Int) + (lessN bs (m - 1) : Int)))) F (tab 257 fun y => if y < m + 1 then lessN bs y else sameN bs n (y - 1))) := ⟨by
          have h9 := HK.it.store m ((sameN bs n (m - 1) + lessN bs (m - 1) : Nat) : Int)
          rw [tab_set _ (fun y => if y < m + 1 then lessN bs y else sameN bs n (y - 1)) m (sameN bs n (m - 1) + lessN bs (m - 1)) (by rw [if_pos (by omega), HLS.it]; omega) (fun y hy => by
            by_cases h0 : y < m
            · rw [if_pos h0, if_pos (by omega)]
            · rw [if_neg h0, if_neg (by omega)])] at h9
          rw [Int.natCast_add] at h9
          exact h9⟩
        obtain ⟨a1, ha1⟩ : ∃ a, a = sameN bs n (m - 1) := ⟨_, rfl⟩
        obtain ⟨a2, ha2⟩ : ∃ a, a = lessN bs (m - 1) := ⟨_, rfl⟩
        rw [← ha1] at hcf hs1 HK2
        rw [← ha2] at hcg hs2 HK2
        obtain ⟨m', hm'⟩ : ∃ m', m = m' + 1 := ⟨m - 1, by omega⟩
        subst hm'
        rw [Nat.add_sub_cancel] at hcg
        have HFN : Kp (w.heap.size ≤ F) := ⟨by rw [HF.it]; exact Nat.le_refl _⟩
        clear ha1 ha2 HLS HLE
        go_wp2
        go_region
        all_goals
          go_wp2
          go_roundw
          case rel => exact ⟨m' + 1 + 1, by omega, by omega, by go_num, HK2, ⟨below_drew (HB.it.setCell HFN.it _)⟩⟩
          case measure => simp [intOf]; omega
      obtain rfl : m = 257 := by omega
      have HK1 : Kp (Bt 50 wr F (tab 257 fun y => lessN bs y + sameN bs 0 y)) := ⟨by
        have h9 := HK.it
        have e : (tab 257 fun y => if y < 257 then lessN bs y else sameN bs n (y - 1)) = tab 257 fun y => lessN bs y + sameN bs 0 y := by
          unfold tab
          apply List.map_congr_left
          intro y hy
          show (((if y < 257 then lessN bs y else sameN bs n (y - 1) : Nat)) : Int) = ((lessN bs y + sameN bs 0 y : Nat) : Int)
          rw [if_pos (List.mem_range.1 hy), sameN_zero, Nat.add_zero]
        rwa [e] at h9⟩
      have HT1 : Kp (Blk (wr.alloc (.cells (zrow n) 3)) wr.heap.size (tab n fun j => if j < 0 then toP bs j else 0)) := ⟨by rw [tab_zero n _ (fun y => if_neg (by omega))]; exact blk_zrow wr n⟩
      have HK2 : Kp (Bt 50 (wr.alloc (.cells (zrow n) 3)) F (tab 257 fun y => lessN bs y + sameN bs 0 y)) := ⟨blk_old _ HK1.it⟩
      have HB2 : Kp (Below w.heap.size w (wr.alloc (.cells (zrow n) 3))) := ⟨HB.it.alloc HB.it.size _⟩
      have HFT : Kp (F < wr.heap.size) := ⟨HK1.it.lt⟩
      have HTB : Kp (w.heap.size ≤ wr.heap.size) := ⟨HB.it.size⟩
      obtain ⟨T, hT⟩ : ∃ T, T = wr.heap.size := ⟨_, rfl⟩
      rw [← hT] at HT1 HFT HTB
      clear HK HB HK1
      go_wp2_with fail
      rw [← hT]
      clear hT
      go_loopw [62] (fun i wy => ∃ k : Nat, k ≤ n ∧ i = .int .i64 k ∧ Kp (Bt 50 wy F (tab 257 fun y => lessN bs y + sameN bs k y)) ∧ Kp (Blk wy T (tab n fun j => if j < k then toP bs j else 0)) ∧ Kp (Below w.heap.size w wy)) (fun i _ => n - (intOf i).toNat)
      case atStart => exact ⟨0, by omega, rfl, HK2, HT1, HB2⟩
      case round =>
        obtain ⟨k, hk, rfl, HK, HT, HB⟩ := hrel
        by_cases hkn : k < n
        · have hd : decide ((k : Int) < (n : Int)) = true := by simp; omega
          obtain ⟨b, o, hA, hlt, hc0⟩ := H.it.cells (by omega)
          have hcell := (HB.it.cell (p := ⟨b, o + k, none⟩) hlt).trans (hc0 k hkn)
          cases hA
          clear hc0 hlt
          have HS : Kp (∀ y, sameN bs (k + 1) y = sameN bs k y + (if (bs.getD k 0).toNat = y then 1 else 0)) := ⟨fun y => sameN_succ (by rw [HL.it]; exact hkn) y⟩
          have hbx : byte bs k = (((bs.getD k 0).toNat : Nat) : Int) := rfl
          rw [hbx] at hcell
          have hX : (bs.getD k 0).toNat < 256 := UInt8.toNat_lt _
          have HP : Kp (toP bs k = lessN bs (bs.getD k 0).toNat + sameN bs k (bs.getD k 0).toNat) := ⟨rfl⟩
          have HPn := toP_lt (bs := bs) (j := k) (by rw [HL.it]; exact hkn)
          rw [HL.it] at HPn
          obtain ⟨X, hXe⟩ : ∃ X, X = (bs.getD k 0).toNat := ⟨_, rfl⟩
          rw [← hXe] at hcell HS hX HP
          clear hXe hbx
          have hcf := HK.it.cell (j := X) (by rw [tab_len]; omega)
          rw [tab_rd _ (by omega), ← HP.it] at hcf
          have hfz := HK.it.free X
          have hct := HT.it.cell (j := k) (by rw [tab_len]; omega)
          have hft := HT.it.free k
          generalize rd (tab n fun j => if j < k then toP bs j else 0) k = old at hct
          have HFN : Kp (w.heap.size ≤ F) := ⟨by rw [HF.it]; exact Nat.le_refl _⟩
          have HT2 : Kp (Blk (wr.setCell ⟨T, k, none⟩ (.int .i64 (toP bs k : Int))) T (tab n fun j => if j < k + 1 then toP bs j else 0)) := ⟨by
            have h9 := HT.it.store k (toP bs k : Int)
            rw [tab_set _ (fun j => if j < k + 1 then toP bs j else 0) k (toP bs k) (by rw [if_pos (by omega)]) (fun y hy => by
              by_cases h0 : y < k
              · rw [if_pos h0, if_pos (by omega)]
              · rw [if_neg h0, if_neg (by omega)])] at h9
            exact h9⟩
          have HK3 : Kp (Bt 50 (wr.setCell ⟨T, k, none⟩ (.int .i64 (toP bs k : Int))) F (tab 257 fun y => lessN bs y + sameN bs k y)) := ⟨by
            unfold Bt
            rw [other_block _ _ _ (by show F ≠ T; have := HFT.it; omega)]
            exact HK.it⟩
          have HK4 : Kp (Bt 50 ((wr.setCell ⟨T, k, none⟩ (.int .i64 (toP bs k : Int))).setCell ⟨F, X, none⟩ (.int .i64 ((toP bs k : Int) + 1))) F (tab 257 fun y => lessN bs y + sameN bs (k + 1) y)) := ⟨by
            have h9 := HK3.it.store X ((toP bs k + 1 : Nat) : Int)
            rw [tab_set _ (fun y => lessN bs y + sameN bs (k + 1) y) X (toP bs k + 1) (by rw [HS.it, if_pos rfl, HP.it]; omega) (fun y hy => by rw [HS.it, if_neg (by omega), Nat.add_zero])] at h9
            exact h9⟩
          have HT4 : Kp (Blk ((wr.setCell ⟨T, k, none⟩ (.int .i64 (toP bs k : Int))).setCell ⟨F, X, none⟩ (.int .i64 ((toP bs k : Int) + 1))) T (tab n fun j => if j < k + 1 then toP bs j else 0)) := ⟨by
            unfold Blk
            rw [other_block _ _ _ (by show T ≠ F; have := HFT.it; omega)]
            exact HT2.it⟩
          have hc3 := HK3.it.cell (j := X) (by rw [tab_len]; omega)
          rw [tab_rd _ (by omega), ← HP.it] at hc3
          have hf3 := HK3.it.free X
          obtain ⟨P, hP⟩ : ∃ P, P = toP bs k := ⟨_, rfl⟩
          rw [← hP] at hcf HPn HK4 HT4 hc3 hf3
          clear HP HK3 HT2 hP
          go_wp2
          go_roundw
          case rel => exact ⟨k + 1, by omega, by go_num, HK4, HT4, ⟨(HB.it.setCell HTB.it _).setCell HFN.it _⟩⟩
          case measure => simp [intOf]; omega
        obtain rfl : n = k := by omega
        have hd : decide ((n : Int) < (n : Int)) = false := by simp
        have HT1 : Kp (Blk (wr.alloc (.cells (zbytes n) 5)) T (tab n fun j => if j < n then toP bs j else 0)) := ⟨blk_old _ HT.it⟩
        have HO1 : Kp (Bky (wr.alloc (.cells (zbytes n) 5)) wr.heap.size (List.replicate n 0 ++ (backN bs R).drop n)) := ⟨by
          rw [List.drop_of_length_le (by rw [backN_len, HL.it]; omega), List.append_nil]
          exact bky_zeros wr n⟩
        have HB3 : Kp (Below w.heap.size w (wr.alloc (.cells (zbytes n) 5))) := ⟨HB.it.alloc HB.it.size _⟩
        have HTO : Kp (T < wr.heap.size) := ⟨HT.it.lt⟩
        have HOB : Kp (w.heap.size ≤ wr.heap.size) := ⟨HB.it.size⟩
        obtain ⟨G, hG⟩ : ∃ G, G = wr.heap.size := ⟨_, rfl⟩
        rw [← hG] at HO1 HTO HOB
        clear HK HB HT
        go_wp2_with fail
        rw [← hG]
        clear hG
        go_loopw [1, 15] (fun x i wy => ∃ t : Nat, t ≤ n ∧ i = .int .i64 ((t : Int) - 1) ∧ x = .int .i64 (rowAt bs R (n - t) : Nat) ∧ Kp (Bky wy G (List.replicate t 0 ++ (backN bs R).drop t)) ∧ Kp (Blk wy T (tab n fun j => if j < n then toP bs j else 0)) ∧ Kp (Below w.heap.size w wy)) (fun _ i _ => (intOf i + 1).toNat)
        case atStart => exact ⟨n, by omega, by go_num, by rw [Nat.sub_self]; rfl, HO1, HT1, HB3⟩
        case round =>
          obtain ⟨t, ht, rfl, rfl, HO, HT, HB⟩ := hrel
          rcases Nat.eq_zero_or_pos t with h0 | h0
          · subst h0
            have hd5 : decide ((0 : Int) ≤ ((0 : Nat) : Int) - 1) = false := by decide
            have HE2 : Kp (OwnB wr w.heap.size (.slice (some ⟨G, 0, none⟩) n n) (backN bs R)) := ⟨by
              have h9 := HO.it
              rw [List.replicate_zero, List.nil_append, List.drop_zero] at h9
              have h8 := h9.own (base := w.heap.size) HOB.it (by rw [backN_len, HL.it]; omega)
              rwa [backN_len, HL.it] at h8⟩
            go_wp2
            go_ret2
            rw [HE.it]
            exact ⟨_, rfl, HE2.it, HB.it⟩
          · obtain ⟨s, rfl⟩ : ∃ s, t = s + 1 := ⟨t - 1, by omega⟩
            rw [show (((s + 1 : Nat) : Int) - 1) = (s : Int) by omega]
            have hd5 : decide ((0 : Int) ≤ (s : Int)) = true := by simp
            have hrn : rowAt bs R (n - (s + 1)) < n := by have := rowAt_lt (bs := bs) (r := R) (by rw [HL.it]; exact hRn) (n - (s + 1)); rwa [HL.it] at this
            have HRS : Kp (rowAt bs R (n - s) = toP bs (rowAt bs R (n - (s + 1)))) := ⟨by rw [show n - s = (n - (s + 1)) + 1 by omega]; rfl⟩
            obtain ⟨b, o, hA, hlt, hc0⟩ := H.it.cells (by omega)
            have hcell := (HB.it.cell (p := ⟨b, o + rowAt bs R (n - (s + 1)), none⟩) hlt).trans (hc0 _ hrn)
            cases hA
            clear hc0 hlt
            have hbx : byte bs (rowAt bs R (n - (s + 1))) = (((bs.getD (rowAt bs R (n - (s + 1))) 0).toNat : Nat) : Int) := rfl
            rw [hbx] at hcell
            have hct := HT.it.cell (j := rowAt bs R (n - (s + 1))) (by rw [tab_len]; exact hrn)
            rw [tab_rd _ hrn, if_pos hrn, ← HRS.it] at hct
            have HST := Kp.mk (back_set (bs := bs) (r := R) (t := s) (by rw [HL.it]; omega))
            rw [HL.it, show n - 1 - s = n - (s + 1) by omega] at HST
            have hco := HO.it.cell (j := s) (by rw [List.length_append, List.length_replicate]; omega)
            have hfo := HO.it.free s
            generalize byte (List.replicate (s + 1) 0 ++ (backN bs R).drop (s + 1)) s = old at hco
            obtain ⟨CB, hCB⟩ : ∃ CB, CB = bs.getD (rowAt bs R (n - (s + 1))) 0 := ⟨_, rfl⟩
            rw [← hCB] at hcell HST
            have HO2 : Kp (Bky (wr.setCell ⟨G, s, none⟩ (.int .u8 (CB.toNat : Int))) G (List.replicate s 0 ++ (backN bs R).drop s)) := ⟨by have h9 := HO.it.store s CB; rwa [HST.it] at h9⟩
            have HT2 : Kp (Blk (wr.setCell ⟨G, s, none⟩ (.int .u8 (CB.toNat : Int))) T (tab n fun j => if j < n then toP bs j else 0)) := ⟨by
              unfold Blk
              rw [other_block _ _ _ (by show T ≠ G; have := HTO.it; omega)]
              exact HT.it⟩
            have hct2 := HT2.it.cell (j := rowAt bs R (n - (s + 1))) (by rw [tab_len]; exact hrn)
            rw [tab_rd _ hrn, if_pos hrn, ← HRS.it] at hct2
            obtain ⟨Y, hY⟩ : ∃ Y, Y = rowAt bs R (n - (s + 1)) := ⟨_, rfl⟩
            rw [← hY] at hcell hct hct2 hrn ⊢
            clear hCB hbx HRS hY
            go_wp2
            go_roundw
            case rel => exact ⟨s, by omega, by go_num, rfl, HO2, HT2, ⟨HB.it.setCell HOB.it _⟩⟩
            case measure => simp [intOf]
end Go.Proofs.Ytnkgagbobihnnaa
