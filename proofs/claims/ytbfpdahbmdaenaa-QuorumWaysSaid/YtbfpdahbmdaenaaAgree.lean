/-
  Agreed.
-/
import Derived.Test.YtbfpdahbmdaenaaSort
import Derived.Test.YtbfpdahbmdaenaaPlaces
namespace Go.Proofs.Ytbfpdahbmdaenaa
open Go.RowKit

def inR (v : Int) : Bool := decide (0 ≤ v) && decide (v < 5)
/-- What those of xs that are nodes have reached. -/
def gat (r : Int → Int) (xs : List Int) : List Int := (xs.filter inR).map r
theorem gat_le (r : Int → Int) (xs : List Int) (k : Nat) : (gat r (xs.take k)).length ≤ k := by
  unfold gat
  rw [List.length_map]
  exact Nat.le_trans (List.length_filter_le _ _) (List.length_take_le _ _)
theorem gat_le' (r : Int → Int) (xs : List Int) : (gat r xs).length ≤ xs.length := by
  unfold gat
  rw [List.length_map]
  exact List.length_filter_le _ _
theorem gat_hit {r : Int → Int} {xs : List Int} {k : Nat} (h : k < xs.length) (hi : inR (rd xs k) = true) : gat r (xs.take (k + 1)) = gat r (xs.take k) ++ [r (rd xs k)] := by
  unfold gat
  rw [List.take_succ_eq_append_getElem h, List.filter_append, List.map_append, ← rd_lt h]
  simp [hi]
theorem gat_miss {r : Int → Int} {xs : List Int} {k : Nat} (h : k < xs.length) (hi : inR (rd xs k) = false) : gat r (xs.take (k + 1)) = gat r (xs.take k) := by
  unfold gat
  rw [List.take_succ_eq_append_getElem h, List.filter_append, List.map_append, ← rd_lt h]
  simp [hi]

/-- What Agreed answers. -/
def agr (r : Int → Int) (vs : List Int) : Int := if (gat r vs).length = 0 ∨ (gat r vs).length < vs.length then 0 else rd (sorted (gat r vs)) (((gat r vs).length - 1) / 2)

theorem Try.info3' : (Try.prog.info? 3).map (fun i => (i.zero, i.size, i.bytes)) = some (some (.int .i64 0), 1, 8) := by kernel_rfl

theorem own_push {W : World} {base : Nat} {v v' : Value} {xs : List Int} {x : Int} {w1 : World} (h : w1.ownsRow base 3 1 v' (xs.length + 1) (xs.map (Value.int .i64) ++ [.int .i64 x])) (_h : Own W base v xs) : Own w1 base v' (xs ++ [x]) := by
  unfold Own
  simpa using h

set_option maxHeartbeats 1000000 in
theorem agreed_any (A1 A2 : Option Addr) (n1 c1 n2 c2 : Nat) (vs : List Int) (r : Int → Int) (w : World) (h1 : Rd w A1 n1 vs) : Calls Try.prog 15 #[.agg #[.slice A1 n1 c1, .slice A2 n2 c2], .agg (arr5 r)] w fun e w' =>
    e = .returned (.int .i64 (agr r vs)) ∧ Below w.heap.size w w' := by
  obtain ⟨i0, hi, hz0, hz1, hz2⟩ := info_parts Try.info3'
  have hb : Below w.heap.size w ((w.alloc (.cells #[.slice A1 n1 c1, .slice A2 n2 c2] 24)).alloc (.cells (arr5 r) 25)) := ((Below.refl _ _).alloc (Nat.le_refl _) _).alloc (by simp) _
  have hbd := h1.bd
  have HL : Kp (vs.length = n1) := ⟨h1.len⟩
  have HR := Kp.mk h1
  have hB0 : Kp (((w.alloc (.cells #[.slice A1 n1 c1, .slice A2 n2 c2] 24)).alloc (.cells (arr5 r) 25)).heap[w.heap.size]? = some (.cells #[.slice A1 n1 c1, .slice A2 n2 c2] 24 (0, 0))) := ⟨blk_old _ (blk_new _ _)⟩
  have hB1 : Kp (((w.alloc (.cells #[.slice A1 n1 c1, .slice A2 n2 c2] 24)).alloc (.cells (arr5 r) 25)).heap[w.heap.size + 1]? = some (.cells (arr5 r) 25 (0, 0))) := ⟨by have := blk_new (w.alloc (.cells #[.slice A1 n1 c1, .slice A2 n2 c2] 24)) (.cells (arr5 r) 25); rwa [World.size_alloc] at this⟩
  have HB := Kp.mk hb
  clear h1 hb
  go_enter Try.func15, Try.ntmps15
  go_wp2
  go_loopw [5, 11] (fun l i wr => ∃ k : Nat, k ≤ n1 ∧ i = .int .i64 k ∧ Own wr (w.heap.size + 2) l (gat r (vs.take k)) ∧ Kp (Below (w.heap.size + 2) ((w.alloc (.cells #[.slice A1 n1 c1, .slice A2 n2 c2] 24)).alloc (.cells (arr5 r) 25)) wr) ∧ w.heap.size + 2 ≤ wr.heap.size) (fun _ i _ => n1 - (intOf i).toNat)
  case atStart => exact ⟨0, by omega, rfl, by simpa [gat] using Own.nil _ _, ⟨Below.refl _ _⟩, by simp⟩
  case round =>
    obtain ⟨k, hk, rfl, hown, hW, hsz⟩ := hrel
    have hBw : Kp (Below w.heap.size w wr) := ⟨HB.it.trans (hW.it.mono (by omega))⟩
    by_cases hkn : k < n1
    · obtain ⟨b, o, hA, hlt, hc0⟩ := HR.it.get hkn
      cases hA
      have hcell := (hBw.it.cell (p := ⟨b, o + k, none⟩) hlt).trans hc0
      have hl : k < vs.length := by rw [HL.it]; exact hkn
      have hd : decide ((k : Int) < (n1 : Int)) = true := by simp; omega
      by_cases hx : inR (rd vs k) = true
      · have hG := Kp.mk (gat_hit (r := r) hl hx)
        unfold inR at hx
        simp only [Bool.and_eq_true, decide_eq_true_eq] at hx
        obtain ⟨m, hm⟩ : ∃ m : Nat, rd vs k = m := ⟨(rd vs k).toNat, by omega⟩
        have hm5 : m < 5 := by omega
        have hp := (hW.it.cell (p := ⟨w.heap.size + 1, m, none⟩) (by simp)).trans (blk_cell hB1.it (arr5_get r m hm5))
        rw [hm] at hcell hG
        obtain ⟨y, hy⟩ : ∃ y, y = r (m : Int) := ⟨_, rfl⟩
        rw [← hy] at hp hG
        have hgl := gat_le r vs k
        obtain ⟨xs, hxs⟩ : ∃ xs, xs = gat r (vs.take k) := ⟨_, rfl⟩
        rw [← hxs] at hown hG hgl
        have HO := Kp.mk hown
        clear hx hm hc0 hy hl hxs
        unfold Own at hown
        go_wp2_with (at_builtin; refine wpList_append_own _ rfl _ _ 22 rfl (w.heap.size + 2) 3 i0 (.int .i64 0) 1 8 Try.underlying22 hi hz0 hz1 hz2 rfl (by decide) _ _ _ rfl (hown.alloc _) ⟨wr.heap.size, 0, none⟩ 1 1 [.int .i64 y] rfl rfl ?c1 ?c2 ?c3 ?c4 ?c5 ?_)
        case c1 =>
          intro j u hj
          match j, hj with
          | 0, hj => simp at hj; subst hj; simp [Addr.add]
        case c2 => intro u hu; simp at hu; subst hu; rfl
        case c3 => unfold maxLen; omega
        case c4 => omega
        case c5 => simp; omega
        intro v' w1 hown' hgrow _
        have hO : Own w1 (w.heap.size + 2) v' (xs ++ [y]) := by unfold Own; simpa using hown'
        obtain ⟨hW', hs'⟩ := below_app hW.it hsz HO.it (Nat.le_refl _) hgrow
        have hs2 : w.heap.size + 2 ≤ w1.heap.size := by omega
        have HW' := Kp.mk hW'
        clear hown' hgrow hown hW' hs'
        go_wp2
        go_roundw
        case rel => exact ⟨k + 1, by omega, by go_num, by rw [hG.it]; exact hO, HW', hs2⟩
        case measure => simp [intOf]; omega
      · rw [Bool.not_eq_true] at hx
        have hG := Kp.mk (gat_miss (r := r) hl hx)
        obtain ⟨y, hy⟩ : ∃ y, y = rd vs k := ⟨_, rfl⟩
        rw [← hy] at hcell
        have hyx : ¬ (0 ≤ y ∧ y < 5) := by rw [hy]; intro h; unfold inR at hx; simp at hx; omega
        have HO := Kp.mk hown
        clear hx hc0 hy hl hown
        by_cases hy0 : 0 ≤ y
        · have hy5 : decide (y < 5) = false := by simp; omega
          clear hyx
          go_wp2
          go_roundw
          case rel => exact ⟨k + 1, by omega, by go_num, by rw [hG.it]; exact HO.it, hW, hsz⟩
          case measure => simp [intOf]; omega
        · clear hyx
          go_wp2
          go_roundw
          case rel => exact ⟨k + 1, by omega, by go_num, by rw [hG.it]; exact HO.it, hW, hsz⟩
          case measure => simp [intOf]; omega
    · have e : vs.take k = vs := List.take_of_length_le (by rw [HL.it]; omega)
      rw [e] at hown
      have hgl := gat_le' r vs
      rw [HL.it] at hgl
      have HV : Kp (agr r vs = if (gat r vs).length = 0 ∨ (gat r vs).length < n1 then 0 else rd (sorted (gat r vs)) (((gat r vs).length - 1) / 2)) := ⟨by unfold agr; rw [HL.it]⟩
      obtain ⟨xs, hxs⟩ : ∃ xs, xs = gat r vs := ⟨_, rfl⟩
      rw [← hxs] at hown hgl HV
      clear e hxs
      have hA0 := (hW.it.cell (p := ⟨w.heap.size, 0, none⟩) (by simp)).trans (blk_cell (v := .slice A1 n1 c1) hB0.it rfl)
      obtain ⟨A, c, rfl, hrd⟩ := hown.form
      have HO := Kp.mk hown
      clear hrd hown
      by_cases h0 : xs.length = 0
      · have HE : Kp (agr r vs = 0) := ⟨by rw [HV.it, if_pos (.inl h0)]⟩
        have hq : ((xs.length : Int) == 0) = true := by rw [beq_iff_eq]; omega
        clear h0
        go_wp2
        go_ret
        exact ⟨ret_int HE.it.symm, hBw.it⟩
      · have hq : ((xs.length : Int) == 0) = false := by rw [beq_eq_false_iff_ne]; omega
        have hxp : 0 < xs.length := by omega
        clear h0
        by_cases h1 : xs.length < n1
        · have HE : Kp (agr r vs = 0) := ⟨by rw [HV.it, if_pos (.inr h1)]⟩
          go_wp2
          go_ret
          exact ⟨ret_int HE.it.symm, hBw.it⟩
        · have HE : Kp (agr r vs = rd (sorted xs) ((xs.length - 1) / 2)) := ⟨by rw [HV.it, if_neg (by omega)]⟩
          go_wp2_with fail
          refine (sort_any _ xs _ _ HO.it (by omega)).mono ?_
          rintro e w' ⟨rfl, ho, hg⟩
          obtain ⟨A', c', he, hrd⟩ := ho.form
          rw [sorted_length] at he hrd
          cases he
          obtain ⟨b, o, hA, hlt, hc⟩ := (hrd (by omega)).get (k := (xs.length - 1) / 2) (by omega)
          cases hA
          have HBL : Kp (Below w.heap.size w w') := ⟨hBw.it.grown hg (by have := hBw.it.size; omega) (fun k hk => by have := HO.it.base_le k hk; omega)⟩
          obtain ⟨y, hy⟩ : ∃ y, y = rd (sorted xs) ((xs.length - 1) / 2) := ⟨_, rfl⟩
          rw [← hy] at hc HE
          clear hy ho hg hrd
          go_wp2
          go_ret
          exact ⟨ret_int HE.it.symm, HBL.it⟩

end Go.Proofs.Ytbfpdahbmdaenaa
