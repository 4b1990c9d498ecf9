/-
  drop: slices.DeleteFunc of what equals a number.
-/
import Derived.Test.YtbfpdahbmdaenaaAsk
import Derived.Lib.SliceRun
namespace Go.Proofs.Ytbfpdahbmdaenaa
open Go Go.RowKit

/-- The first k without y. -/
def wo (xs : List Int) (y : Int) (k : Nat) : List Int := (xs.take k).filter (fun x => x != y)
theorem wo_hit {xs : List Int} {y : Int} {k : Nat} (h : k < xs.length) (hx : (rd xs k == y) = true) : wo xs y (k + 1) = wo xs y k := by
  unfold wo
  rw [List.take_succ_eq_append_getElem h, List.filter_append, ← rd_lt h]
  have : rd xs k = y := by simpa using hx
  simp [this]
theorem wo_miss {xs : List Int} {y : Int} {k : Nat} (h : k < xs.length) (hx : (rd xs k == y) = false) : wo xs y (k + 1) = wo xs y k ++ [rd xs k] := by
  unfold wo
  rw [List.take_succ_eq_append_getElem h, List.filter_append, ← rd_lt h]
  have : ¬ rd xs k = y := by simpa using hx
  simp [this]
theorem wo_le (xs : List Int) (y : Int) (k : Nat) : (wo xs y k).length ≤ k := by
  unfold wo
  exact Nat.le_trans (List.length_filter_le _ _) (List.length_take_le _ _)
theorem wo_all (xs : List Int) (y : Int) : wo xs y xs.length = xs.filter (fun x => x != y) := by unfold wo; rw [List.take_length]
theorem wo_none {xs : List Int} {y : Int} {k : Nat} (hk : k ≤ xs.length) (h : ∀ j, j < k → rd xs j ≠ y) : wo xs y k = xs.take k := by
  unfold wo
  rw [List.filter_eq_self]
  intro a ha
  obtain ⟨j, hj, he⟩ := List.mem_iff_getElem.1 ha
  rw [List.length_take] at hj
  have := h j (by omega)
  rw [rd_lt (by omega)] at this
  rw [List.getElem_take] at he
  rw [← he]
  simpa using this
theorem rd_append_left {xs ys : List Int} {k : Nat} (h : k < xs.length) : rd (xs ++ ys) k = rd xs k := by
  unfold rd; rw [List.getD_eq_getElem?_getD, List.getD_eq_getElem?_getD, List.getElem?_append_left h]
theorem rd_append_last {xs : List Int} {y : Int} : rd (xs ++ [y]) xs.length = y := by
  unfold rd; rw [List.getD_eq_getElem?_getD, List.getElem?_append_right (Nat.le_refl _)]; simp

theorem grown_set {w wr : World} {g : Nat} (h : w.grownBy wr (some g)) (o : Nat) (v : Value) : w.grownBy (wr.setCell ⟨g, o, none⟩ v) (some g) :=
  ⟨h.os, h.tape, h.output, by rw [size_set]; exact h.size, fun k hk hne => by
    rw [other_block _ _ _ (by intro e; exact hne (by rw [e]))]
    exact h.block k hk hne⟩
theorem grown_sets {w : World} {g : Nat} (vs : List Value) : ∀ {wr : World} (o : Nat), w.grownBy wr (some g) → w.grownBy (wr.setCells g o vs) (some g) := by
  induction vs with
  | nil => intro wr o h; exact h
  | cons v vs ih => intro wr o h; exact ih (o + 1) (grown_set h o v)
theorem block_sets {g : Nat} {t : TypeId} (vs : List Value) : ∀ {wr : World} {cur : Array Value} (o : Nat), wr.heap[g]? = some (.cells cur t (0, 0)) → ∃ cur', (wr.setCells g o vs).heap[g]? = some (.cells cur' t (0, 0)) ∧ cur'.size = cur.size ∧ ∀ q, q < o → cur'[q]? = cur[q]? := by
  induction vs with
  | nil => intro wr cur o h; exact ⟨cur, h, rfl, fun _ _ => rfl⟩
  | cons v vs ih =>
    intro wr cur o h
    obtain ⟨c', h1, h2, h3⟩ := ih (o + 1) (blk_set (o := o) v h)
    exact ⟨c', h1, by rw [h2]; simp, fun q hq => by rw [h3 q (by omega), Array.getElem?_setIfInBounds, if_neg (by omega)]⟩

section
variable (p : Nat) (y : Int)

set_option maxHeartbeats 400000 in
theorem clo38 (x : Int) (w : World) (h : w.cell? ⟨p, 0, none⟩ = some (.int .i64 y)) : Calls Try.prog 38 #[.int .i64 x, .pointer (some ⟨p, 0, none⟩)] w fun e w' =>
    e = .returned (.bool (x == y)) ∧ w = w' := by
  go_enter Try.func38, Try.ntmps38
  go_wp2
  go_ret
  exact ⟨rfl, rfl⟩

set_option maxHeartbeats 1000000 in
theorem idx38 (A : Option Addr) (n c : Nat) (xs : List Int) (w : World) (h : w.cell? ⟨p, 0, none⟩ = some (.int .i64 y)) (ha : Rd w A n xs) : Calls Try.prog 46 #[.slice A n c, .func (.func 38) #[] #[.pointer (some ⟨p, 0, none⟩)]] w fun e w' =>
    e = .returned (.int .i64 (idxOf xs y)) ∧ w = w' := by
  have hbd := ha.bd
  have HL : Kp (xs.length = n) := ⟨ha.len⟩
  have HR := Kp.mk ha
  have HC := Kp.mk h
  clear h ha
  go_enter Try.func46, Try.ntmps46
  go_wp2
  go_loopw [8] (fun i wr => ∃ k : Nat, k ≤ n ∧ i = .int .i64 k ∧ w = wr ∧ Kp (∀ j, j < k → rd xs j ≠ y)) (fun i _ => n - (intOf i).toNat)
  case atStart => exact ⟨0, by omega, rfl, rfl, ⟨fun j hj => by omega⟩⟩
  case round =>
    obtain ⟨k, hk, rfl, rfl, hno⟩ := hrel
    by_cases hkn : k < n
    · obtain ⟨b, o, hA, hlt, hcell⟩ := HR.it.get hkn
      cases hA
      cases hv : (rd xs k == y) with
      | true =>
        have HV : Kp (idxOf xs y = k) := ⟨idxOf_hit xs y k (by rw [HL.it]; exact hkn) (by simpa using hv) hno.it⟩
        have HX := Kp.mk hv
        clear hv
        go_wp2_with (go_at_call 38; refine (clo38 p y _ _ HC.it).mono ?_; rintro e w1 ⟨rfl, rfl⟩; rw [HX.it])
        go_ret
        exact ⟨ret_int HV.it.symm, rfl⟩
      | false =>
        have HX := Kp.mk hv
        clear hv
        go_wp2_with (go_at_call 38; refine (clo38 p y _ _ HC.it).mono ?_; rintro e w1 ⟨rfl, rfl⟩; rw [HX.it])
        go_roundw
        case rel => exact ⟨k + 1, by omega, by go_num, by first | rfl | trivial, ⟨fun j hj => by
          rcases Nat.lt_succ_iff_lt_or_eq.1 hj with h | rfl
          · exact hno.it j h
          · have := HX.it; simpa using this⟩⟩
        case measure => simp [intOf]; omega
    · have HV : Kp (idxOf xs y = -1) := ⟨idxOf_miss xs y (fun j hj => hno.it j (by rw [HL.it] at hj; omega))⟩
      go_wp2
      go_ret
      exact ⟨ret_int HV.it.symm, rfl⟩

theorem idxOf_cases (xs : List Int) : (idxOf xs y = -1 ∧ xs.filter (fun x => x != y) = xs) ∨ ∃ r : Nat, idxOf xs y = r ∧ r < xs.length ∧ rd xs r = y ∧ ∀ j, j < r → rd xs j ≠ y := by
  unfold idxOf
  cases h : inB xs y with
  | false =>
    left
    refine ⟨rfl, List.filter_eq_self.2 fun a ha => ?_⟩
    have : a ≠ y := by
      rintro rfl
      rw [inB_iff.2 ha] at h
      cases h
    simpa using this
  | true =>
    right
    have hm := inB_iff.1 h
    have h1 := List.idxOf_lt_length_of_mem hm
    refine ⟨xs.idxOf y, rfl, h1, by rw [rd_lt h1]; exact List.getElem_idxOf h1, fun j hj he => ?_⟩
    have := List.not_of_lt_findIdx (p := (· == y)) (xs := xs) hj
    rw [rd_lt (by omega)] at he
    simp [he] at this

set_option maxHeartbeats 2000000 in
theorem delete_any (v : Value) (xs : List Int) (w : World) (base : Nat) (hp : p < base) (h : w.cell? ⟨p, 0, none⟩ = some (.int .i64 y)) (ho : Own w base v xs) (hl : xs.length * 8 ≤ 140737488351232) :
    Calls Try.prog 37 #[v, .func (.func 38) #[] #[.pointer (some ⟨p, 0, none⟩)]] w fun e w' => ∃ v', e = .returned v' ∧ Own w' base v' (xs.filter (fun x => x != y)) ∧ w.grownBy w' v.ownBlock := by
  obtain ⟨A, c, hv, hnil, hmc, hcb, hR⟩ := ho.form3 hl
  obtain ⟨m, hm⟩ : ∃ m, m = xs.length := ⟨_, rfl⟩
  rcases idxOf_cases y xs with ⟨hi, hf⟩ | ⟨r, hi, hr, hry, hrn⟩
  · have HI := Kp.mk (idx38 p y A xs.length c xs w h hR)
    rw [hi] at HI
    have HO : Kp (Own w base (.slice A m c) (xs.filter (fun x => x != y))) := ⟨by rw [hf, hm, ← hv]; exact ho⟩
    rw [← hm] at HI hv
    subst hv
    clear hnil hmc hcb hR hm hi hf h ho hl
    go_enter Try.func37, Try.ntmps37
    go_wp2_with (go_at_call 46; refine HI.it.mono ?_; rintro e w1 ⟨rfl, rfl⟩)
    go_ret
    exact ⟨_, rfl, HO.it, World.grownBy.refl _ _⟩
  · have HI := Kp.mk (idx38 p y A xs.length c xs w h hR)
    rw [hi] at HI
    unfold Own at ho
    rcases ho.2 with ⟨h1, h2⟩ | ⟨g, cap, cur, h1, hb, hh, _, hcm, hcs, hct⟩
    · have : xs.length = 0 := by simpa using h2
      omega
    · rw [h1] at hv
      cases hv
      rw [← hm] at HI h1 hmc hct hr hl
      subst h1
      have hcur : ∀ q, q < m → cur[q]? = some (.int .i64 (rd xs q)) := by
        intro q hq
        have e : (cur.toList.take (m * 1))[q]? = some (.int .i64 (rd xs q)) := by
          rw [hct, List.getElem?_map, List.getElem?_eq_getElem (by omega), rd_lt (by omega)]; rfl
        rw [List.getElem?_take, if_pos (by omega)] at e
        simpa using e
      have HH := Kp.mk hh
      have HM := Kp.mk hm
      have HCS : Kp (cur.size = c) := ⟨by simpa using hcs⟩
      have HCM := Kp.mk hcm
      have HX0 : Kp (wo xs y (r + 1) = xs.take r) := ⟨by rw [wo_hit (by omega) (by simpa using hry), wo_none (by omega) hrn]⟩
      have HCUR := Kp.mk hcur
      have HC := Kp.mk h
      have HBP := Kp.mk (show p < base from hp)
      have HBG := Kp.mk hb
      have HPL : Kp (p < w.heap.size) := ⟨by have := (Array.getElem?_eq_some_iff.1 hh).1; omega⟩
      have hrm : ((r : Int) == -1) = false := by rw [beq_eq_false_iff_ne]; omega
      clear hh hm hcs hcm hcur h hct hR hnil ho hry hrn hi
      go_enter Try.func37, Try.ntmps37
      go_wp2_with (go_at_call 46; refine HI.it.mono ?_; rintro e w1 ⟨rfl, rfl⟩)
      go_wp2
      go_loopw [5, 6] (fun i j wr => ∃ (k : Nat) (cur : Array Value), k ≤ m ∧ j = .int .i64 k ∧ i = .int .i64 ((wo xs y k).length : Nat) ∧ Kp ((wo xs y k).length < k) ∧ Kp (wr.heap[g]? = some (.cells cur 3 (0, 0))) ∧ Kp (cur.size = c) ∧
        Kp (∀ q, q < (wo xs y k).length → cur[q]? = some (.int .i64 (rd (wo xs y k) q))) ∧ Kp (∀ q, k ≤ q → q < m → cur[q]? = some (.int .i64 (rd xs q))) ∧ Kp (w.grownBy wr (some g))) (fun _ j _ => m - (intOf j).toNat)
      case atStart =>
        refine ⟨r + 1, cur, by omega, by go_num, ?_, ?_, HH, HCS, ?_, ⟨fun q _ hq => HCUR.it q hq⟩, ⟨World.grownBy.refl _ _⟩⟩
        · rw [HX0.it, List.length_take, Nat.min_eq_left (by have := HM.it; omega)]
        · exact ⟨by rw [HX0.it, List.length_take, Nat.min_eq_left (by have := HM.it; omega)]; omega⟩
        · exact ⟨by
            rw [HX0.it]
            intro q hq
            rw [List.length_take] at hq
            rw [rd_take (by omega)]
            exact HCUR.it q (by omega)⟩
      case round =>
        obtain ⟨k, cu, hk, rfl, rfl, HLT, HB, HS, HLOW, HHIGH, HG⟩ := hrel
        have hlt := HLT.it
        have hle := wo_le xs y k
        by_cases hkm : k < m
        · have hd : decide ((k : Int) < (m : Int)) = true := by simp; omega
          have hkx : k < xs.length := by rw [← HM.it]; exact hkm
          have hcell : wr.cell? ⟨g, k, none⟩ = some (.int .i64 (rd xs k)) := blk_cell HB.it (HHIGH.it k (Nat.le_refl _) hkm)
          have HCW : Kp (wr.cell? ⟨p, 0, none⟩ = some (.int .i64 y)) := ⟨by
            have hne : p ≠ g := by have := HBP.it; have := HBG.it; omega
            have := HG.it.block p HPL.it (by simpa using hne)
            rw [← HC.it]
            unfold World.cell?
            rw [this]⟩
          cases hv : (rd xs k == y) with
          | true =>
            have HX := Kp.mk hv
            have HW := Kp.mk (wo_hit hkx hv)
            clear hv hkx
            go_wp2_with (go_at_call 38; refine (clo38 p y _ _ HCW.it).mono ?_; rintro e w1 ⟨rfl, rfl⟩; rw [HX.it])
            go_roundw
            case rel => exact ⟨k + 1, cu, by omega, by go_num, by rw [HW.it], ⟨by rw [HW.it]; omega⟩, HB, HS, ⟨by rw [HW.it]; exact HLOW.it⟩, ⟨fun q h1 h2 => HHIGH.it q (by omega) h2⟩, HG⟩
            case measure => simp [intOf]; omega
          | false =>
            have HX := Kp.mk hv
            have HW := Kp.mk (wo_miss hkx hv)
            obtain ⟨i, hii⟩ : ∃ i, i = (wo xs y k).length := ⟨_, rfl⟩
            have HI2 := Kp.mk hii
            rw [← hii] at hlt hle
            have hix : i < cu.size := by rw [HS.it]; omega
            have hcell2 : wr.cell? ⟨g, i, none⟩ = some cu[i] := blk_cell HB.it (Array.getElem?_eq_getElem hix)
            have hfz : wr.frozen? ⟨g, i, none⟩ = false := blk_free HB.it
            generalize cu[i] = old at hcell2
            clear hix
            rw [← hii]
            clear hv hkx hii
            go_wp2_with (go_at_call 38; refine (clo38 p y _ _ HCW.it).mono ?_; rintro e w1 ⟨rfl, rfl⟩; rw [HX.it])
            go_roundw
            case rel =>
              have hll : (wo xs y (k + 1)).length = i + 1 := by rw [HW.it, List.length_append, ← HI2.it]; rfl
              refine ⟨k + 1, _, by omega, by go_num, by rw [hll]; go_num, ⟨by rw [hll]; omega⟩, ⟨blk_set _ HB.it⟩, ⟨by rw [Array.size_setIfInBounds]; exact HS.it⟩, ⟨?_⟩, ⟨?_⟩, ⟨grown_set HG.it _ _⟩⟩
              · intro q hq
                rw [hll] at hq
                rw [Array.getElem?_setIfInBounds]
                by_cases hqi : i = q
                · subst hqi
                  rw [if_pos rfl, if_pos (by rw [HS.it]; omega), HW.it]
                  rw [show i = (wo xs y k).length from HI2.it, rd_append_last]
                · rw [if_neg hqi, HW.it, rd_append_left (by rw [← HI2.it]; omega)]
                  exact HLOW.it q (by rw [← HI2.it]; omega)
              · intro q h1 h2
                rw [Array.getElem?_setIfInBounds, if_neg (by omega)]
                exact HHIGH.it q (by omega) h2
            case measure => simp [intOf]; omega
        · obtain rfl : k = m := by omega
          obtain ⟨i, hii⟩ : ∃ i, i = (wo xs y k).length := ⟨_, rfl⟩
          have HI2 := Kp.mk hii
          rw [← hii] at hlt hle
          have hci : ¬ c = i := by omega
          have hcl : ∀ ty, (Builtin.clear_ #[22] ty #[.slice (some ⟨g, i, none⟩) (k - i) (c - i)]).run Try.prog wr = .ok (.tuple #[]) (wr.setCells g i (List.replicate (k - i) (.int .i64 0))) := fun ty =>
            Lib.run_clear_slice wr 22 3 ty (.int .i64 0) Try.underlying22 (fun w => by first | exact Try.zero3 w | simp [go_sem]) rfl rfl g i (k - i) (c - i) (by omega)
              (fun j hj => by rw [blk_cell HB.it (Array.getElem?_eq_getElem (by rw [HS.it]; omega))]; rfl) (fun j hj => blk_free HB.it)
          rw [← hii]
          clear hii
          have HCL := Kp.mk hcl
          go_wp2
          go_ret
          obtain ⟨cur', hb', hs', hl'⟩ := block_sets (List.replicate (k - i) (Value.int .i64 0)) i HB.it
          have hfx : xs.filter (fun x => x != y) = wo xs y k := by rw [HM.it, wo_all]
          refine ⟨_, rfl, ?_, ?_⟩
          · rw [hfx]
            unfold Own
            rw [← HI2.it]
            refine ⟨by rw [List.length_map, ← HI2.it]; omega, .inr ⟨g, c, cur', rfl, HBG.it, hb', by omega, HCM.it, by rw [hs', HS.it]; omega, ?_⟩⟩
            rw [Nat.mul_one]
            apply List.ext_getElem?
            intro q
            rw [List.getElem?_take]
            split
            · rename_i hq
              rw [Array.getElem?_toList, hl' q hq, HLOW.it q (by rw [← HI2.it]; exact hq), List.getElem?_map, List.getElem?_eq_getElem (by rw [← HI2.it]; exact hq), rd_lt (by rw [← HI2.it]; exact hq)]
              rfl
            · rename_i hq
              rw [List.getElem?_eq_none (by rw [List.length_map, ← HI2.it]; omega)]
          · exact grown_sets _ i HG.it
end

end Go.Proofs.Ytbfpdahbmdaenaa
