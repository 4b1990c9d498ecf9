/-
  slices.DeleteFunc in Leave, and that the slice begins where it began. Printed by gen_del2.py.
-/
import Derived.Test.YtemnhmnompehoaaDel
namespace Go.Proofs.Ytemnhmnompehoaa
open Go Go.RowKit

set_option maxHeartbeats 2000000 in
theorem delB_at (p : Nat) (y : Int) (v : Value) (xs : List Int) (w : World) (base : Nat) (hp : p < base)  (h : w.cell? ⟨p, 0, none⟩ = some (.int .i64 y)) (ho : Own w base v xs) (hl : xs.length * 8 ≤ 140737488351232) :
    Calls Try.prog 56 #[v, .func (.func 78) #[] #[.pointer (some ⟨p, 0, none⟩)]] w fun e w' => ∃ v', e = .returned v' ∧ Own w' base v' (xs.filter (fun x => !isM y x)) ∧ w.grownBy w' v.ownBlock ∧ v'.ownBlock = v.ownBlock := by
  obtain ⟨A, c, hv, hnil, hmc, hcb, hR⟩ := ho.form3 hl
  obtain ⟨m, hm⟩ : ∃ m, m = xs.length := ⟨_, rfl⟩
  rcases idxB_cases (isM y) xs with ⟨hi, hf⟩ | ⟨r, hi, hr, hry, hrn⟩
  · have HI := Kp.mk (idxfB p y A xs.length c xs w h hR)
    rw [hi] at HI
    have HO : Kp (Own w base (.slice A m c) (xs.filter (fun x => !isM y x))) := ⟨by rw [hf, hm, ← hv]; exact ho⟩
    rw [← hm] at HI hv
    subst hv
    clear hnil hmc hcb hR hm hi hf ho hl h
    go_enter Try.func56, Try.ntmps56
    go_wp2_with (go_at_call 94; refine HI.it.mono ?_; rintro e w1 ⟨rfl, rfl⟩)
    go_ret
    exact ⟨_, rfl, HO.it, World.grownBy.refl _ _, rfl⟩
  · have HI := Kp.mk (idxfB p y A xs.length c xs w h hR)
    rw [hi] at HI
    unfold Own at ho
    rcases ho.2 with ⟨h1, h2⟩ | ⟨g, cap, cur, h1, hb, hh, _, hcm, hcs, hct⟩
    · have : xs.length = 0 := by simpa using h2
      omega
    · rw [h1] at hv
      cases hv
      rw [← hm] at HI h1 hmc hct hr hl
      subst h1
      have hcur : ∀ q, q < m → cur[q]? = some (.int .i64 (rd xs q)) := by
        intro q hq
        have e : (cur.toList.take (m * 1))[q]? = some (.int .i64 (rd xs q)) := by
          rw [hct, List.getElem?_map, List.getElem?_eq_getElem (by omega), rd_lt (by omega)]; rfl
        rw [List.getElem?_take, if_pos (by omega)] at e
        simpa using e
      have HH := Kp.mk hh
      have HM := Kp.mk hm
      have HCS : Kp (cur.size = c) := ⟨by simpa using hcs⟩
      have HCM := Kp.mk hcm
      have HX0 : Kp (woB (isM y) xs (r + 1) = xs.take r) := ⟨by rw [woB_hit (by omega) hry, woB_none (by omega) hrn]⟩
      have HCUR := Kp.mk hcur
      have HC := Kp.mk h
      clear h
      have HBG := Kp.mk hb
      have HBP := Kp.mk (show p < base from hp)
      have HPL : Kp (p < w.heap.size) := ⟨by have := (Array.getElem?_eq_some_iff.1 hh).1; omega⟩
      have hrm : ((r : Int) == -1) = false := by rw [beq_eq_false_iff_ne]; omega
      clear hh hm hcs hcm hcur hct hR hnil ho hry hrn hi
      go_enter Try.func56, Try.ntmps56
      go_wp2_with (go_at_call 94; refine HI.it.mono ?_; rintro e w1 ⟨rfl, rfl⟩)
      go_wp2
      go_loopw [5, 6] (fun i j wr => ∃ (k : Nat) (cur : Array Value), k ≤ m ∧ j = .int .i64 k ∧ i = .int .i64 ((woB (isM y) xs k).length : Nat) ∧ Kp ((woB (isM y) xs k).length < k) ∧ Kp (wr.heap[g]? = some (.cells cur 3 (0, 0))) ∧ Kp (cur.size = c) ∧
        Kp (∀ q, q < (woB (isM y) xs k).length → cur[q]? = some (.int .i64 (rd (woB (isM y) xs k) q))) ∧ Kp (∀ q, k ≤ q → q < m → cur[q]? = some (.int .i64 (rd xs q))) ∧ Kp (w.grownBy wr (some g))) (fun _ j _ => m - (intOf j).toNat)
      case atStart =>
        refine ⟨r + 1, cur, by omega, by go_num, ?_, ?_, HH, HCS, ?_, ⟨fun q _ hq => HCUR.it q hq⟩, ⟨World.grownBy.refl _ _⟩⟩
        · rw [HX0.it, List.length_take, Nat.min_eq_left (by have := HM.it; omega)]
        · exact ⟨by rw [HX0.it, List.length_take, Nat.min_eq_left (by have := HM.it; omega)]; omega⟩
        · exact ⟨by
            rw [HX0.it]
            intro q hq
            rw [List.length_take] at hq
            rw [rd_take (by omega)]
            exact HCUR.it q (by omega)⟩
      case round =>
        obtain ⟨k, cu, hk, rfl, rfl, HLT, HB, HS, HLOW, HHIGH, HG⟩ := hrel
        have hlt := HLT.it
        have hle := woB_le (isM y) xs k
        by_cases hkm : k < m
        · have hd : decide ((k : Int) < (m : Int)) = true := by simp; omega
          have hkx : k < xs.length := by rw [← HM.it]; exact hkm
          have hcell : wr.cell? ⟨g, k, none⟩ = some (.int .i64 (rd xs k)) := blk_cell HB.it (HHIGH.it k (Nat.le_refl _) hkm)
          have HCW : Kp (wr.cell? ⟨p, 0, none⟩ = some (.int .i64 y)) := ⟨by
            have hne : p ≠ g := by have := HBP.it; have := HBG.it; omega
            have := HG.it.block p HPL.it (by simpa using hne)
            rw [← HC.it]
            unfold World.cell?
            rw [this]⟩
          cases hv : isM y (rd xs k) with
          | true =>
            have HX := Kp.mk hv
            have HW := Kp.mk (woB_hit hkx hv)
            clear hv hkx
            go_wp2_with (go_at_call 78; refine (cloB p y _ _ HCW.it).mono ?_; rintro e w1 ⟨rfl, rfl⟩; rw [HX.it])
            go_roundw
            case rel => exact ⟨k + 1, cu, by omega, by go_num, by rw [HW.it], ⟨by rw [HW.it]; omega⟩, HB, HS, ⟨by rw [HW.it]; exact HLOW.it⟩, ⟨fun q h1 h2 => HHIGH.it q (by omega) h2⟩, HG⟩
            case measure => simp [intOf]; omega
          | false =>
            have HX := Kp.mk hv
            have HW := Kp.mk (woB_miss hkx hv)
            obtain ⟨i, hii⟩ : ∃ i, i = (woB (isM y) xs k).length := ⟨_, rfl⟩
            have HI2 := Kp.mk hii
            rw [← hii] at hlt hle
            have hix : i < cu.size := by rw [HS.it]; omega
            have hcell2 : wr.cell? ⟨g, i, none⟩ = some cu[i] := blk_cell HB.it (Array.getElem?_eq_getElem hix)
            have hfz : wr.frozen? ⟨g, i, none⟩ = false := blk_free HB.it
            generalize cu[i] = old at hcell2
            clear hix
            rw [← hii]
            clear hv hkx hii
            go_wp2_with (go_at_call 78; refine (cloB p y _ _ HCW.it).mono ?_; rintro e w1 ⟨rfl, rfl⟩; rw [HX.it])
            go_roundw
            case rel =>
              have hll : (woB (isM y) xs (k + 1)).length = i + 1 := by rw [HW.it, List.length_append, ← HI2.it]; rfl
              refine ⟨k + 1, _, by omega, by go_num, by rw [hll]; go_num, ⟨by rw [hll]; omega⟩, ⟨blk_set _ HB.it⟩, ⟨by rw [Array.size_setIfInBounds]; exact HS.it⟩, ⟨?_⟩, ⟨?_⟩, ⟨grown_set HG.it _ _⟩⟩
              · intro q hq
                rw [hll] at hq
                rw [Array.getElem?_setIfInBounds]
                by_cases hqi : i = q
                · subst hqi
                  rw [if_pos rfl, if_pos (by rw [HS.it]; omega), HW.it]
                  rw [show i = (woB (isM y) xs k).length from HI2.it, rd_append_last]
                · rw [if_neg hqi, HW.it, rd_append_left (by rw [← HI2.it]; omega)]
                  exact HLOW.it q (by rw [← HI2.it]; omega)
              · intro q h1 h2
                rw [Array.getElem?_setIfInBounds, if_neg (by omega)]
                exact HHIGH.it q (by omega) h2
            case measure => simp [intOf]; omega
        · obtain rfl : k = m := by omega
          obtain ⟨i, hii⟩ : ∃ i, i = (woB (isM y) xs k).length := ⟨_, rfl⟩
          have HI2 := Kp.mk hii
          rw [← hii] at hlt hle
          have hci : ¬ c = i := by omega
          have hcl : ∀ ty, (Builtin.clear_ #[22] ty #[.slice (some ⟨g, i, none⟩) (k - i) (c - i)]).run Try.prog wr = .ok (.tuple #[]) (wr.setCells g i (List.replicate (k - i) (.int .i64 0))) := fun ty =>
            Lib.run_clear_slice wr 22 3 ty (.int .i64 0) Try.underlying22 (fun w => by first | exact Try.zero3 w | simp [go_sem]) rfl rfl g i (k - i) (c - i) (by omega)
              (fun j hj => by rw [blk_cell HB.it (Array.getElem?_eq_getElem (by rw [HS.it]; omega))]; rfl) (fun j hj => blk_free HB.it)
          rw [← hii]
          clear hii
          have HCL := Kp.mk hcl
          go_wp2
          go_ret
          obtain ⟨cur', hb', hs', hl'⟩ := block_sets (List.replicate (k - i) (Value.int .i64 0)) i HB.it
          have hfx : xs.filter (fun x => !isM y x) = woB (isM y) xs k := by rw [HM.it, woB_all]
          refine ⟨_, rfl, ?_, ?_, rfl⟩
          · rw [hfx]
            unfold Own
            rw [← HI2.it]
            refine ⟨by rw [List.length_map, ← HI2.it]; omega, .inr ⟨g, c, cur', rfl, HBG.it, hb', by omega, HCM.it, by rw [hs', HS.it]; omega, ?_⟩⟩
            rw [Nat.mul_one]
            apply List.ext_getElem?
            intro q
            rw [List.getElem?_take]
            split
            · rename_i hq
              rw [Array.getElem?_toList, hl' q hq, HLOW.it q (by rw [← HI2.it]; exact hq), List.getElem?_map, List.getElem?_eq_getElem (by rw [← HI2.it]; exact hq), rd_lt (by rw [← HI2.it]; exact hq)]
              rfl
            · rename_i hq
              rw [List.getElem?_eq_none (by rw [List.length_map, ← HI2.it]; omega)]
          · exact grown_sets _ i HG.it

