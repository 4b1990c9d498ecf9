/-
  slices.DeleteFunc of what a closure names: below 1; one member.
-/
import Derived.Test.YtemnhmnompehoaaBase
namespace Go.Proofs.Ytemnhmnompehoaa
open Go Go.RowKit

/-- The first place that p names; -1. -/
def idxB (p : Int → Bool) (xs : List Int) : Int := if xs.any p then (xs.findIdx p : Int) else -1
theorem idxB_hit {p : Int → Bool} {xs : List Int} {k : Nat} (hk : k < xs.length) (hx : p (rd xs k) = true) (hb : ∀ j, j < k → p (rd xs j) = false) : idxB p xs = k := by
  unfold idxB
  rw [rd_lt hk] at hx
  rw [if_pos (List.any_eq_true.2 ⟨xs[k], List.getElem_mem _, hx⟩)]
  congr 1
  rw [List.findIdx_eq hk]
  exact ⟨hx, fun j hj => by have := hb j hj; rwa [rd_lt (by omega)] at this⟩
theorem idxB_miss {p : Int → Bool} {xs : List Int} (hb : ∀ j, j < xs.length → p (rd xs j) = false) : idxB p xs = -1 := by
  unfold idxB
  rw [if_neg]
  rw [List.any_eq_true]
  rintro ⟨x, hm, hx⟩
  obtain ⟨i, hi, e⟩ := List.getElem_of_mem hm
  have := hb i hi
  rw [rd_lt hi, e, hx] at this
  cases this
theorem idxB_cases (p : Int → Bool) (xs : List Int) : (idxB p xs = -1 ∧ xs.filter (fun x => !p x) = xs) ∨ ∃ r : Nat, idxB p xs = r ∧ r < xs.length ∧ p (rd xs r) = true ∧ ∀ j, j < r → p (rd xs j) = false := by
  unfold idxB
  cases h : xs.any p with
  | false =>
    left
    refine ⟨rfl, List.filter_eq_self.2 fun a ha => ?_⟩
    have := List.any_eq_false.1 h a ha
    simpa using this
  | true =>
    right
    have hm := List.any_eq_true.1 h
    have h1 : xs.findIdx p < xs.length := List.findIdx_lt_length_of_exists hm
    refine ⟨xs.findIdx p, rfl, h1, by rw [rd_lt h1]; exact List.findIdx_getElem (w := h1), fun j hj => ?_⟩
    have := List.not_of_lt_findIdx hj
    rw [rd_lt (by omega)]
    simpa using this
/-- The first k without what p names. -/
def woB (p : Int → Bool) (xs : List Int) (k : Nat) : List Int := (xs.take k).filter (fun x => !p x)
theorem woB_hit {p : Int → Bool} {xs : List Int} {k : Nat} (h : k < xs.length) (hx : p (rd xs k) = true) : woB p xs (k + 1) = woB p xs k := by
  unfold woB
  rw [List.take_succ_eq_append_getElem h, List.filter_append, ← rd_lt h]
  simp [hx]
theorem woB_miss {p : Int → Bool} {xs : List Int} {k : Nat} (h : k < xs.length) (hx : p (rd xs k) = false) : woB p xs (k + 1) = woB p xs k ++ [rd xs k] := by
  unfold woB
  rw [List.take_succ_eq_append_getElem h, List.filter_append, ← rd_lt h]
  simp [hx]
theorem woB_le (p : Int → Bool) (xs : List Int) (k : Nat) : (woB p xs k).length ≤ k := by
  unfold woB
  exact Nat.le_trans (List.length_filter_le _ _) (List.length_take_le _ _)
theorem woB_all (p : Int → Bool) (xs : List Int) : woB p xs xs.length = xs.filter (fun x => !p x) := by unfold woB; rw [List.take_length]
theorem woB_none {p : Int → Bool} {xs : List Int} {k : Nat} (hk : k ≤ xs.length) (h : ∀ j, j < k → p (rd xs j) = false) : woB p xs k = xs.take k := by
  unfold woB
  rw [List.filter_eq_self]
  intro a ha
  obtain ⟨j, hj, he⟩ := List.mem_iff_getElem.1 ha
  rw [List.length_take] at hj
  have := h j (by omega)
  rw [rd_lt (by omega)] at this
  rw [List.getElem_take] at he
  rw [← he, this]
  rfl

/-- Share's closure. -/
def low1 (x : Int) : Bool := decide (x < 1)
/-- Leave's closure. -/
def isM (y x : Int) : Bool := x == y

set_option maxHeartbeats 400000 in
theorem cloA (x : Int) (w : World) : Calls Try.prog 57 #[.int .i64 x] w fun e w' =>
    e = .returned (.bool (low1 x)) ∧ w = w' := by
  go_enter Try.func57, Try.ntmps57
  go_wp2
  go_ret
  exact ⟨rfl, rfl⟩

set_option maxHeartbeats 1000000 in
theorem idxfA (A : Option Addr) (n c : Nat) (xs : List Int) (w : World) (ha : Rd w A n xs) : Calls Try.prog 94 #[.slice A n c, .func (.func 57) #[] #[]] w fun e w' =>
    e = .returned (.int .i64 (idxB (low1) xs)) ∧ w = w' := by
  have hbd := ha.bd
  have HL : Kp (xs.length = n) := ⟨ha.len⟩
  have HR := Kp.mk ha
  clear ha
  go_enter Try.func94, Try.ntmps94
  go_wp2
  go_loopw [8] (fun i wr => ∃ k : Nat, k ≤ n ∧ i = .int .i64 k ∧ w = wr ∧ Kp (∀ j, j < k → low1 (rd xs j) = false)) (fun i _ => n - (intOf i).toNat)
  case atStart => exact ⟨0, by omega, rfl, rfl, ⟨fun j hj => by omega⟩⟩
  case round =>
    obtain ⟨k, hk, rfl, rfl, hno⟩ := hrel
    by_cases hkn : k < n
    · obtain ⟨b, o, hA, hlt, hcell⟩ := HR.it.get hkn
      cases hA
      cases hv : low1 (rd xs k) with
      | true =>
        have HV : Kp (idxB (low1) xs = k) := ⟨idxB_hit (by rw [HL.it]; exact hkn) hv hno.it⟩
        have HX := Kp.mk hv
        clear hv
        go_wp2_with (go_at_call 57; refine (cloA _ _).mono ?_; rintro e w1 ⟨rfl, rfl⟩; rw [HX.it])
        go_ret
        exact ⟨ret_int HV.it.symm, rfl⟩
      | false =>
        have HX := Kp.mk hv
        clear hv
        go_wp2_with (go_at_call 57; refine (cloA _ _).mono ?_; rintro e w1 ⟨rfl, rfl⟩; rw [HX.it])
        go_roundw
        case rel => exact ⟨k + 1, by omega, by go_num, by first | rfl | trivial, ⟨fun j hj => by
          rcases Nat.lt_succ_iff_lt_or_eq.1 hj with h | rfl
          · exact hno.it j h
          · exact HX.it⟩⟩
        case measure => simp [intOf]; omega
    · have HV : Kp (idxB (low1) xs = -1) := ⟨idxB_miss (fun j hj => hno.it j (by rw [HL.it] at hj; omega))⟩
      go_wp2
      go_ret
      exact ⟨ret_int HV.it.symm, rfl⟩

set_option maxHeartbeats 2000000 in
theorem delA (v : Value) (xs : List Int) (w : World) (base : Nat)  (ho : Own w base v xs) (hl : xs.length * 8 ≤ 140737488351232) :
    Calls Try.prog 56 #[v, .func (.func 57) #[] #[]] w fun e w' => ∃ v', e = .returned v' ∧ Own w' base v' (xs.filter (fun x => !low1 x)) ∧ w.grownBy w' v.ownBlock := by
  obtain ⟨A, c, hv, hnil, hmc, hcb, hR⟩ := ho.form3 hl
  obtain ⟨m, hm⟩ : ∃ m, m = xs.length := ⟨_, rfl⟩
  rcases idxB_cases (low1) xs with ⟨hi, hf⟩ | ⟨r, hi, hr, hry, hrn⟩
  · have HI := Kp.mk (idxfA A xs.length c xs w hR)
    rw [hi] at HI
    have HO : Kp (Own w base (.slice A m c) (xs.filter (fun x => !low1 x))) := ⟨by rw [hf, hm, ← hv]; exact ho⟩
    rw [← hm] at HI hv
    subst hv
    clear hnil hmc hcb hR hm hi hf ho hl
    go_enter Try.func56, Try.ntmps56
    go_wp2_with (go_at_call 94; refine HI.it.mono ?_; rintro e w1 ⟨rfl, rfl⟩)
    go_ret
    exact ⟨_, rfl, HO.it, World.grownBy.refl _ _⟩
  · have HI := Kp.mk (idxfA A xs.length c xs w hR)
    rw [hi] at HI
    unfold Own at ho
    rcases ho.2 with ⟨h1, h2⟩ | ⟨g, cap, cur, h1, hb, hh, _, hcm, hcs, hct⟩
    · have : xs.length = 0 := by simpa using h2
      omega
    · rw [h1] at hv
      cases hv
      rw [← hm] at HI h1 hmc hct hr hl
      subst h1
      have hcur : ∀ q, q < m → cur[q]? = some (.int .i64 (rd xs q)) := by
        intro q hq
        have e : (cur.toList.take (m * 1))[q]? = some (.int .i64 (rd xs q)) := by
          rw [hct, List.getElem?_map, List.getElem?_eq_getElem (by omega), rd_lt (by omega)]; rfl
        rw [List.getElem?_take, if_pos (by omega)] at e
        simpa using e
      have HH := Kp.mk hh
      have HM := Kp.mk hm
      have HCS : Kp (cur.size = c) := ⟨by simpa using hcs⟩
      have HCM := Kp.mk hcm
      have HX0 : Kp (woB (low1) xs (r + 1) = xs.take r) := ⟨by rw [woB_hit (by omega) hry, woB_none (by omega) hrn]⟩
      have HCUR := Kp.mk hcur
      have HBG := Kp.mk hb
      have hrm : ((r : Int) == -1) = false := by rw [beq_eq_false_iff_ne]; omega
      clear hh hm hcs hcm hcur hct hR hnil ho hry hrn hi
      go_enter Try.func56, Try.ntmps56
      go_wp2_with (go_at_call 94; refine HI.it.mono ?_; rintro e w1 ⟨rfl, rfl⟩)
      go_wp2
      go_loopw [5, 6] (fun i j wr => ∃ (k : Nat) (cur : Array Value), k ≤ m ∧ j = .int .i64 k ∧ i = .int .i64 ((woB (low1) xs k).length : Nat) ∧ Kp ((woB (low1) xs k).length < k) ∧ Kp (wr.heap[g]? = some (.cells cur 3 (0, 0))) ∧ Kp (cur.size = c) ∧
        Kp (∀ q, q < (woB (low1) xs k).length → cur[q]? = some (.int .i64 (rd (woB (low1) xs k) q))) ∧ Kp (∀ q, k ≤ q → q < m → cur[q]? = some (.int .i64 (rd xs q))) ∧ Kp (w.grownBy wr (some g))) (fun _ j _ => m - (intOf j).toNat)
      case atStart =>
        refine ⟨r + 1, cur, by omega, by go_num, ?_, ?_, HH, HCS, ?_, ⟨fun q _ hq => HCUR.it q hq⟩, ⟨World.grownBy.refl _ _⟩⟩
        · rw [HX0.it, List.length_take, Nat.min_eq_left (by have := HM.it; omega)]
        · exact ⟨by rw [HX0.it, List.length_take, Nat.min_eq_left (by have := HM.it; omega)]; omega⟩
        · exact ⟨by
            rw [HX0.it]
            intro q hq
            rw [List.length_take] at hq
            rw [rd_take (by omega)]
            exact HCUR.it q (by omega)⟩
      case round =>
        obtain ⟨k, cu, hk, rfl, rfl, HLT, HB, HS, HLOW, HHIGH, HG⟩ := hrel
        have hlt := HLT.it
        have hle := woB_le (low1) xs k
        by_cases hkm : k < m
        · have hd : decide ((k : Int) < (m : Int)) = true := by simp; omega
          have hkx : k < xs.length := by rw [← HM.it]; exact hkm
          have hcell : wr.cell? ⟨g, k, none⟩ = some (.int .i64 (rd xs k)) := blk_cell HB.it (HHIGH.it k (Nat.le_refl _) hkm)
          cases hv : low1 (rd xs k) with
          | true =>
            have HX := Kp.mk hv
            have HW := Kp.mk (woB_hit hkx hv)
            clear hv hkx
            go_wp2_with (go_at_call 57; refine (cloA _ _).mono ?_; rintro e w1 ⟨rfl, rfl⟩; rw [HX.it])
            go_roundw
            case rel => exact ⟨k + 1, cu, by omega, by go_num, by rw [HW.it], ⟨by rw [HW.it]; omega⟩, HB, HS, ⟨by rw [HW.it]; exact HLOW.it⟩, ⟨fun q h1 h2 => HHIGH.it q (by omega) h2⟩, HG⟩
            case measure => simp [intOf]; omega
          | false =>
            have HX := Kp.mk hv
            have HW := Kp.mk (woB_miss hkx hv)
            obtain ⟨i, hii⟩ : ∃ i, i = (woB (low1) xs k).length := ⟨_, rfl⟩
            have HI2 := Kp.mk hii
            rw [← hii] at hlt hle
            have hix : i < cu.size := by rw [HS.it]; omega
            have hcell2 : wr.cell? ⟨g, i, none⟩ = some cu[i] := blk_cell HB.it (Array.getElem?_eq_getElem hix)
            have hfz : wr.frozen? ⟨g, i, none⟩ = false := blk_free HB.it
            generalize cu[i] = old at hcell2
            clear hix
            rw [← hii]
            clear hv hkx hii
            go_wp2_with (go_at_call 57; refine (cloA _ _).mono ?_; rintro e w1 ⟨rfl, rfl⟩; rw [HX.it])
            go_roundw
            case rel =>
              have hll : (woB (low1) xs (k + 1)).length = i + 1 := by rw [HW.it, List.length_append, ← HI2.it]; rfl
              refine ⟨k + 1, _, by omega, by go_num, by rw [hll]; go_num, ⟨by rw [hll]; omega⟩, ⟨blk_set _ HB.it⟩, ⟨by rw [Array.size_setIfInBounds]; exact HS.it⟩, ⟨?_⟩, ⟨?_⟩, ⟨grown_set HG.it _ _⟩⟩
              · intro q hq
                rw [hll] at hq
                rw [Array.getElem?_setIfInBounds]
                by_cases hqi : i = q
                · subst hqi
                  rw [if_pos rfl, if_pos (by rw [HS.it]; omega), HW.it]
                  rw [show i = (woB (low1) xs k).length from HI2.it, rd_append_last]
                · rw [if_neg hqi, HW.it, rd_append_left (by rw [← HI2.it]; omega)]
                  exact HLOW.it q (by rw [← HI2.it]; omega)
              · intro q h1 h2
                rw [Array.getElem?_setIfInBounds, if_neg (by omega)]
                exact HHIGH.it q (by omega) h2
            case measure => simp [intOf]; omega
        · obtain rfl : k = m := by omega
          obtain ⟨i, hii⟩ : ∃ i, i = (woB (low1) xs k).length := ⟨_, rfl⟩
          have HI2 := Kp.mk hii
          rw [← hii] at hlt hle
          have hci : ¬ c = i := by omega
          have hcl : ∀ ty, (Builtin.clear_ #[22] ty #[.slice (some ⟨g, i, none⟩) (k - i) (c - i)]).run Try.prog wr = .ok (.tuple #[]) (wr.setCells g i (List.replicate (k - i) (.int .i64 0))) := fun ty =>
            Lib.run_clear_slice wr 22 3 ty (.int .i64 0) Try.underlying22 (fun w => by first | exact Try.zero3 w | simp [go_sem]) rfl rfl g i (k - i) (c - i) (by omega)
              (fun j hj => by rw [blk_cell HB.it (Array.getElem?_eq_getElem (by rw [HS.it]; omega))]; rfl) (fun j hj => blk_free HB.it)
          rw [← hii]
          clear hii
          have HCL := Kp.mk hcl
          go_wp2
          go_ret
          obtain ⟨cur', hb', hs', hl'⟩ := block_sets (List.replicate (k - i) (Value.int .i64 0)) i HB.it
          have hfx : xs.filter (fun x => !low1 x) = woB (low1) xs k := by rw [HM.it, woB_all]
          refine ⟨_, rfl, ?_, ?_⟩
          · rw [hfx]
            unfold Own
            rw [← HI2.it]
            refine ⟨by rw [List.length_map, ← HI2.it]; omega, .inr ⟨g, c, cur', rfl, HBG.it, hb', by omega, HCM.it, by rw [hs', HS.it]; omega, ?_⟩⟩
            rw [Nat.mul_one]
            apply List.ext_getElem?
            intro q
            rw [List.getElem?_take]
            split
            · rename_i hq
              rw [Array.getElem?_toList, hl' q hq, HLOW.it q (by rw [← HI2.it]; exact hq), List.getElem?_map, List.getElem?_eq_getElem (by rw [← HI2.it]; exact hq), rd_lt (by rw [← HI2.it]; exact hq)]
              rfl
            · rename_i hq
              rw [List.getElem?_eq_none (by rw [List.length_map, ← HI2.it]; omega)]
          · exact grown_sets _ i HG.it

set_option maxHeartbeats 400000 in
theorem cloB (p : Nat) (y : Int) (x : Int) (w : World) (h : w.cell? ⟨p, 0, none⟩ = some (.int .i64 y)) : Calls Try.prog 78 #[.int .i64 x, .pointer (some ⟨p, 0, none⟩)] w fun e w' =>
    e = .returned (.bool (isM y x)) ∧ w = w' := by
  go_enter Try.func78, Try.ntmps78
  go_wp2
  go_ret
  exact ⟨rfl, rfl⟩

set_option maxHeartbeats 1000000 in
theorem idxfB (p : Nat) (y : Int) (A : Option Addr) (n c : Nat) (xs : List Int) (w : World) (h : w.cell? ⟨p, 0, none⟩ = some (.int .i64 y)) (ha : Rd w A n xs) : Calls Try.prog 94 #[.slice A n c, .func (.func 78) #[] #[.pointer (some ⟨p, 0, none⟩)]] w fun e w' =>
    e = .returned (.int .i64 (idxB (isM y) xs)) ∧ w = w' := by
  have hbd := ha.bd
  have HL : Kp (xs.length = n) := ⟨ha.len⟩
  have HR := Kp.mk ha
  have HC := Kp.mk h
  clear h
  clear ha
  go_enter Try.func94, Try.ntmps94
  go_wp2
  go_loopw [8] (fun i wr => ∃ k : Nat, k ≤ n ∧ i = .int .i64 k ∧ w = wr ∧ Kp (∀ j, j < k → isM y (rd xs j) = false)) (fun i _ => n - (intOf i).toNat)
  case atStart => exact ⟨0, by omega, rfl, rfl, ⟨fun j hj => by omega⟩⟩
  case round =>
    obtain ⟨k, hk, rfl, rfl, hno⟩ := hrel
    by_cases hkn : k < n
    · obtain ⟨b, o, hA, hlt, hcell⟩ := HR.it.get hkn
      cases hA
      cases hv : isM y (rd xs k) with
      | true =>
        have HV : Kp (idxB (isM y) xs = k) := ⟨idxB_hit (by rw [HL.it]; exact hkn) hv hno.it⟩
        have HX := Kp.mk hv
        clear hv
        go_wp2_with (go_at_call 78; refine (cloB p y _ _ HC.it).mono ?_; rintro e w1 ⟨rfl, rfl⟩; rw [HX.it])
        go_ret
        exact ⟨ret_int HV.it.symm, rfl⟩
      | false =>
        have HX := Kp.mk hv
        clear hv
        go_wp2_with (go_at_call 78; refine (cloB p y _ _ HC.it).mono ?_; rintro e w1 ⟨rfl, rfl⟩; rw [HX.it])
        go_roundw
        case rel => exact ⟨k + 1, by omega, by go_num, by first | rfl | trivial, ⟨fun j hj => by
          rcases Nat.lt_succ_iff_lt_or_eq.1 hj with h | rfl
          · exact hno.it j h
          · exact HX.it⟩⟩
        case measure => simp [intOf]; omega
    · have HV : Kp (idxB (isM y) xs = -1) := ⟨idxB_miss (fun j hj => hno.it j (by rw [HL.it] at hj; omega))⟩
      go_wp2
      go_ret
      exact ⟨ret_int HV.it.symm, rfl⟩

set_option maxHeartbeats 2000000 in
theorem delB (p : Nat) (y : Int) (v : Value) (xs : List Int) (w : World) (base : Nat) (hp : p < base)  (h : w.cell? ⟨p, 0, none⟩ = some (.int .i64 y)) (ho : Own w base v xs) (hl : xs.length * 8 ≤ 140737488351232) :
    Calls Try.prog 56 #[v, .func (.func 78) #[] #[.pointer (some ⟨p, 0, none⟩)]] w fun e w' => ∃ v', e = .returned v' ∧ Own w' base v' (xs.filter (fun x => !isM y x)) ∧ w.grownBy w' v.ownBlock := by
  obtain ⟨A, c, hv, hnil, hmc, hcb, hR⟩ := ho.form3 hl
  obtain ⟨m, hm⟩ : ∃ m, m = xs.length := ⟨_, rfl⟩
  rcases idxB_cases (isM y) xs with ⟨hi, hf⟩ | ⟨r, hi, hr, hry, hrn⟩
  · have HI := Kp.mk (idxfB p y A xs.length c xs w h hR)
    rw [hi] at HI
    have HO : Kp (Own w base (.slice A m c) (xs.filter (fun x => !isM y x))) := ⟨by rw [hf, hm, ← hv]; exact ho⟩
    rw [← hm] at HI hv
    subst hv
    clear hnil hmc hcb hR hm hi hf ho hl h
    go_enter Try.func56, Try.ntmps56
    go_wp2_with (go_at_call 94; refine HI.it.mono ?_; rintro e w1 ⟨rfl, rfl⟩)
    go_ret
    exact ⟨_, rfl, HO.it, World.grownBy.refl _ _⟩
  · have HI := Kp.mk (idxfB p y A xs.length c xs w h hR)
    rw [hi] at HI
    unfold Own at ho
    rcases ho.2 with ⟨h1, h2⟩ | ⟨g, cap, cur, h1, hb, hh, _, hcm, hcs, hct⟩
    · have : xs.length = 0 := by simpa using h2
      omega
    · rw [h1] at hv
      cases hv
      rw [← hm] at HI h1 hmc hct hr hl
      subst h1
      have hcur : ∀ q, q < m → cur[q]? = some (.int .i64 (rd xs q)) := by
        intro q hq
        have e : (cur.toList.take (m * 1))[q]? = some (.int .i64 (rd xs q)) := by
          rw [hct, List.getElem?_map, List.getElem?_eq_getElem (by omega), rd_lt (by omega)]; rfl
        rw [List.getElem?_take, if_pos (by omega)] at e
        simpa using e
      have HH := Kp.mk hh
      have HM := Kp.mk hm
      have HCS : Kp (cur.size = c) := ⟨by simpa using hcs⟩
      have HCM := Kp.mk hcm
      have HX0 : Kp (woB (isM y) xs (r + 1) = xs.take r) := ⟨by rw [woB_hit (by omega) hry, woB_none (by omega) hrn]⟩
      have HCUR := Kp.mk hcur
      have HC := Kp.mk h
      clear h
      have HBG := Kp.mk hb
      have HBP := Kp.mk (show p < base from hp)
      have HPL : Kp (p < w.heap.size) := ⟨by have := (Array.getElem?_eq_some_iff.1 hh).1; omega⟩
      have hrm : ((r : Int) == -1) = false := by rw [beq_eq_false_iff_ne]; omega
      clear hh hm hcs hcm hcur hct hR hnil ho hry hrn hi
      go_enter Try.func56, Try.ntmps56
      go_wp2_with (go_at_call 94; refine HI.it.mono ?_; rintro e w1 ⟨rfl, rfl⟩)
      go_wp2
      go_loopw [5, 6] (fun i j wr => ∃ (k : Nat) (cur : Array Value), k ≤ m ∧ j = .int .i64 k ∧ i = .int .i64 ((woB (isM y) xs k).length : Nat) ∧ Kp ((woB (isM y) xs k).length < k) ∧ Kp (wr.heap[g]? = some (.cells cur 3 (0, 0))) ∧ Kp (cur.size = c) ∧
        Kp (∀ q, q < (woB (isM y) xs k).length → cur[q]? = some (.int .i64 (rd (woB (isM y) xs k) q))) ∧ Kp (∀ q, k ≤ q → q < m → cur[q]? = some (.int .i64 (rd xs q))) ∧ Kp (w.grownBy wr (some g))) (fun _ j _ => m - (intOf j).toNat)
      case atStart =>
        refine ⟨r + 1, cur, by omega, by go_num, ?_, ?_, HH, HCS, ?_, ⟨fun q _ hq => HCUR.it q hq⟩, ⟨World.grownBy.refl _ _⟩⟩
        · rw [HX0.it, List.length_take, Nat.min_eq_left (by have := HM.it; omega)]
        · exact ⟨by rw [HX0.it, List.length_take, Nat.min_eq_left (by have := HM.it; omega)]; omega⟩
        · exact ⟨by
            rw [HX0.it]
            intro q hq
            rw [List.length_take] at hq
            rw [rd_take (by omega)]
            exact HCUR.it q (by omega)⟩
      case round =>
        obtain ⟨k, cu, hk, rfl, rfl, HLT, HB, HS, HLOW, HHIGH, HG⟩ := hrel
        have hlt := HLT.it
        have hle := woB_le (isM y) xs k
        by_cases hkm : k < m
        · have hd : decide ((k : Int) < (m : Int)) = true := by simp; omega
          have hkx : k < xs.length := by rw [← HM.it]; exact hkm
          have hcell : wr.cell? ⟨g, k, none⟩ = some (.int .i64 (rd xs k)) := blk_cell HB.it (HHIGH.it k (Nat.le_refl _) hkm)
          have HCW : Kp (wr.cell? ⟨p, 0, none⟩ = some (.int .i64 y)) := ⟨by
            have hne : p ≠ g := by have := HBP.it; have := HBG.it; omega
            have := HG.it.block p HPL.it (by simpa using hne)
            rw [← HC.it]
            unfold World.cell?
            rw [this]⟩
          cases hv : isM y (rd xs k) with
          | true =>
            have HX := Kp.mk hv
            have HW := Kp.mk (woB_hit hkx hv)
            clear hv hkx
            go_wp2_with (go_at_call 78; refine (cloB p y _ _ HCW.it).mono ?_; rintro e w1 ⟨rfl, rfl⟩; rw [HX.it])
            go_roundw
            case rel => exact ⟨k + 1, cu, by omega, by go_num, by rw [HW.it], ⟨by rw [HW.it]; omega⟩, HB, HS, ⟨by rw [HW.it]; exact HLOW.it⟩, ⟨fun q h1 h2 => HHIGH.it q (by omega) h2⟩, HG⟩
            case measure => simp [intOf]; omega
          | false =>
            have HX := Kp.mk hv
            have HW := Kp.mk (woB_miss hkx hv)
            obtain ⟨i, hii⟩ : ∃ i, i = (woB (isM y) xs k).length := ⟨_, rfl⟩
            have HI2 := Kp.mk hii
            rw [← hii] at hlt hle
            have hix : i < cu.size := by rw [HS.it]; omega
            have hcell2 : wr.cell? ⟨g, i, none⟩ = some cu[i] := blk_cell HB.it (Array.getElem?_eq_getElem hix)
            have hfz : wr.frozen? ⟨g, i, none⟩ = false := blk_free HB.it
            generalize cu[i] = old at hcell2
            clear hix
            rw [← hii]
            clear hv hkx hii
            go_wp2_with (go_at_call 78; refine (cloB p y _ _ HCW.it).mono ?_; rintro e w1 ⟨rfl, rfl⟩; rw [HX.it])
            go_roundw
            case rel =>
              have hll : (woB (isM y) xs (k + 1)).length = i + 1 := by rw [HW.it, List.length_append, ← HI2.it]; rfl
              refine ⟨k + 1, _, by omega, by go_num, by rw [hll]; go_num, ⟨by rw [hll]; omega⟩, ⟨blk_set _ HB.it⟩, ⟨by rw [Array.size_setIfInBounds]; exact HS.it⟩, ⟨?_⟩, ⟨?_⟩, ⟨grown_set HG.it _ _⟩⟩
              · intro q hq
                rw [hll] at hq
                rw [Array.getElem?_setIfInBounds]
                by_cases hqi : i = q
                · subst hqi
                  rw [if_pos rfl, if_pos (by rw [HS.it]; omega), HW.it]
                  rw [show i = (woB (isM y) xs k).length from HI2.it, rd_append_last]
                · rw [if_neg hqi, HW.it, rd_append_left (by rw [← HI2.it]; omega)]
                  exact HLOW.it q (by rw [← HI2.it]; omega)
              · intro q h1 h2
                rw [Array.getElem?_setIfInBounds, if_neg (by omega)]
                exact HHIGH.it q (by omega) h2
            case measure => simp [intOf]; omega
        · obtain rfl : k = m := by omega
          obtain ⟨i, hii⟩ : ∃ i, i = (woB (isM y) xs k).length := ⟨_, rfl⟩
          have HI2 := Kp.mk hii
          rw [← hii] at hlt hle
          have hci : ¬ c = i := by omega
          have hcl : ∀ ty, (Builtin.clear_ #[22] ty #[.slice (some ⟨g, i, none⟩) (k - i) (c - i)]).run Try.prog wr = .ok (.tuple #[]) (wr.setCells g i (List.replicate (k - i) (.int .i64 0))) := fun ty =>
            Lib.run_clear_slice wr 22 3 ty (.int .i64 0) Try.underlying22 (fun w => by first | exact Try.zero3 w | simp [go_sem]) rfl rfl g i (k - i) (c - i) (by omega)
              (fun j hj => by rw [blk_cell HB.it (Array.getElem?_eq_getElem (by rw [HS.it]; omega))]; rfl) (fun j hj => blk_free HB.it)
          rw [← hii]
          clear hii
          have HCL := Kp.mk hcl
          go_wp2
          go_ret
          obtain ⟨cur', hb', hs', hl'⟩ := block_sets (List.replicate (k - i) (Value.int .i64 0)) i HB.it
          have hfx : xs.filter (fun x => !isM y x) = woB (isM y) xs k := by rw [HM.it, woB_all]
          refine ⟨_, rfl, ?_, ?_⟩
          · rw [hfx]
            unfold Own
            rw [← HI2.it]
            refine ⟨by rw [List.length_map, ← HI2.it]; omega, .inr ⟨g, c, cur', rfl, HBG.it, hb', by omega, HCM.it, by rw [hs', HS.it]; omega, ?_⟩⟩
            rw [Nat.mul_one]
            apply List.ext_getElem?
            intro q
            rw [List.getElem?_take]
            split
            · rename_i hq
              rw [Array.getElem?_toList, hl' q hq, HLOW.it q (by rw [← HI2.it]; exact hq), List.getElem?_map, List.getElem?_eq_getElem (by rw [← HI2.it]; exact hq), rd_lt (by rw [← HI2.it]; exact hq)]
              rfl
            · rename_i hq
              rw [List.getElem?_eq_none (by rw [List.length_map, ← HI2.it]; omega)]
          · exact grown_sets _ i HG.it

end Go.Proofs.Ytemnhmnompehoaa
