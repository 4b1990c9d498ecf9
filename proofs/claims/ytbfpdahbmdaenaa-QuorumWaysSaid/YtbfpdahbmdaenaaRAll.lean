/-
  The document's All.
-/
import Derived.Test.YtbfpdahbmdaenaaIns
namespace Go.Proofs.Ytbfpdahbmdaenaa
open Go.RowKit

theorem tAt_get {vs ls : List Int} {i k : Nat} {xs : List Int} (hi : i < 2) (hx : (if i = 0 then vs else ls) = xs) (hk : k < xs.length) : (vs ++ ls)[tAt vs ls i + k]? = some (rd xs k) := by
  match i, hi with
  | 0, _ =>
    have hx : vs = xs := by simpa using hx
    subst hx
    simp [tAt, List.getElem?_append, hk, rd_lt hk]
  | 1, _ =>
    have hx : ls = xs := by simpa using hx
    subst hx
    simp [tAt, hk, rd_lt hk]

set_option linter.unusedSimpArgs false in
set_option maxHeartbeats 4000000 in
theorem rall_any (A1 A2 : Option Addr) (n1 c1 n2 c2 : Nat) (vs ls : List Int) (w : World) (h1 : Rd w A1 n1 vs) (h2 : Rd w A2 n2 ls) (hl : n1 + n2 ≤ 1000000000) : Calls Try.prog 31 #[.agg #[.slice A1 n1 c1, .slice A2 n2 c2]] w fun e w' =>
    ∃ v, e = .returned v ∧ Own w' w.heap.size v (insAll (vs ++ ls)) ∧ Below w.heap.size w w' := by
  have KEY : Kp (∀ i, i < 2 → ∃ A n c xs, Kp ((#[Value.slice A1 n1 c1, .slice A2 n2 c2] : Array Value)[i]? = some (.slice A n c)) ∧ Kp (Rd w A n xs) ∧ n ≤ 1000000000 ∧
      Kp (∀ k, k < n → (vs ++ ls)[tAt vs ls i + k]? = some (rd xs k)) ∧ Kp (tAt vs ls i + n = tAt vs ls (i + 1))) := ⟨by
    intro i hi
    match i, hi with
    | 0, _ => exact ⟨A1, n1, c1, vs, ⟨rfl⟩, ⟨h1⟩, by omega, ⟨fun k hk => tAt_get (by omega) rfl (by rw [h1.len]; exact hk)⟩, ⟨by simp [tAt, h1.len]⟩⟩
    | 1, _ => exact ⟨A2, n2, c2, ls, ⟨rfl⟩, ⟨h2⟩, by omega, ⟨fun k hk => tAt_get (by omega) rfl (by rw [h2.len]; exact hk)⟩, ⟨by simp [tAt, h2.len]⟩⟩⟩
  have HLEN : Kp (∀ t, (insAll ((vs ++ ls).take t)).length ≤ 1000000000) := ⟨fun t => by
    have := insAll_length ((vs ++ ls).take t)
    have h3 : ((vs ++ ls).take t).length ≤ (vs ++ ls).length := List.length_take_le' _ _
    rw [List.length_append, h1.len, h2.len] at h3
    omega⟩
  have HEND : Kp ((vs ++ ls).take (tAt vs ls 2) = vs ++ ls) := ⟨by rw [List.take_of_length_le]; simp [tAt]⟩
  clear h1 h2 hl
  go_enter Try.func31, Try.ntmps31
  go_wp2
  obtain ⟨w2, hw2⟩ : ∃ w2, w2 = (w.alloc (.cells #[.slice A1 n1 c1, .slice A2 n2 c2] 24)).alloc (.cells #[.slice A1 n1 c1, .slice A2 n2 c2] 22) := ⟨_, rfl⟩
  have HS2 : Kp (w2.heap.size = w.heap.size + 2) := ⟨by rw [hw2]; simp⟩
  have HBW : Kp (Below w.heap.size w w2) := ⟨by rw [hw2]; exact ((Below.refl _ _).alloc (Nat.le_refl _) _).alloc (by simp) _⟩
  have HL2 : Kp (w2.heap[w.heap.size + 1]? = some (.cells #[.slice A1 n1 c1, .slice A2 n2 c2] 22)) := ⟨by rw [hw2]; exact blk_new1 _ _ _⟩
  rw [← hw2]
  clear hw2
  go_loopw [3, 16] (fun s i wr => ∃ k : Nat, k ≤ 2 ∧ i = .int .i64 k ∧ Kp (Own wr w2.heap.size s (insAll ((vs ++ ls).take (tAt vs ls k)))) ∧ Kp (Below w2.heap.size w2 wr)) (fun _ i _ => 2 - (intOf i).toNat)
  case atStart => exact ⟨0, by omega, rfl, ⟨Own.nil _ _⟩, ⟨Below.refl _ _⟩⟩
  case round =>
    obtain ⟨i, hi, rfl, HO, HW⟩ := hrel
    by_cases hi2 : i < 2
    · have hi2b : decide ((i : Int) < 2) = true := by simp; omega
      obtain ⟨A, n, c, xs, hS, hR, hn, hP, hT⟩ := KEY.it i hi2
      have hcell := (HW.it.cell (p := ⟨w.heap.size + 1, i, none⟩) (by have := HS2.it; simp; omega)).trans (blk_cell HL2.it hS.it)
      go_wp2
      go_loopw [3, 22] (fun s j wr => ∃ k : Nat, k ≤ n ∧ j = .int .i64 k ∧ Kp (Own wr w2.heap.size s (insAll ((vs ++ ls).take (tAt vs ls i + k)))) ∧ Kp (Below w2.heap.size w2 wr)) (fun _ j _ => n - (intOf j).toNat)
      case atStart => exact ⟨0, by omega, rfl, HO, HW⟩
      case round =>
        obtain ⟨k, hk, rfl, HO2, HW2⟩ := hrel
        clear HO HW hcell
        by_cases hkn : k < n
        · have hd : decide ((k : Int) < (n : Int)) = true := by simp; omega
          obtain ⟨b, o, hA, hlt, hc0⟩ := hR.it.get hkn
          have hP' := hP.it k hkn
          have hcell := ((HBW.it.trans (HW2.it.mono HBW.it.size)).cell (p := ⟨b, o + k, none⟩) hlt).trans hc0
          cases hA
          obtain ⟨x, hx⟩ : ∃ x, x = rd xs k := ⟨_, rfl⟩
          rw [← hx] at hcell hP'
          have hln := HLEN.it (tAt vs ls i + k)
          have HNX0 := insAll_next hP'
          obtain ⟨out, hout⟩ : ∃ out, out = insAll ((vs ++ ls).take (tAt vs ls i + k)) := ⟨_, rfl⟩
          rw [← hout] at HO2 hln HNX0
          have HNX : Kp (insAll ((vs ++ ls).take (tAt vs ls i + (k + 1))) = ins out x) := ⟨HNX0⟩
          obtain ⟨A', c', hv, hnil, hmc, hcb, hR'⟩ := HO2.it.form3 (by omega)
          obtain ⟨m, hm⟩ : ∃ m, m = out.length := ⟨_, rfl⟩
          rw [← hm] at hv hmc hR' hln
          subst hv
          have HM := Kp.mk hm
          have HNIL := Kp.mk hnil
          have HR := Kp.mk hR'
          clear HNX0 hP' hx hout hnil hR' hm hc0 hlt
          go_wp2
          go_loop [8] (fun a => ∃ q : Nat, q ≤ m ∧ a = .int .i64 q ∧ Kp (∀ j, j < q → rd out j < x)) (fun a => m - (intOf a).toNat)
          case atStart => exact ⟨0, by omega, rfl, ⟨fun j hj => by omega⟩⟩
          case round =>
            obtain ⟨q, hq, rfl, HQ⟩ := hrel
            by_cases hqm : q < m
            · have hdq : decide ((q : Int) < (m : Int)) = true := by simp; omega
              obtain ⟨b', o', hA', hlt', hc'⟩ := HR.it.get hqm
              cases hA'
              clear hlt'
              by_cases hy : rd out q < x
              · have hyd : decide (rd out q < x) = true := by simpa using hy
                have HY := Kp.mk hy
                clear hy
                go_wp2
                go_round
                case rel => exact ⟨q + 1, by omega, by go_num, ⟨fun j hj => by rcases Nat.lt_succ_iff_lt_or_eq.1 hj with h | rfl; exact HQ.it j h; exact HY.it⟩⟩
                case measure => simp [intOf]; omega
              · have hyd : decide (rd out q < x) = false := by simpa using hy
                by_cases hz : rd out q = x
                · have hzd : (rd out q == x) = true := by simpa using hz
                  have HS := Kp.mk (ins_same HQ.it (by have := HM.it; omega) hz)
                  clear hz hy
                  go_wp2
                  go_roundw
                  case rel => exact ⟨k + 1, by omega, by go_num, by rw [HNX.it, HS.it]; exact HO2, HW2⟩
                  case measure => simp [intOf]; omega
                · have hzd : (rd out q == x) = false := by simpa using hz
                  have HS := Kp.mk (ins_new HQ.it (by have := HM.it; omega) (fun _ => by omega))
                  clear hz hy
                  have hcq : ¬ c' = q := by omega
                  have HE := Kp.mk (own_empty wr)
                  have HT := Kp.mk ((HR.it.take (k := q) (by omega)).below ((Below.refl wr.heap.size wr).alloc (Nat.le_refl _) (.cells #[] 3)))
                  have HB1 : Kp (([] : List Int).length + (out.take q).length ≤ 17592186044416) := ⟨by rw [List.length_take, ← HM.it]; simp; try omega⟩
                  have HTL : (out.take q).length ≤ 1000000000 := Nat.le_trans (List.length_take_le' _ _) (by have := HM.it; omega)
                  have HB2 : Kp ((out.take q).length + 1 ≤ 17592186044416) := ⟨by omega⟩
                  have HB3 : Kp ((out.take q ++ [x]).length + (out.drop q).length ≤ 17592186044416) := ⟨by simp only [List.length_append, List.length_cons, List.length_nil, List.length_drop]; have := HM.it; omega⟩
                  clear HTL
                  have HT0 := Kp.mk (HR.it.drop_some (k := q) (by omega))
                  go_wp2_with (first
                    | (refine app_rd rfl (.tmp 52) (.tmp 55) rfl wr.heap.size _ [] _ _ _ (out.take q) rfl rfl HE.it HT.it HNIL.it (by simp) HB1.it ?_
                       intro v1 w1 hn1 hg1 _
                       have N1 : Kp (Own w1 wr.heap.size v1 (out.take q)) := ⟨hn1⟩
                       have W1 := Kp.mk (below_own ((Below.refl wr.heap.size wr).alloc (Nat.le_refl _) (.cells #[] 3)) (by simp) HE.it (Nat.le_refl _) hg1)
                       clear hn1 hg1)
                    | (refine app_own rfl (.tmp 57) (.tmp 59) rfl wr.heap.size _ (out.take q) x rfl rfl N1.it W1.it.size HB2.it ?_
                       intro v2 w2' hn2 hg2 _
                       have N2 := Kp.mk hn2
                       have W2 := Kp.mk (below_own W1.it W1.it.size N1.it (Nat.le_refl _) hg2)
                       clear hn2 hg2)
                    | (refine app_rd rfl (.tmp 61) (.tmp 64) rfl wr.heap.size _ (out.take q ++ [x]) _ _ _ (out.drop q) rfl rfl N2.it (HT0.it.below W2.it) (fun e => by cases e) W2.it.size HB3.it ?_
                       intro v3 w3 hn3 hg3 _
                       have N3 := Kp.mk hn3
                       have W3 := Kp.mk (below_own W2.it W2.it.size N2.it (Nat.le_refl _) hg3)
                       clear hn3 hg3))
                  go_roundw
                  case rel => exact ⟨k + 1, by omega, by go_num, by rw [HNX.it, HS.it]; exact ⟨N3.it.relax HW2.it.size⟩, ⟨HW2.it.trans (W3.it.mono HW2.it.size)⟩⟩
                  case measure => simp [intOf]; omega
            · obtain rfl : q = m := by omega
              have HS := Kp.mk (ins_new HQ.it (by have := HM.it; omega) (fun _ => by have := HM.it; omega))
              have HDR : out.drop q = [] := List.drop_of_length_le (by have := HM.it; omega)
              rw [HDR] at HS
              clear HDR
              cases A' with
              | none =>
                have hc0 : c' = 0 := HNIL.it rfl
                subst hc0
                obtain rfl : q = 0 := by omega
                have HE := Kp.mk (own_empty wr)
                have HT := Kp.mk ((HR.it.take (k := 0) (by omega)).below ((Below.refl wr.heap.size wr).alloc (Nat.le_refl _) (.cells #[] 3)))
                have HB1 : Kp (([] : List Int).length + (out.take 0).length ≤ 17592186044416) := ⟨by rw [List.length_take, ← HM.it]; simp; try omega⟩
                have HTL : (out.take 0).length ≤ 1000000000 := Nat.le_trans (List.length_take_le' _ _) (by have := HM.it; omega)
                have HB2 : Kp ((out.take 0).length + 1 ≤ 17592186044416) := ⟨by omega⟩
                have HB3 : Kp ((out.take 0 ++ [x]).length + ([] : List Int).length ≤ 17592186044416) := ⟨by simp only [List.length_append, List.length_cons, List.length_nil, List.length_drop]; have := HM.it; omega⟩
                clear HTL
                go_wp2_with (first
                  | (refine app_rd rfl (.tmp 52) (.tmp 55) rfl wr.heap.size _ [] _ _ _ (out.take 0) rfl rfl HE.it HT.it HNIL.it (by simp) HB1.it ?_
                     intro v1 w1 hn1 hg1 _
                     have N1 : Kp (Own w1 wr.heap.size v1 (out.take 0)) := ⟨hn1⟩
                     have W1 := Kp.mk (below_own ((Below.refl wr.heap.size wr).alloc (Nat.le_refl _) (.cells #[] 3)) (by simp) HE.it (Nat.le_refl _) hg1)
                     clear hn1 hg1)
                  | (refine app_own rfl (.tmp 57) (.tmp 59) rfl wr.heap.size _ (out.take 0) x rfl rfl N1.it W1.it.size HB2.it ?_
                     intro v2 w2' hn2 hg2 _
                     have N2 := Kp.mk hn2
                     have W2 := Kp.mk (below_own W1.it W1.it.size N1.it (Nat.le_refl _) hg2)
                     clear hn2 hg2)
                  | (refine app_rd rfl (.tmp 61) (.tmp 64) rfl wr.heap.size _ (out.take 0 ++ [x]) _ _ _ ([]) rfl rfl N2.it (show Rd _ none 0 [] from ⟨rfl, by omega, fun h => absurd h (by omega)⟩) (fun _ => rfl) W2.it.size HB3.it ?_
                     intro v3 w3 hn3 hg3 _
                     have N3 := Kp.mk hn3
                     have W3 := Kp.mk (below_own W2.it W2.it.size N2.it (Nat.le_refl _) hg3)
                     clear hn3 hg3))
                go_roundw
                case rel => exact ⟨k + 1, by omega, by go_num, by rw [HNX.it, HS.it]; exact ⟨N3.it.relax HW2.it.size⟩, ⟨HW2.it.trans (W3.it.mono HW2.it.size)⟩⟩
                case measure => simp [intOf]; omega
              | some ad =>
                by_cases hcm : c' = q
                · subst hcm
                  have HE := Kp.mk (own_empty wr)
                  have HT := Kp.mk ((HR.it.take (k := c') (by omega)).below ((Below.refl wr.heap.size wr).alloc (Nat.le_refl _) (.cells #[] 3)))
                  have HB1 : Kp (([] : List Int).length + (out.take c').length ≤ 17592186044416) := ⟨by rw [List.length_take, ← HM.it]; simp; try omega⟩
                  have HTL : (out.take c').length ≤ 1000000000 := Nat.le_trans (List.length_take_le' _ _) (by have := HM.it; omega)
                  have HB2 : Kp ((out.take c').length + 1 ≤ 17592186044416) := ⟨by omega⟩
                  have HB3 : Kp ((out.take c' ++ [x]).length + ([] : List Int).length ≤ 17592186044416) := ⟨by simp only [List.length_append, List.length_cons, List.length_nil, List.length_drop]; have := HM.it; omega⟩
                  clear HTL
                  go_wp2_with (first
                    | (refine app_rd rfl (.tmp 52) (.tmp 55) rfl wr.heap.size _ [] _ _ _ (out.take c') rfl rfl HE.it HT.it HNIL.it (by simp) HB1.it ?_
                       intro v1 w1 hn1 hg1 _
                       have N1 : Kp (Own w1 wr.heap.size v1 (out.take c')) := ⟨hn1⟩
                       have W1 := Kp.mk (below_own ((Below.refl wr.heap.size wr).alloc (Nat.le_refl _) (.cells #[] 3)) (by simp) HE.it (Nat.le_refl _) hg1)
                       clear hn1 hg1)
                    | (refine app_own rfl (.tmp 57) (.tmp 59) rfl wr.heap.size _ (out.take c') x rfl rfl N1.it W1.it.size HB2.it ?_
                       intro v2 w2' hn2 hg2 _
                       have N2 := Kp.mk hn2
                       have W2 := Kp.mk (below_own W1.it W1.it.size N1.it (Nat.le_refl _) hg2)
                       clear hn2 hg2)
                    | (refine app_rd rfl (.tmp 61) (.tmp 64) rfl wr.heap.size _ (out.take c' ++ [x]) _ _ _ ([]) rfl rfl N2.it (show Rd _ (some ad) 0 [] from ⟨rfl, by omega, fun h => absurd h (by omega)⟩) (fun e => by cases e) W2.it.size HB3.it ?_
                       intro v3 w3 hn3 hg3 _
                       have N3 := Kp.mk hn3
                       have W3 := Kp.mk (below_own W2.it W2.it.size N2.it (Nat.le_refl _) hg3)
                       clear hn3 hg3))
                  go_roundw
                  case rel => exact ⟨k + 1, by omega, by go_num, by rw [HNX.it, HS.it]; exact ⟨N3.it.relax HW2.it.size⟩, ⟨HW2.it.trans (W3.it.mono HW2.it.size)⟩⟩
                  case measure => simp [intOf]; omega
                · obtain ⟨d, hd'⟩ : ∃ d, d = c' - q := ⟨_, rfl⟩
                  have HE := Kp.mk (own_empty wr)
                  have HT := Kp.mk ((HR.it.take (k := q) (by omega)).below ((Below.refl wr.heap.size wr).alloc (Nat.le_refl _) (.cells #[] 3)))
                  have HB1 : Kp (([] : List Int).length + (out.take q).length ≤ 17592186044416) := ⟨by rw [List.length_take, ← HM.it]; simp; try omega⟩
                  have HTL : (out.take q).length ≤ 1000000000 := Nat.le_trans (List.length_take_le' _ _) (by have := HM.it; omega)
                  have HB2 : Kp ((out.take q).length + 1 ≤ 17592186044416) := ⟨by omega⟩
                  have HB3 : Kp ((out.take q ++ [x]).length + ([] : List Int).length ≤ 17592186044416) := ⟨by simp only [List.length_append, List.length_cons, List.length_nil, List.length_drop]; have := HM.it; omega⟩
                  clear HTL
                  go_wp2_with (first
                    | (refine app_rd rfl (.tmp 52) (.tmp 55) rfl wr.heap.size _ [] _ _ _ (out.take q) rfl rfl HE.it HT.it HNIL.it (by simp) HB1.it ?_
                       intro v1 w1 hn1 hg1 _
                       have N1 : Kp (Own w1 wr.heap.size v1 (out.take q)) := ⟨hn1⟩
                       have W1 := Kp.mk (below_own ((Below.refl wr.heap.size wr).alloc (Nat.le_refl _) (.cells #[] 3)) (by simp) HE.it (Nat.le_refl _) hg1)
                       clear hn1 hg1)
                    | (refine app_own rfl (.tmp 57) (.tmp 59) rfl wr.heap.size _ (out.take q) x rfl rfl N1.it W1.it.size HB2.it ?_
                       intro v2 w2' hn2 hg2 _
                       have N2 := Kp.mk hn2
                       have W2 := Kp.mk (below_own W1.it W1.it.size N1.it (Nat.le_refl _) hg2)
                       clear hn2 hg2)
                    | (refine app_rd rfl (.tmp 61) (.tmp 64) rfl wr.heap.size _ (out.take q ++ [x]) _ _ _ ([]) rfl rfl N2.it (show Rd _ (some (ad.add q)) 0 [] from ⟨rfl, by omega, fun h => absurd h (by omega)⟩) (fun e => by cases e) W2.it.size HB3.it ?_
                       intro v3 w3 hn3 hg3 _
                       have N3 := Kp.mk hn3
                       have W3 := Kp.mk (below_own W2.it W2.it.size N2.it (Nat.le_refl _) hg3)
                       clear hn3 hg3))
                  go_roundw
                  case rel => exact ⟨k + 1, by omega, by go_num, by rw [HNX.it, HS.it]; exact ⟨N3.it.relax HW2.it.size⟩, ⟨HW2.it.trans (W3.it.mono HW2.it.size)⟩⟩
                  case measure => simp [intOf]; omega
        · obtain rfl : k = n := by omega
          go_wp2
          go_roundw
          case rel => exact ⟨i + 1, by omega, by go_num, by rw [← hT.it]; exact HO2, HW2⟩
          case measure => simp [intOf]; omega
    · obtain rfl : i = 2 := by omega
      go_wp2
      go_ret
      exact ⟨_, rfl, by rw [← HEND.it]; exact HO.it.relax (by have := HS2.it; omega), HBW.it.trans (HW.it.mono (by have := HS2.it; omega))⟩

end Go.Proofs.Ytbfpdahbmdaenaa
