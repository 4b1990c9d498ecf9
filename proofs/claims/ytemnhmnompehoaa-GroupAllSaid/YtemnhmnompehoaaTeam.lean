/-
  The reference's Team.
-/
import Derived.Test.YtemnhmnompehoaaShare
namespace Go.Proofs.Ytemnhmnompehoaa
open Go Go.RowKit

/-- The least one above 0 that is not out yet, of the first j. -/
def mnS (out ms : List Int) : Nat → Int
  | 0 => 0
  | j + 1 => if 0 < rd ms j ∧ inB out (rd ms j) = false ∧ (mnS out ms j = 0 ∨ rd ms j < mnS out ms j) then rd ms j else mnS out ms j
theorem mnS_what (out ms : List Int) : ∀ j, j ≤ ms.length → (mnS out ms j = 0 ∧ ∀ i, i < j → ¬ (0 < rd ms i ∧ inB out (rd ms i) = false)) ∨
    (0 < mnS out ms j ∧ inB out (mnS out ms j) = false ∧ mnS out ms j ∈ ms ∧ ∀ i, i < j → 0 < rd ms i → inB out (rd ms i) = false → mnS out ms j ≤ rd ms i)
  | 0, _ => .inl ⟨rfl, fun i hi => by omega⟩
  | j + 1, hj => by
    have ih := mnS_what out ms j (by omega)
    unfold mnS
    split
    · rename_i h
      right
      refine ⟨h.1, h.2.1, by rw [rd_lt (by omega)]; exact List.getElem_mem _, fun i hi h1 h2 => ?_⟩
      rcases Nat.lt_succ_iff_lt_or_eq.1 hi with h3 | rfl
      · rcases ih with ⟨_, g2⟩ | ⟨g1, _, _, g4⟩
        · exact absurd ⟨h1, h2⟩ (g2 i h3)
        · have := g4 i h3 h1 h2
          rcases h.2.2 with h5 | h5
          · omega
          · omega
      · exact Int.le_refl _
    · rename_i h
      rcases ih with ⟨g1, g2⟩ | ⟨g1, g2, g3, g4⟩
      · left
        refine ⟨g1, fun i hi hh => ?_⟩
        rcases Nat.lt_succ_iff_lt_or_eq.1 hi with h3 | rfl
        · exact g2 i h3 hh
        · exact h ⟨hh.1, hh.2, .inl g1⟩
      · right
        refine ⟨g1, g2, g3, fun i hi h1 h2 => ?_⟩
        rcases Nat.lt_succ_iff_lt_or_eq.1 hi with h3 | rfl
        · exact g4 i h3 h1 h2
        · apply Classical.byContradiction
          intro hn
          exact h ⟨h1, h2, .inr (by omega)⟩

theorem inB_false {xs : List Int} {x : Int} : inB xs x = false ↔ x ∉ xs := by rw [← Bool.not_eq_true, inB_iff]
/-- The next one of the team. -/
theorem mnS_team (ms : List Int) (k : Nat) : mnS ((team ms).take k) ms ms.length = if h : k < (team ms).length then (team ms)[k] else 0 := by
  obtain ⟨t1, t2⟩ := team_what ms
  have hw := mnS_what ((team ms).take k) ms ms.length (Nat.le_refl _)
  split
  · rename_i hk
    have hmem : (team ms)[k] ∈ team ms := List.getElem_mem hk
    have hT := (t2 _).1 hmem
    have hno : inB ((team ms).take k) (team ms)[k] = false := by
      rw [inB_false]
      intro h
      obtain ⟨i, hi, e⟩ := List.mem_iff_getElem.1 h
      rw [List.length_take, Nat.lt_min] at hi
      rw [List.getElem_take] at e
      have := List.pairwise_iff_getElem.1 t1 i k (by omega) hk hi.1
      omega
    obtain ⟨j, hj, he⟩ := List.mem_iff_getElem.1 hT.1
    rw [← rd_lt hj] at he
    rcases hw with ⟨_, g2⟩ | ⟨g1, g2, g3, g4⟩
    · exact absurd ⟨by rw [he]; omega, by rw [he]; exact hno⟩ (g2 j hj)
    · have h1 := g4 j hj (by rw [he]; omega) (by rw [he]; exact hno)
      rw [he] at h1
      have hin : mnS ((team ms).take k) ms ms.length ∈ team ms := (t2 _).2 ⟨g3, by omega⟩
      obtain ⟨i, hi, e⟩ := List.mem_iff_getElem.1 hin
      rw [inB_false] at g2
      have hik : k ≤ i := by
        apply Classical.byContradiction
        intro hlt
        refine g2 (List.mem_iff_getElem.2 ⟨i, by rw [List.length_take, Nat.lt_min]; omega, ?_⟩)
        rw [List.getElem_take]
        exact e
      rcases Nat.lt_or_ge k i with h5 | h5
      · have := List.pairwise_iff_getElem.1 t1 k i hk hi h5
        omega
      · obtain rfl : i = k := by omega
        exact e.symm
  · rename_i hk
    rcases hw with ⟨g1, _⟩ | ⟨g1, g2, g3, _⟩
    · exact g1
    · exfalso
      have e : (team ms).take k = team ms := List.take_of_length_le (by omega)
      rw [e] at g1 g2 g3
      rw [inB_false] at g2
      exact g2 ((t2 _).2 ⟨g3, by omega⟩)

set_option linter.unusedVariables false in
set_option maxRecDepth 100000 in
set_option maxHeartbeats 4000000 in
theorem rteam_any (A : Option Addr) (n c : Nat) (ms : List Int) (w : World) (h : Rd w A n ms) (hn : n ≤ 1000000) : Calls Try.prog 18 #[.slice A n c] w fun e w' => ∃ v, e = .returned v ∧ Own w' w.heap.size v (team ms) ∧ Below w.heap.size w w' := by
  have H := Kp.mk h
  have HL := Kp.mk h.len
  have HTL : Kp ((team ms).length ≤ n) := ⟨by have := team_len ms; rw [h.len] at this; exact this⟩
  clear h
  go_enter Try.func18, Try.ntmps18
  go_wp2
  go_loopw [3, 9] (fun v i wr => ∃ k : Nat, k ≤ n ∧ i = .int .i64 k ∧ Own wr w.heap.size v ((team ms).take k) ∧ Kp (Below w.heap.size w wr)) (fun _ i _ => n - (intOf i).toNat)
  case atStart => exact ⟨0, by omega, rfl, by simpa using Own.nil _ _, ⟨Below.refl _ _⟩⟩
  case round =>
    obtain ⟨k, hk, rfl, ho, HB⟩ := hrel
    by_cases hkn : k < n
    · have hd : decide ((k : Int) < (n : Int)) = true := by simp; omega
      have hlt : ((team ms).take k).length ≤ 1000000 := by rw [List.length_take]; have := HTL.it; omega
      obtain ⟨Av, cv, hv, _, _, _, hr⟩ := ho.form3 (by omega)
      have HO := Kp.mk ho
      have HR := Kp.mk hr
      have HM := Kp.mk (mnS_team ms k)
      have HLT := Kp.mk hlt
      have HNX : Kp ((team ms).take k ++ (if h : k < (team ms).length then [(team ms)[k]] else []) = (team ms).take (k + 1)) := ⟨by
        split
        · rename_i h9; rw [List.take_succ_eq_append_getElem h9]
        · rw [List.take_of_length_le (by omega), List.take_of_length_le (by omega), List.append_nil]⟩
      obtain ⟨out, hout⟩ : ∃ out, out = (team ms).take k := ⟨_, rfl⟩
      rw [← hout] at HO HR HM HLT HNX hv
      obtain ⟨m, hm⟩ : ∃ m, m = out.length := ⟨_, rfl⟩
      have HOL := Kp.mk hm
      rw [← hm] at hv HR
      subst hv
      clear ho hr hout hm hlt
      obtain ⟨wo, rfl⟩ : ∃ wo : World, wo = wr := ⟨_, rfl⟩
      go_wp2
      go_loop [4, 13] (fun a i => ∃ j : Nat, j ≤ n ∧ i = .int .i64 j ∧ a = .int .i64 (mnS out ms j)) (fun _ i => n - (intOf i).toNat)
      case atStart => exact ⟨0, by omega, rfl, rfl⟩
      case round =>
        obtain ⟨j, hj, rfl, rfl⟩ := hrel
        by_cases hjn : j < n
        · have hd2 : decide ((j : Int) < (n : Int)) = true := by simp; omega
          obtain ⟨b, o, hA, hlt, hc0⟩ := H.it.get hjn
          have hcell := (HB.it.cell (p := ⟨b, o + j, none⟩) hlt).trans hc0
          cases hA
          have HN : Kp (mnS out ms (j + 1) = if 0 < rd ms j ∧ inB out (rd ms j) = false ∧ (mnS out ms j = 0 ∨ rd ms j < mnS out ms j) then rd ms j else mnS out ms j) := ⟨rfl⟩
          obtain ⟨x, hx⟩ : ∃ x, x = rd ms j := ⟨_, rfl⟩
          rw [← hx] at hcell HN
          obtain ⟨a, ha⟩ : ∃ a, a = mnS out ms j := ⟨_, rfl⟩
          rw [← ha] at HN
          rw [← ha]
          have HCT := Kp.mk (times_any Av m cv out x wo HR.it)
          obtain ⟨ct, hct⟩ : ∃ ct, ct = out.countP (· == x) := ⟨_, rfl⟩
          rw [← hct] at HCT
          have hz : ct = 0 ↔ inB out x = false := by
            rw [hct, inB_false, List.countP_eq_zero]
            constructor
            · intro h9 hm; exact h9 x hm (by simp)
            · intro h9 y hy he; have : y = x := by simpa using he
              subst this; exact h9 hy
          have HZ := Kp.mk hz
          clear hx ha hct hz hc0 hlt
          by_cases hp : 0 < x
          · have hp1 : decide (x > 0) = true := by simp; omega
            by_cases hi : ct = 0
            · have hi1 : ((ct : Int) == 0) = true := by rw [beq_iff_eq]; omega
              have HI := Kp.mk (HZ.it.1 hi)
              clear hi
              by_cases ha0 : a = 0
              · have ha1 : (a == 0) = true := by rw [beq_iff_eq]; exact ha0
                have HV : Kp (mnS out ms (j + 1) = x) := ⟨by rw [HN.it, if_pos ⟨hp, HI.it, .inl ha0⟩]⟩
                clear ha0
                go_wp2_with (go_at_call 60; refine HCT.it.mono ?_; rintro e w' ⟨rfl, rfl⟩)
                go_round
                case rel => exact ⟨j + 1, by omega, by go_num, by rw [HV.it]⟩
                case measure => simp [intOf]; omega
              · have ha1 : (a == 0) = false := by rw [beq_eq_false_iff_ne]; exact ha0
                by_cases hlt : x < a
                · have hl1 : decide (x < a) = true := by simpa using hlt
                  have HV : Kp (mnS out ms (j + 1) = x) := ⟨by rw [HN.it, if_pos ⟨hp, HI.it, .inr hlt⟩]⟩
                  clear ha0
                  go_wp2_with (go_at_call 60; refine HCT.it.mono ?_; rintro e w' ⟨rfl, rfl⟩)
                  go_round
                  case rel => exact ⟨j + 1, by omega, by go_num, by rw [HV.it]⟩
                  case measure => simp [intOf]; omega
                · have hl1 : decide (x < a) = false := by simpa using hlt
                  have HV : Kp (mnS out ms (j + 1) = a) := ⟨by rw [HN.it, if_neg (fun h9 => by rcases h9.2.2 with h | h; exact ha0 h; exact hlt h)]⟩
                  clear ha0
                  go_wp2_with (go_at_call 60; refine HCT.it.mono ?_; rintro e w' ⟨rfl, rfl⟩)
                  go_round
                  case rel => exact ⟨j + 1, by omega, by go_num, by rw [HV.it]⟩
                  case measure => simp [intOf]; omega
            · have hi1 : ((ct : Int) == 0) = false := by rw [beq_eq_false_iff_ne]; omega
              have HV : Kp (mnS out ms (j + 1) = a) := ⟨by rw [HN.it, if_neg (fun h9 => hi (HZ.it.2 h9.2.1))]⟩
              clear hi
              go_wp2_with (go_at_call 60; refine HCT.it.mono ?_; rintro e w' ⟨rfl, rfl⟩)
              go_round
              case rel => exact ⟨j + 1, by omega, by go_num, by rw [HV.it]⟩
              case measure => simp [intOf]; omega
          · have hp1 : decide (x > 0) = false := by simp; omega
            have HV : Kp (mnS out ms (j + 1) = a) := ⟨by rw [HN.it, if_neg (fun h9 => hp h9.1)]⟩
            go_wp2
            go_round
            case rel => exact ⟨j + 1, by omega, by go_num, by rw [HV.it]⟩
            case measure => simp [intOf]; omega
        · have hd2 : decide ((j : Int) < (n : Int)) = false := by simp; omega
          obtain rfl : n = j := by omega
          have HE := HM.it
          rw [HL.it] at HE
          by_cases hkT : k < (team ms).length
          · rw [dif_pos hkT] at HE
            have hNX := HNX.it
            rw [dif_pos hkT] at hNX
            rw [HE]
            have hpos := (((team_what ms).2 _).1 (List.getElem_mem hkT)).2
            obtain ⟨x, hx⟩ : ∃ x, x = (team ms)[k] := ⟨_, rfl⟩
            rw [← hx] at hNX hpos
            rw [← hx]
            have HNX2 := Kp.mk hNX
            have hx1 : decide (x > 0) = true := by simp; omega
            have hxl : out.length + 1 ≤ 17592186044416 := by have := HLT.it; omega
            have HXL := Kp.mk hxl
            have HOw : Kp (Own wo w.heap.size (.slice Av m cv) out) := HO
            clear HE hNX hx hkT hxl
            go_wp2_with (refine app_own rfl (.tmp 38) (.tmp 40) rfl w.heap.size _ out x rfl rfl HOw.it HB.it.size HXL.it ?_; intro v1 w1 hn1 hg1 hat1; have N1 := Kp.mk hn1; have W1 := Kp.mk (below_own HB.it HB.it.size HOw.it (Nat.le_refl _) hg1); clear hn1 hg1 hat1)
            go_roundw
            case rel => exact ⟨k + 1, by omega, by go_num, by rw [← HNX2.it]; exact N1.it, W1⟩
            case measure => simp [intOf]; omega
          · rw [dif_neg hkT] at HE
            have hNX := HNX.it
            rw [dif_neg hkT, List.append_nil] at hNX
            rw [HE]
            have HNX2 := Kp.mk hNX
            clear HE hNX hkT
            go_wp2
            go_roundw
            case rel => exact ⟨k + 1, by omega, by go_num, by rw [← HNX2.it]; exact HO.it, HB⟩
            case measure => simp [intOf]; omega
    · have hd : decide ((k : Int) < (n : Int)) = false := by simp; omega
      rw [List.take_of_length_le (by have := HTL.it; omega)] at ho
      have HO := Kp.mk ho
      obtain ⟨Av, cv, hv, _⟩ := ho.form
      obtain ⟨m, hm⟩ : ∃ m, m = (team ms).length := ⟨_, rfl⟩
      rw [← hm] at hv
      subst hv
      clear ho hm
      go_wp2
      go_ret
      exact ⟨_, rfl, HO.it, HB.it⟩

end Go.Proofs.Ytemnhmnompehoaa
