/-
  QuorumMost: of any roster that may be and any five numbers: what is agreed a majority has reached, and no majority has reached more.
-/
import Derived.Test.YtbfpdahbmdaenaaAwake
import Derived.Test.YtbfpdahbmdaenaaOpen
import Derived.Test.YtbfpdahbmdaenaaRAgree
import Derived.Test.YtbfpdahbmdaenaaApp
namespace Go.Proofs.Ytbfpdahbmdaenaa
open Go.ChangeShapes Go.WideShapes Go.ChangeAt Go.RowKit

/-- Of the first k nodes those of which p holds. -/
def pick (p : Int → Bool) (k : Nat) : List Int := List.filter p ((List.range k).map (fun i : Nat => (i : Int)))
theorem pick_le (p : Int → Bool) (k : Nat) : (pick p k).length ≤ k := by
  unfold pick
  exact Nat.le_trans (List.length_filter_le _ _) (by simp)
theorem pick_hit {p : Int → Bool} {k : Nat} (h : p k = true) : pick p (k + 1) = pick p k ++ [(k : Int)] := by
  unfold pick
  rw [List.range_succ, List.map_append, List.filter_append]
  simp [h]
theorem pick_miss {p : Int → Bool} {k : Nat} (h : p k = false) : pick p (k + 1) = pick p k := by
  unfold pick
  rw [List.range_succ, List.map_append, List.filter_append]
  simp [h]
theorem pick_in {p : Int → Bool} {v : Int} (h : inR v = true) : inB (pick p 5) v = p v := by
  obtain ⟨m, rfl, hm⟩ := inR_nat h
  rw [Bool.eq_iff_iff, inB_iff]
  unfold pick
  simp only [List.mem_filter, List.mem_map, List.mem_range]
  constructor
  · exact fun h => h.2
  · exact fun h => ⟨⟨m, hm, rfl⟩, h⟩

theorem good_in {vs ls : List Int} (h : goodB vs ls = true) : (∀ v ∈ vs, inR v = true) ∧ vs ≠ [] := by
  unfold goodB wellB at h
  rw [Bool.and_eq_true, decide_eq_true_eq, decide_eq_true_eq, well_iff] at h
  refine ⟨fun v hv => ?_, fun e => ?_⟩
  · have := h.1.2 v (List.mem_append.2 (.inl hv))
    unfold inR
    simp [this]
  · rw [e] at h; simp at h
theorem most_there {r : Int → Int} {vs ls : List Int} (h : goodB vs ls = true) : major vs (pick (fun i => decide (agr r vs ≤ r i)) 5) = true := by
  obtain ⟨h1, h2⟩ := good_in h
  unfold major
  rw [decide_eq_true_eq]
  have := (agr_half (r := r) h1 h2).1
  unfold Half at this
  have e : vs.countP (fun v => inB (pick (fun i => decide (agr r vs ≤ r i)) 5) v) = vs.countP (fun w => decide (agr r vs ≤ r w)) :=
    List.countP_congr (fun v hv => by rw [pick_in (h1 v hv)])
  omega
theorem most_more {r : Int → Int} {vs ls : List Int} (h : goodB vs ls = true) : major vs (pick (fun i => decide (agr r vs < r i)) 5) = false := by
  obtain ⟨h1, h2⟩ := good_in h
  unfold major
  rw [decide_eq_false_iff_not]
  have := (agr_half (r := r) h1 h2).2.1 (agr r vs + 1) (by omega)
  unfold Half at this
  have e : vs.countP (fun v => inB (pick (fun i => decide (agr r vs < r i)) 5) v) = vs.countP (fun w => decide (agr r vs + 1 ≤ r w)) :=
    List.countP_congr (fun v hv => by rw [pick_in (h1 v hv)]; simp only [decide_eq_true_eq]; omega)
  omega

theorem index25 (r : Int → Int) (m : Nat) (hm : m < 5) (w : World) : (Instr.index 25 (.agg #[.int .i64 (r 0), .int .i64 (r 1), .int .i64 (r 2), .int .i64 (r 3), .int .i64 (r 4)]) (.int .i64 (m : Int))).run Try.prog w = .ok (.int .i64 (r m)) w := by
  rcases (by omega : m = 0 ∨ m = 1 ∨ m = 2 ∨ m = 3 ∨ m = 4) with rfl | rfl | rfl | rfl | rfl
  · kernel_rfl
  · kernel_rfl
  · kernel_rfl
  · kernel_rfl
  · kernel_rfl

set_option maxHeartbeats 1000000 in
theorem most_walk (A1 A2 : Option Addr) (n1 c1 n2 c2 : Nat) (vs ls : List Int) (r : Int → Int) (w : World) (h1 : Rd w A1 n1 vs) (h2 : Rd w A2 n2 ls) : Calls Try.prog 3 #[.agg #[.slice A1 n1 c1, .slice A2 n2 c2], .agg (arr5 r)] w fun e w' => e = .returned (.bool true) ∧ Below w.heap.size w w' := by
  obtain ⟨i0, hi, hz0, hz1, hz2⟩ := info_parts Try.info3'
  have hb : Below w.heap.size w ((w.alloc (.cells #[.slice A1 n1 c1, .slice A2 n2 c2] 24)).alloc (.cells (arr5 r) 25)) := ((Below.refl _ _).alloc (Nat.le_refl _) _).alloc (by simp) _
  have HC := Kp.mk (check_any A1 A2 n1 c1 n2 c2 vs ls _ (h1.below hb) (h2.below hb))
  have HA := Kp.mk (h1.below hb)
  have HB := Kp.mk hb
  have hB0 : Kp (((w.alloc (.cells #[.slice A1 n1 c1, .slice A2 n2 c2] 24)).alloc (.cells (arr5 r) 25)).heap[w.heap.size]? = some (.cells #[.slice A1 n1 c1, .slice A2 n2 c2] 24 (0, 0))) := ⟨blk_old _ (blk_new _ _)⟩
  have hB1 : Kp (((w.alloc (.cells #[.slice A1 n1 c1, .slice A2 n2 c2] 24)).alloc (.cells (arr5 r) 25)).heap[w.heap.size + 1]? = some (.cells (arr5 r) 25 (0, 0))) := ⟨blk_new1 _ _ _⟩
  clear h1 h2 hb
  cases hg : goodB vs ls with
  | false =>
    have HE := Kp.mk (errC_bad hg)
    clear hg
    go_enter Try.func3, Try.ntmps3
    go_wp2_with (first | (go_at_call 13; refine HC.it.mono ?_; rintro e w1 ⟨rfl, hb1⟩; rw [HE.it]) | (go_at_call 14; refine (awake_any _).mono ?_; rintro e w' ⟨rfl, hb'⟩))
    go_ret
    have hx := HB.it.trans (hb1.mono HB.it.size)
    exact ⟨rfl, hx.trans (hb'.mono hx.size)⟩
  | true =>
    have HE := Kp.mk (errC_good hg)
    have HT := Kp.mk (most_there (r := r) hg)
    have HM := Kp.mk (most_more (r := r) hg)
    clear hg
    go_enter Try.func3, Try.ntmps3
    go_wp2_with (go_at_call 13; refine HC.it.mono ?_; rintro e w1 ⟨rfl, hb1⟩; rw [HE.it]; clear HC; have z0 : w1.cell? ⟨w.heap.size, 0, none⟩ = some (.slice A1 n1 c1) := (hb1.cell (p := ⟨w.heap.size, 0, none⟩) (by simp; omega)).trans (blk_cell hB0.it rfl); have z1 : w1.cell? ⟨w.heap.size, 1, none⟩ = some (.slice A2 n2 c2) := (hb1.cell (p := ⟨w.heap.size, 1, none⟩) (by simp; omega)).trans (blk_cell hB0.it rfl); have y0 : w1.cell? ⟨w.heap.size + 1, 0, none⟩ = some (.int .i64 (r 0)) := (hb1.cell (p := ⟨w.heap.size + 1, 0, none⟩) (by simp)).trans (blk_cell hB1.it rfl); have y1 : w1.cell? ⟨w.heap.size + 1, 1, none⟩ = some (.int .i64 (r 1)) := (hb1.cell (p := ⟨w.heap.size + 1, 1, none⟩) (by simp)).trans (blk_cell hB1.it rfl); have y2 : w1.cell? ⟨w.heap.size + 1, 2, none⟩ = some (.int .i64 (r 2)) := (hb1.cell (p := ⟨w.heap.size + 1, 2, none⟩) (by simp)).trans (blk_cell hB1.it rfl); have y3 : w1.cell? ⟨w.heap.size + 1, 3, none⟩ = some (.int .i64 (r 3)) := (hb1.cell (p := ⟨w.heap.size + 1, 3, none⟩) (by simp)).trans (blk_cell hB1.it rfl); have y4 : w1.cell? ⟨w.heap.size + 1, 4, none⟩ = some (.int .i64 (r 4)) := (hb1.cell (p := ⟨w.heap.size + 1, 4, none⟩) (by simp)).trans (blk_cell hB1.it rfl))
    have HA1 := Kp.mk (HA.it.below hb1)
    have HB1 := Kp.mk (HB.it.trans (hb1.mono HB.it.size))
    have hs1 : w.heap.size + 2 ≤ w1.heap.size := by have := hb1.size; simp at this; omega
    clear hb1
    refine (agreed_any A1 A2 n1 c1 n2 c2 vs r _ HA1.it).mono ?_
    rintro e w2 ⟨rfl, hb2⟩
    have z0' := (hb2.cell (p := ⟨w.heap.size, 0, none⟩) (by simp; omega)).trans z0
    have z1' := (hb2.cell (p := ⟨w.heap.size, 1, none⟩) (by simp; omega)).trans z1
    have y0' := (hb2.cell (p := ⟨w.heap.size + 1, 0, none⟩) (by simp; omega)).trans y0
    have y1' := (hb2.cell (p := ⟨w.heap.size + 1, 1, none⟩) (by simp; omega)).trans y1
    have y2' := (hb2.cell (p := ⟨w.heap.size + 1, 2, none⟩) (by simp; omega)).trans y2
    have y3' := (hb2.cell (p := ⟨w.heap.size + 1, 3, none⟩) (by simp; omega)).trans y3
    have y4' := (hb2.cell (p := ⟨w.heap.size + 1, 4, none⟩) (by simp; omega)).trans y4
    have HA2 := Kp.mk (HA1.it.below hb2)
    have HB2 := Kp.mk (HB1.it.trans (hb2.mono HB1.it.size))
    have hs2 : w.heap.size + 2 ≤ w2.heap.size := Nat.le_trans hs1 hb2.size
    obtain ⟨ag, hag⟩ : ∃ ag, ag = agr r vs := ⟨_, rfl⟩
    rw [← hag] at HT HM ⊢
    have HI := Kp.mk (index25 r)
    clear hb2 hag z0 z1 y0 y1 y2 y3 y4 HA HA1 HB HB1 hs1
    go_wp2
    go_loopw [6, 7, 18] (fun u v i wr => ∃ k : Nat, k ≤ 5 ∧ i = .int .i64 k ∧ Own wr w2.heap.size u (pick (fun i => decide (ag ≤ r i)) k) ∧ Own wr w2.heap.size v (pick (fun i => decide (ag < r i)) k) ∧ Kp (Dj u v) ∧ Kp (Below w2.heap.size w2 wr)) (fun _ _ i _ => 5 - (intOf i).toNat)
    case atStart => exact ⟨0, by omega, rfl, Own.nil _ _, Own.nil _ _, ⟨.inl rfl⟩, ⟨Below.refl _ _⟩⟩
    case round =>
      obtain ⟨k, hk, rfl, ho1, ho2, hdj, hW⟩ := hrel
      have HO1 := Kp.mk ho1
      have HO2 := Kp.mk ho2
      have l1 := pick_le (fun i => decide (ag ≤ r i)) k
      have l2 := pick_le (fun i => decide (ag < r i)) k
      clear ho1 ho2
      by_cases hk5 : k < 5
      · have hd : decide ((k : Int) < 5) = true := by simp; omega
        have hix := HI.it k hk5
        obtain ⟨x, hx⟩ : ∃ x, x = r (k : Int) := ⟨_, rfl⟩
        rw [← hx] at hix
        have G1 : ag ≤ x → Kp (pick (fun i => decide (ag ≤ r i)) (k + 1) = pick (fun i => decide (ag ≤ r i)) k ++ [(k : Int)]) := fun h => ⟨pick_hit (by rw [decide_eq_true_eq, ← hx]; exact h)⟩
        have G1n : ¬ ag ≤ x → Kp (pick (fun i => decide (ag ≤ r i)) (k + 1) = pick (fun i => decide (ag ≤ r i)) k) := fun h => ⟨pick_miss (by rw [decide_eq_false_iff_not, ← hx]; exact h)⟩
        have G2 : ag < x → Kp (pick (fun i => decide (ag < r i)) (k + 1) = pick (fun i => decide (ag < r i)) k ++ [(k : Int)]) := fun h => ⟨pick_hit (by rw [decide_eq_true_eq, ← hx]; exact h)⟩
        have G2n : ¬ ag < x → Kp (pick (fun i => decide (ag < r i)) (k + 1) = pick (fun i => decide (ag < r i)) k) := fun h => ⟨pick_miss (by rw [decide_eq_false_iff_not, ← hx]; exact h)⟩
        clear hx
        obtain ⟨xs, hxs⟩ : ∃ xs, xs = pick (fun i => decide (ag ≤ r i)) k := ⟨_, rfl⟩
        obtain ⟨ys, hys⟩ : ∃ ys, ys = pick (fun i => decide (ag < r i)) k := ⟨_, rfl⟩
        rw [← hxs] at HO1 l1 G1 G1n
        rw [← hys] at HO2 l2 G2 G2n
        clear hxs hys
        have hsz := hW.it.size
        by_cases h2 : ag < x
        · have h1 : ag ≤ x := by omega
          have E1 := G1 h1
          have E2 := G2 h2
          clear G1 G1n G2 G2n
          go_wp2_with (first
            | (refine app_own rfl (.tmp 25) (.tmp 27) rfl w2.heap.size _ xs (k : Int) rfl rfl HO1.it hsz (by omega) ?_; intro v1 w1 hn1 hg1 hat1; have D1 := Kp.mk (Dj.next HO2.it hdj.it.symm hat1); have N1 := Kp.mk hn1; have N2 := Kp.mk (HO2.it.grow hg1 hdj.it.symm); have W1 := Kp.mk (below_own hW.it hsz HO1.it (Nat.le_refl _) hg1); have hsz1 := W1.it.size; clear hn1 hg1 hat1)
            | (refine app_own rfl (.tmp 32) (.tmp 34) rfl w2.heap.size _ ys (k : Int) rfl rfl N2.it hsz1 (by omega) ?_; intro v2 w3 hn1 hg1 hat1; have D2 := Kp.mk (Dj.next N1.it D1.it.symm hat1); have M2 := Kp.mk hn1; have M1 := Kp.mk (N1.it.grow hg1 D1.it.symm); have W2 := Kp.mk (below_own W1.it hsz1 N2.it (Nat.le_refl _) hg1); clear hn1 hg1 hat1))
          go_roundw
          case rel => exact ⟨k + 1, by omega, by go_num, by rw [E1.it]; exact M1.it, by rw [E2.it]; exact M2.it, D2, W2⟩
          case measure => simp [intOf]; omega
        · have E2 := G2n h2
          by_cases h1 : ag ≤ x
          · have E1 := G1 h1
            clear G1 G1n G2 G2n
            go_wp2_with (refine app_own rfl (.tmp 25) (.tmp 27) rfl w2.heap.size _ xs (k : Int) rfl rfl HO1.it hsz (by omega) ?_; intro v1 w1 hn1 hg1 hat1; have D1 := Kp.mk (Dj.next HO2.it hdj.it.symm hat1); have N1 := Kp.mk hn1; have N2 := Kp.mk (HO2.it.grow hg1 hdj.it.symm); have W1 := Kp.mk (below_own hW.it hsz HO1.it (Nat.le_refl _) hg1); clear hn1 hg1 hat1)
            go_roundw
            case rel => exact ⟨k + 1, by omega, by go_num, by rw [E1.it]; exact N1.it, by rw [E2.it]; exact N2.it, ⟨D1.it.symm⟩, W1⟩
            case measure => simp [intOf]; omega
          · have E1 := G1n h1
            clear G1 G1n G2 G2n
            go_wp2
            go_roundw
            case rel => exact ⟨k + 1, by omega, by go_num, by rw [E1.it]; exact HO1.it, by rw [E2.it]; exact HO2.it, hdj, hW⟩
            case measure => simp [intOf]; omega
      · obtain rfl : k = 5 := by omega
        obtain ⟨A3, c3, rfl, hr3⟩ := HO1.it.form
        obtain ⟨A4, c4, rfl, hr4⟩ := HO2.it.form
        have R3 := Kp.mk (hr3 (by omega))
        have R4 := Kp.mk (hr4 (by omega))
        have HA3 := Kp.mk (HA2.it.below hW.it)
        have HB3 := Kp.mk (HB2.it.trans (hW.it.mono HB2.it.size))
        have z0 := (hW.it.cell (p := ⟨w.heap.size, 0, none⟩) (by simp; omega)).trans z0'
        have z1 := (hW.it.cell (p := ⟨w.heap.size, 1, none⟩) (by simp; omega)).trans z1'
        have hs3 : w.heap.size + 2 ≤ wr.heap.size := Nat.le_trans hs2 hW.it.size
        clear hr3 hr4 z0' z1' y0' y1' y2' y3' y4' HA2
        go_wp2_with fail
        refine (majority_any A1 A2 A3 n1 c1 n2 c2 _ c3 vs _ _ HA3.it R3.it).mono ?_
        rintro e w4 ⟨rfl, hb4⟩
        rw [HT.it]
        have z0' := (hb4.cell (p := ⟨w.heap.size, 0, none⟩) (by simp; omega)).trans z0
        have z1' := (hb4.cell (p := ⟨w.heap.size, 1, none⟩) (by simp; omega)).trans z1
        have HA4 := Kp.mk (HA3.it.below hb4)
        have R4' := Kp.mk (R4.it.below hb4)
        have HB4 := Kp.mk (HB3.it.trans (hb4.mono HB3.it.size))
        clear hb4 z0 z1
        go_wp2_with fail
        refine (majority_any A1 A2 A4 n1 c1 n2 c2 _ c4 vs _ _ HA4.it R4'.it).mono ?_
        rintro e w5 ⟨rfl, hb5⟩
        rw [HM.it]
        have HB5 := Kp.mk (HB4.it.trans (hb5.mono HB4.it.size))
        clear hb5
        go_wp2_with (go_at_call 14; refine (awake_any _).mono ?_; rintro e w' ⟨rfl, hb'⟩)
        go_ret
        exact ⟨rfl, HB5.it.trans (hb'.mono HB5.it.size)⟩

set_option linter.unusedVariables false in
set_option maxRecDepth 100000 in
theorem quorumMost_lifted (os : Os) (started : os.Started) (H : Type) (enc : TypeId × Value → H) :
    ReturnsInHanded {} Try.checked os 3 .any (Rows.quorumMostSpec.pre6 enc Try.prog Try.f3 Rows.quorumMostRow.domain false) (Rows.quorumMostSpec.post enc Try.prog Try.f3 false true false false) := by
  refine returnsInHanded_of_change_sized (C := Try.checked) (by kernel_rfl) started (by kernel_rfl) Try.func3
    (ChangeSpec.witness6 (enc := enc) (C := Try.checked) false ⟨#[], #[.agg #[.slice none 0 0, .slice none 0 0], .agg (arr5 fun _ => 0)], []⟩ 8 (by kernel_rfl) (by kernel_rfl) (by kernel_rfl) (by kernel_rfl)) ?_
  intro W base args ds gs before hval0 hW hcnd hsz0 _
  have hval : ∀ (j : Nat) t v, Try.f3.params[j]? = some t → args[j]? = some v → Value.okWide Try.prog W .any base t v := hval0
  have hW' := hW
  obtain ⟨p, q, hA0, hV, rfl, hfz, hnd⟩ := hW
  have hA : DataW.TrodAll enc Try.prog W 0 (fun _ => true) true Try.f3.params.toList args.toList ds p := hA0
  have hsz : (DataW.weightsEach Try.prog (Try.f3.params.toList ++ Rows.quorumMostSpec.plain.varTypes Try.prog) (ds ++ gs)).all (· ≤ reachBytes) = true := hsz0
  rw [Try.params3] at hA hval hsz
  obtain ⟨v0, vs0, d0, ds0, p0, q0, hargs, rfl, rfl, h0, r0⟩ := trodAll_cons hA
  obtain ⟨v1, vs1, d1, ds1, p1, q1, rfl, rfl, rfl, h1, r1⟩ := trodAll_cons r0
  obtain ⟨rfl, rfl, rfl⟩ := trodAll_nil r1
  obtain rfl : args = #[v0, v1] := by cases args; simp_all
  obtain ⟨rfl, rfl⟩ := trodVars_none hV
  have k0 := h0
  have lt0 : ∀ x ∈ p0, x.block < W.heap.size := by obtain ⟨m, hm⟩ := k0; exact DataW.trod_lt m _ _ _ hm
  obtain ⟨A0, n0, c0, B0, m0, e0, vs0', ls0', rfl, ra0, rb0⟩ := ro_open (hval 0 24 v0 rfl rfl) h0 (fun x hx => by simpa using List.all_eq_true.1 hsz x (DataW.weights_mem_each (j := 0) (t := 24) rfl rfl x hx))
  have k1 := h1
  have lt1 : ∀ x ∈ p1, x.block < W.heap.size := by obtain ⟨m, hm⟩ := k1; exact DataW.trod_lt m _ _ _ hm
  obtain ⟨f1, rfl⟩ := arr_open (hval 1 25 v1 rfl rfl) h1
  clear hA0 hval0 hsz hsz0
  refine (most_walk _ _ _ _ _ _ _ _ _ W ra0 rb0).mono fun e W' ⟨he, bel⟩ => ?_
  subst he
  exact ⟨_, rfl, _, _, _, [], _, [], hW', trodAll_mk1 (shut_bool Try.underlying4 _), (trodAll_cons_mk (Below.trod (by kernel_rfl) (by kernel_rfl) (of_decide_eq_true (by kernel_rfl)) k0 bel lt0) (trodAll_cons_mk (Below.trod (by kernel_rfl) (by kernel_rfl) (of_decide_eq_true (by kernel_rfl)) k1 bel lt1) trodAll_mk0)), rfl, bel.frame _, fun h => by cases h⟩

theorem QuorumMost_holds : Rows.QuorumMostSaid :=
  OpenClaim.holds_of_wide 3 Try.f3 rfl rfl rfl rfl rfl rfl rfl ⟨rfl, rfl, rfl, rfl, rfl⟩ rfl rfl rfl rfl rfl (by kernel_rfl) Try.func3 (by kernel_rfl)
    (of_decide_eq_true (by kernel_rfl)) (by unfold Func.isWrapper; first | (rw [if_pos (by decide +kernel)]; kernel_rfl) | (rw [if_neg (by decide +kernel)]; exact ⟨rfl, rfl⟩))
    (fun os started H enc _ => quorumMost_lifted os started H enc)

end Go.Proofs.Ytbfpdahbmdaenaa
