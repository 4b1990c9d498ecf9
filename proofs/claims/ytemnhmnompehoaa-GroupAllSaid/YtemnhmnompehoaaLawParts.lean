/-
  Which part any key is of, and which events pass.
-/
import Derived.Test.YtemnhmnompehoaaEqE
import Derived.Test.YtemnhmnompehoaaAwake
namespace Go.Proofs.Ytemnhmnompehoaa
open Go.ChangeShapes Go.WideShapes Go.ChangeAt Go.RowKit

/-- How long the events' keys are, each at most so long. -/
def lens (ks : List Ev) : Nat := (ks.map (fun k => 1 + min k.key.size 4096)).sum
theorem lens_succ (ks : List Ev) {i : Nat} {k : Ev} (hk : ks[i]? = some k) : lens (ks.take (i + 1)) = lens (ks.take i) + (1 + min k.key.size 4096) := by
  obtain ⟨hi, rfl⟩ := List.getElem?_eq_some_iff.1 hk
  unfold lens
  rw [List.take_succ_eq_append_getElem hi, List.map_append, List.sum_append]
  simp
theorem lens_len (ks : List Ev) : ks.length ≤ lens ks := by
  unfold lens
  induction ks with
  | nil => simp
  | cons x l ih => simp only [List.map_cons, List.sum_cons, List.length_cons]; omega
theorem lens_key (ks : List Ev) {k : Ev} (hk : k ∈ ks) : min k.key.size 4096 < lens ks := by
  unfold lens
  induction ks with
  | nil => cases hk
  | cons x l ih =>
    simp only [List.map_cons, List.sum_cons]
    rcases List.mem_cons.1 hk with rfl | h
    · omega
    · have := ih h; omega
set_option maxHeartbeats 4000000 in
theorem parts_walk (p q : Int) (hp : p ≤ 9223372036854775807) (A : Option Addr) (n c : Nat) (ks : List Ev) (w : World) (h : RE w A n ks) :
    Calls Try.prog 9 #[.int .i64 p, .int .i64 q, .slice A n c] w fun e w' => e = .returned (.bool true) ∧ Below w.heap.size w w' := by
  have hbd := h.bd
  have H := Kp.mk h
  clear h
  go_enter Try.func9, Try.ntmps9
  go_wp2
  go_loopw [7, 8] (fun s i wr => ∃ k : Nat, k ≤ n ∧ i = .int .i64 k ∧ s = .int .i64 (lens (ks.take k) : Nat) ∧ lens (ks.take k) ≤ 8200 ∧ Kp (∃ q, wr = w.drewN q)) (fun _ i _ => n - (intOf i).toNat)
  case atStart => exact ⟨0, by omega, rfl, rfl, Nat.zero_le _, ⟨0, rfl⟩⟩
  case round =>
    obtain ⟨k, hk, rfl, rfl, hl8, HW⟩ := hrel
    by_cases hkn : k < n
    · have hd : decide ((k : Int) < (n : Int)) = true := by simp; omega
      by_cases hl : lens (ks.take k) ≤ 4096
      · have hd2 : decide (((lens (ks.take k) : Nat) : Int) ≤ 4096) = true := by simp; omega
        obtain ⟨x, hx⟩ : ∃ x, ks[k]? = some x := ⟨_, List.getElem?_eq_getElem (by rw [H.it.len]; exact hkn)⟩
        obtain ⟨b1, o1, hA, _, _, f1, _⟩ := H.it.get hx
        cases hA
        have g1 : wr.cell? ⟨b1, o1 + k * 6 + 1, none⟩ = some (.string x.key) := by obtain ⟨q, rfl⟩ := HW.it; exact f1
        clear f1
        have HX := Kp.mk (lens_succ ks hx)
        clear hx
        go_wp2
        go_roundw
        case rel => exact ⟨k + 1, by omega, by go_num, by rw [HX.it]; go_num, by rw [HX.it]; omega, HW⟩
        case measure => simp [intOf]; omega
      · have hd2 : decide (((lens (ks.take k) : Nat) : Int) ≤ 4096) = false := by rw [decide_eq_false_iff_not]; omega
        have hd3 : decide ((4096 : Int) < ((lens (ks.take k) : Nat) : Int)) = true := by simp; omega
        go_wp2_with (go_at_call 13; refine (awake_any _).mono ?_; rintro e w' ⟨rfl, hb'⟩)
        go_ret
        exact ⟨rfl, by obtain ⟨q, rfl⟩ := HW.it; exact (below_drewN (Below.refl _ _) q).trans hb'⟩
    · obtain rfl : k = n := by omega
      have HT : Kp (ks.take k = ks) := ⟨List.take_of_length_le (by rw [H.it.len]; omega)⟩
      rw [HT.it] at hl8 ⊢
      obtain ⟨L, hL⟩ : ∃ L, L = lens ks := ⟨_, rfl⟩
      rw [← hL] at hl8 ⊢
      have HL := Kp.mk hL
      clear hL
      by_cases hl : L ≤ 4096
      · have hd3 : decide ((4096 : Int) < (L : Int)) = false := by rw [decide_eq_false_iff_not]; omega
        have hk4 : k ≤ 4096 := by have := lens_len ks; rw [← HL.it, H.it.len] at this; omega
        have HZ : Kp (∀ x ∈ ks, x.key.size ≤ 140737488351232) := ⟨fun x hx => by have := lens_key ks hx; rw [← HL.it] at this; omega⟩
        have HB0 : Kp (Below w.heap.size w wr) := ⟨by obtain ⟨q, rfl⟩ := HW.it; exact below_drewN (Below.refl _ _) q⟩
        go_wp2
        go_loopw [37] (fun i wx => ∃ j : Nat, j ≤ k ∧ i = .int .i64 j ∧ Kp (Below w.heap.size w wx)) (fun i _ => k - (intOf i).toNat)
        case atStart => exact ⟨0, by omega, rfl, HB0⟩
        case round =>
          obtain ⟨j, hj, rfl, HB⟩ := hrel
          by_cases hjk : j < k
          · have hd : decide ((j : Int) < (k : Int)) = true := by simp; omega
            obtain ⟨x, hx⟩ : ∃ x, ks[j]? = some x := ⟨_, List.getElem?_eq_getElem (by rw [H.it.len]; exact hjk)⟩
            obtain ⟨b1, o1, hA, _, f0, f1, f2, f3, f4, f5⟩ := (H.it.below HB.it).get hx
            cases hA
            have hks : x.key.size ≤ 140737488351232 := HZ.it x (List.mem_of_getElem? hx)
            clear hx
            go_upto_region 11 with fail
            refine wp_on (fun wx => wx.heap[wr.heap.size]? = some (.cells #[.int .i64 x.pos, .string x.key, .bool x.had, .string x.old, .bool x.has, .string x.now] 58 (0, 0)) ∧ Below wr.heap.size wr wx) ⟨heap_new _ _, (Below.refl wr.heap.size wr).alloc (Nat.le_refl _) _⟩ (fun w1 h1 => ?_)
            obtain ⟨h1, hb1⟩ := h1
            have HE := Kp.mk h1
            have B1 := Kp.mk hb1
            clear h1 hb1 f0 f1 f2 f3 f4 f5
            have g1 : w1.cell? ⟨wr.heap.size, 1, none⟩ = some (.string x.key) := blk_cell HE.it rfl
            go_wp2_with fail
            go_at_call 36
            refine (part_any p hp x.key w1 hks).mono ?_
            rintro e w2 ⟨rfl, hb2⟩
            have HE2 : Kp (w2.heap[wr.heap.size]? = some (.cells #[.int .i64 x.pos, .string x.key, .bool x.had, .string x.old, .bool x.has, .string x.now] 58 (0, 0))) := ⟨by rw [hb2.block _ (Array.getElem?_eq_some_iff.1 HE.it).1]; exact HE.it⟩
            have B2 := Kp.mk (B1.it.trans (hb2.mono B1.it.size))
            clear hb2 g1
            have g1 : w2.cell? ⟨wr.heap.size, 1, none⟩ = some (.string x.key) := blk_cell HE2.it rfl
            obtain ⟨R, hR⟩ : ∃ R, R = partOf p x.key := ⟨_, rfl⟩
            have hR0 : 0 ≤ R := by rw [hR]; unfold partOf; split; exact Int.le_refl 0; exact Int.emod_nonneg _ (by omega)
            have hR1 : 0 < p → R < p := fun h0 => by rw [hR]; unfold partOf; rw [if_neg (by omega)]; exact Int.emod_lt_of_pos _ h0
            rw [← hR]
            have HR := Kp.mk hR
            have HR1 := Kp.mk hR1
            clear hR hR1
            have hd8 : decide (R < 0) = false := by rw [decide_eq_false_iff_not]; omega
            by_cases hp0 : 0 < p
            · have hd7 : decide (0 < p) = true := by simp; omega
              have hd9 : decide (p ≤ R) = false := by rw [decide_eq_false_iff_not]; have := HR1.it hp0; omega
              have hp1 := HR1.it hp0
              go_wp2_with (go_at_call 37; refine (rpart_any p hp x.key w2 hks).mono ?_; rintro e w3 ⟨rfl, hb3⟩; have B3 := Kp.mk (B2.it.trans (hb3.mono B2.it.size)); clear hb3; rw [← HR.it])
              go_roundw
              case rel => exact ⟨j + 1, by omega, by go_num, ⟨HB.it.trans (B3.it.mono HB.it.size)⟩⟩
              case measure => simp [intOf]; omega
            · have hd7 : decide (0 < p) = false := by rw [decide_eq_false_iff_not]; omega
              go_wp2_with (go_at_call 37; refine (rpart_any p hp x.key w2 hks).mono ?_; rintro e w3 ⟨rfl, hb3⟩; have B3 := Kp.mk (B2.it.trans (hb3.mono B2.it.size)); clear hb3; rw [← HR.it])
              go_roundw
              case rel => exact ⟨j + 1, by omega, by go_num, ⟨HB.it.trans (B3.it.mono HB.it.size)⟩⟩
              case measure => simp [intOf]; omega
          · obtain rfl : j = k := by omega
            have HP : Kp ((passE p q ks).length ≤ 4096) := ⟨by unfold passE; have := List.length_filter_le (isOf p q) ks; rw [H.it.len] at this; omega⟩
            have HS : Kp (∀ y ∈ passE p q ks, y.key.size ≤ maxLen ∧ y.old.size ≤ maxLen ∧ y.now.size ≤ maxLen) := ⟨fun y hy => H.it.str y (List.mem_filter.1 hy).1⟩
            go_wp2_with fail
            go_at_call 39
            refine (pass_any p q hp A j c ks wr (H.it.below HB.it) hk4 HZ.it).mono ?_
            rintro e w2 ⟨v2, rfl, ho2, hb2⟩
            obtain ⟨A2, c2, rfl, _, hr2⟩ := ho2.form (by have := HP.it; omega) HS.it
            have R2 := Kp.mk hr2
            have B2 := Kp.mk (HB.it.trans (hb2.mono HB.it.size))
            clear ho2 hb2 hr2
            go_wp2_with fail
            go_at_call 40
            refine (rpass_any p q hp A j c ks w2 (H.it.below B2.it) hk4 HZ.it).mono ?_
            rintro e w3 ⟨v3, rfl, ho3, hb3⟩
            obtain ⟨A3, c3, rfl, _, hr3⟩ := ho3.form (by have := HP.it; omega) HS.it
            have R3 := Kp.mk hr3
            have R2' := Kp.mk (R2.it.below hb3)
            have B3 := Kp.mk (B2.it.trans (hb3.mono B2.it.size))
            clear ho3 hb3 hr3
            go_wp2_with fail
            go_at_call 38
            refine (eqE_same A2 A3 _ c2 c3 (passE p q ks) w3 R2'.it R3.it).mono ?_
            rintro e w4 ⟨rfl, hb4⟩
            have B4 := Kp.mk (B3.it.trans (hb4.mono B3.it.size))
            clear hb4
            go_wp2_with (go_at_call 13; refine (awake_any _).mono ?_; rintro e w' ⟨rfl, hb'⟩)
            go_ret
            exact ⟨rfl, B4.it.trans (hb'.mono B4.it.size)⟩
      · have hd3 : decide ((4096 : Int) < (L : Int)) = true := by simp; omega
        go_wp2_with (go_at_call 13; refine (awake_any _).mono ?_; rintro e w' ⟨rfl, hb'⟩)
        go_ret
        exact ⟨rfl, by obtain ⟨q, rfl⟩ := HW.it; exact (below_drewN (Below.refl _ _) q).trans hb'⟩

set_option linter.unusedVariables false in
set_option maxRecDepth 100000 in
theorem groupParts_lifted (os : Os) (started : os.Started) (H : Type) (enc : TypeId × Value → H) :
    ReturnsInHanded {} Try.checked os 9 .any (Rows.groupPartsSpec.pre6 enc Try.prog Try.f9 Rows.groupPartsRow.domain false) (Rows.groupPartsSpec.post enc Try.prog Try.f9 false true false false) := by
  refine returnsInHanded_of_change_sized (C := Try.checked) (by kernel_rfl) started (by kernel_rfl) Try.func9
    (ChangeSpec.witness6 (enc := enc) (C := Try.checked) false ⟨#[], #[.int .i64 0, .int .i64 0, .slice none 0 0], []⟩ 8 (by kernel_rfl) (by kernel_rfl) (by kernel_rfl) (by kernel_rfl)) ?_
  intro W base args ds gs before hval0 hW hcnd hsz0 _
  have hval : ∀ (j : Nat) t v, Try.f9.params[j]? = some t → args[j]? = some v → Value.okWide Try.prog W .any base t v := hval0
  have hW' := hW
  obtain ⟨p, q, hA0, hV, rfl, hfz, hnd⟩ := hW
  have hA : DataW.TrodAll enc Try.prog W 0 (fun _ => true) true Try.f9.params.toList args.toList ds p := hA0
  have hsz : (DataW.weightsEach Try.prog (Try.f9.params.toList ++ Rows.groupPartsSpec.plain.varTypes Try.prog) (ds ++ gs)).all (· ≤ reachBytes) = true := hsz0
  rw [Try.params9] at hA hval hsz
  obtain ⟨v0, vs0, d0, ds0, p0, q0, hargs, rfl, rfl, h0, r0⟩ := trodAll_cons hA
  obtain ⟨v1, vs1, d1, ds1, p1, q1, rfl, rfl, rfl, h1, r1⟩ := trodAll_cons r0
  obtain ⟨v2, vs2, d2, ds2, p2, q2, rfl, rfl, rfl, h2, r2⟩ := trodAll_cons r1
  obtain ⟨rfl, rfl, rfl⟩ := trodAll_nil r2
  obtain rfl : args = #[v0, v1, v2] := by cases args; simp_all
  obtain ⟨rfl, rfl⟩ := trodVars_none hV
  have k0 := h0
  have lt0 : ∀ x ∈ p0, x.block < W.heap.size := by obtain ⟨m, hm⟩ := k0; exact DataW.trod_lt m _ _ _ hm
  obtain ⟨a0, rfl, rfl, rfl, w0⟩ := open_int Try.underlying3 (hval 0 3 v0 rfl rfl) h0
  have k1 := h1
  have lt1 : ∀ x ∈ p1, x.block < W.heap.size := by obtain ⟨m, hm⟩ := k1; exact DataW.trod_lt m _ _ _ hm
  obtain ⟨a1, rfl, rfl, rfl, w1⟩ := open_int Try.underlying3 (hval 1 3 v1 rfl rfl) h1
  have k2 := h2
  have lt2 : ∀ x ∈ p2, x.block < W.heap.size := by obtain ⟨m, hm⟩ := k2; exact DataW.trod_lt m _ _ _ hm
  obtain ⟨A2, n2, c2, ks2, rfl, ra2, ea2, bd2⟩ := evs_open (hval 2 56 v2 rfl rfl) h2 (fun x hx => by simpa using List.all_eq_true.1 hsz x (DataW.weights_mem_each (j := 2) (t := 56) rfl rfl x hx))
  clear hA0 hval0 hsz hsz0
  refine (parts_walk a0 a1 (by have h := w0; simp [Lit.wf, IntKind.min, IntKind.max, IntKind.bits, IntKind.signed] at h; omega) A2 n2 c2 ks2 W ra2).mono fun e W' ⟨he, bel⟩ => ?_
  subst he
  exact ⟨_, rfl, _, _, _, [], _, [], hW', trodAll_mk1 (shut_bool Try.underlying4 _), (trodAll_cons_mk (shut_int Try.underlying3 w0) (trodAll_cons_mk (shut_int Try.underlying3 w1) (trodAll_cons_mk (Below.trod (by kernel_rfl) (by kernel_rfl) (of_decide_eq_true (by kernel_rfl)) k2 bel lt2) trodAll_mk0))), rfl, bel.frame _, fun h => by cases h⟩

theorem GroupParts_holds : Rows.GroupPartsSaid :=
  OpenClaim.holds_of_wide 9 Try.f9 rfl rfl rfl rfl rfl rfl rfl ⟨rfl, rfl, rfl, rfl, rfl⟩ rfl rfl rfl rfl rfl (by kernel_rfl) Try.func9 (by kernel_rfl)
    (of_decide_eq_true (by kernel_rfl)) (by unfold Func.isWrapper; first | (rw [if_pos (by decide +kernel)]; kernel_rfl) | (rw [if_neg (by decide +kernel)]; exact ⟨rfl, rfl⟩))
    (fun os started H enc _ => groupParts_lifted os started H enc)
end Go.Proofs.Ytemnhmnompehoaa
