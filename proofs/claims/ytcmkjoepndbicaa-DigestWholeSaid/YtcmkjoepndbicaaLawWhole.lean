/-
  DigestWhole: the parts of a part have its pairs, each once.
-/
import Derived.Test.YtcmkjoepndbicaaCnt
namespace Go.Proofs.Ytcmkjoepndbicaa
open Go.ChangeShapes Go.WideShapes Go.ChangeAt Go.RowKit

theorem okP_snoc {path : List Int} {d : Nat} (h : okP path 4 = true) (hl : path.length ≤ 3) (hd : d < 16) : okP (path ++ [(d : Int)]) 4 = true := by
  unfold okP at *
  rw [List.all_append, (Bool.and_eq_true_iff.1 h).2, List.length_append]
  have h1 : okD (d : Int) = true := by unfold okD; rw [decide_eq_true (by omega), decide_eq_true (by omega)]; rfl
  simp [h1]
  omega
set_option linter.unusedSimpArgs false in
set_option linter.unusedVariables false in
set_option maxRecDepth 100000 in
set_option maxHeartbeats 8000000 in
theorem whole_walk (ka kb : BitVec 64) (A : Option Addr) (n c : Nat) (l : List Pr) (Ap : Option Addr) (m cp : Nat) (path : List Int) (w : World) (h : RP w (fun _ => True) A n l) (hz : ∀ k ∈ l, k.1.size ≤ 140737488351232 ∧ k.2.size ≤ 140737488351232) (P : Rd w Ap m path) (hnil : Ap = none → cp = 0) :
    Calls Try.prog 10 #[.agg #[.int .u64 (ka.toNat : Int), .int .u64 (kb.toNat : Int)], .slice A n c, .slice Ap m cp] w fun e w' => e = .returned (.bool true) ∧ Below w.heap.size w w' := by
  have hbd := h.bd
  have hpd := P.bd
  have HL := Kp.mk h.len
  have H := Kp.mk h
  have HP := Kp.mk P
  have HNL := Kp.mk hnil
  have HZ := Kp.mk hz
  clear h hnil hz P
  go_enter Try.func10, Try.ntmps10
  go_upto_region 1 with fail
  refine wp_on (fun wx => Sd ka kb w.heap.size wx ∧ Below w.heap.size w wx) ⟨blk_new _ _, (Below.refl _ _).alloc (Nat.le_refl _) _⟩ (fun w1 hx => ?_)
  obtain ⟨e1, hb1⟩ := hx
  obtain ⟨X, hX⟩ : ∃ X, X = w.heap.size := ⟨_, rfl⟩
  rw [← hX] at e1
  have HX := Kp.mk hX
  rw [← hX]
  clear hX
  have E1 := Kp.mk e1
  have B1 := Kp.mk hb1
  clear e1 hb1
  go_wp2_with fail
  refine (short_one w1.heap.size A n c l _ (fun _ => True) ((H.it.below B1.it).below ((Below.refl _ _).alloc (Nat.le_refl _) _)) (blk_new _ _)).mono ?_
  rintro e w2 ⟨r, rfl, hr, hb2⟩
  have hb : Below w1.heap.size w1 w2 := ((Below.refl w1.heap.size w1).alloc (Nat.le_refl _) _).trans (hb2.mono (by simp))
  have B2 := Kp.mk hb
  clear hb hb2
  cases r with
  | false =>
    clear hr
    go_wp2_with (go_at_call 12; refine (awake_any _).mono ?_; rintro e w' ⟨rfl, hb'⟩)
    go_ret
    exact ⟨rfl, (B1.it.trans (B2.it.mono B1.it.size)).trans (hb'.mono (Nat.le_trans B1.it.size B2.it.size))⟩
  | true =>
    have HOK := Kp.mk (hr rfl)
    have hn1 : n ≤ 1000 := by rw [← HL.it]; have := HOK.it.1; omega
    have HSZ : Kp (∀ p ∈ l, p.1.size + p.2.size ≤ 140737488351232) := ⟨fun p hp => HOK.it.sum hp (HZ.it p hp).1 (HZ.it p hp).2⟩
    clear hr
    by_cases hm10 : 3 < m
    · have hd10 : decide ((3 : Int) < (m : Int)) = true := by simp; omega
      go_wp2_with (go_at_call 12; refine (awake_any _).mono ?_; rintro e w' ⟨rfl, hb'⟩)
      go_ret
      exact ⟨rfl, (B1.it.trans (B2.it.mono B1.it.size)).trans (hb'.mono (Nat.le_trans B1.it.size B2.it.size))⟩
    · have hd10 : decide ((3 : Int) < (m : Int)) = false := by rw [decide_eq_false_iff_not]; omega
      have hm3 : m ≤ 3 := by omega
      have HI := Kp.mk ((H.it.below B1.it).below B2.it)
      have BW2 : Kp (Below w.heap.size w w2) := ⟨B1.it.trans (B2.it.mono B1.it.size)⟩
      have HPI := Kp.mk (HP.it.below BW2.it)
      obtain ⟨z0, z1, hx3⟩ := (E1.it.below B2.it).opens
      go_wp2_with fail
      go_at_call 14
      refine (of_s ka kb A n c l w2 _ HI.it hn1 HSZ.it).mono ?_
      rintro e W ⟨t, rfl, ht, _, hbW⟩
      have HR1 : Kp (Rise (ofP l)) := ⟨ofP_rise l⟩
      have HL1 : Kp ((ofP l).length ≤ 1000) := ⟨by have := ofP_len l; have := HL.it; omega⟩
      have TS3 : Kp (TreeS ka kb (fun _ => True) (ofP l) t W) := ⟨ht.relax (fun _ _ _ => trivial)⟩
      have BW3 : Kp (Below w.heap.size w W) := ⟨BW2.it.trans (hbW.mono BW2.it.size)⟩
      have HP3 := Kp.mk (HPI.it.below hbW)
      clear ht z0 z1 hx3 hbW HPI
      obtain ⟨l', hl'⟩ : ∃ l', l' = ofP l := ⟨_, rfl⟩
      rw [← hl'] at HR1 HL1 TS3
      clear hl'
      have HPL : Kp (path.length = m) := ⟨HP.it.len⟩
      go_wp2_with fail
      go_at_call 34
      refine (pairs_any ka kb (fun _ => True) l' t Ap m cp path W TS3.it HP3.it (fun _ _ => trivial) HR1.it HL1.it).mono ?_
      intro e w4 hq
      cases hok : okP path 4 with
      | false =>
        obtain rfl := hq.2.1 hok
        have BW4 : Kp (Below w.heap.size w w4) := ⟨BW3.it.trans (hq.2.2.mono BW3.it.size)⟩
        have he1 : ((1 : Int) != 0) = true := by decide
        have he2 : ((1 : Int) == 1) = true := by decide
        clear hq hok
        go_wp2_with (go_at_call 12; refine (awake_any _).mono ?_; rintro e w' ⟨rfl, hb'⟩)
        go_ret
        exact ⟨rfl, BW4.it.trans (hb'.mono BW4.it.size)⟩
      | true =>
        obtain ⟨A8, n8, c8, rfl, ho8⟩ := hq.1 hok
        have hb4 := hq.2.2
        have BW4 : Kp (Below w.heap.size w w4) := ⟨BW3.it.trans (hb4.mono BW3.it.size)⟩
        obtain ⟨L, hL⟩ : ∃ L, L = inP ka kb path l' := ⟨_, rfl⟩
        rw [← hL] at ho8
        have HLE : Kp (L.length ≤ 1000) := ⟨by rw [hL]; exact Nat.le_trans (inP_le ka kb path l') HL1.it⟩
        obtain ⟨A', c', hv, _, _, hr8⟩ := ho8.form (by have := HLE.it; omega)
        injection hv with hA hn8 hc
        subst hA
        subst hc
        rw [← hn8] at hr8
        have R8 := Kp.mk hr8
        have HN8 : Kp (n8 = L.length) := ⟨hn8⟩
        have hn81 : n8 ≤ 1000 := by rw [hn8]; exact HLE.it
        have TS4 := Kp.mk (TS3.it.below hb4)
        have HP4 := Kp.mk (HP3.it.below hb4)
        have he1 : ((0 : Int) != 0) = false := by decide
        have HO3 : Kp (okP path 3 = true) := ⟨by rw [okP_34, hok, HPL.it]; simpa using (show ¬ m = 4 by omega)⟩
        have HO4 := Kp.mk hok
        have HLL := Kp.mk hL
        clear hq ho8 hr8 hb4 hL hn8 TS3 HP3 hok
        go_wp2_with fail
        go_at_call 32
        refine (parts_any ka kb (fun _ => True) l' t Ap m cp path w4 TS4.it HP4.it (fun _ _ => trivial)).mono ?_
        intro e w5 hq
        obtain ⟨A9, n9, c9, rfl, hr9⟩ := hq.1 HO3.it
        have hb5 := hq.2.2
        have BW5 : Kp (Below w.heap.size w w5) := ⟨BW4.it.trans (hb5.mono BW4.it.size)⟩
        obtain ⟨us, hus⟩ : ∃ us, us = partsU ka kb path l' := ⟨_, rfl⟩
        rw [← hus] at hr9
        obtain rfl : n9 = 16 := by rw [← hr9.len, hus, partsU_len]
        have HUL : Kp (us.length = 16) := ⟨hr9.len⟩
        have HUS : Kp (∀ d u, us[d]? = some u → kid ka kb m d L = [] → u = 0) := ⟨fun d u hu hk => by
          rw [hus] at hu
          unfold partsU at hu
          have hd16 : d < 16 := by have := (List.getElem?_eq_some_iff.1 hu).1; simpa using this
          rw [List.getElem?_map, List.getElem?_range hd16, HPL.it, ← HLL.it, Option.map_some, hk, digU_nil] at hu
          simpa using hu.symm⟩
        have R9 := Kp.mk hr9
        have R8' := Kp.mk (R8.it.below hb5)
        have TS5 := Kp.mk (TS4.it.below hb5)
        have HP5 := Kp.mk (HP4.it.below hb5)
        have h16 : ((16 : Int) != 16) = false := by decide
        have hq16 : (((16 : Nat) : Int) != 16) = false := by decide
        clear hq hr9 hb5 hus TS4 HP4 R8
        have HKS : Kp (∀ d, d ≤ 16 → ((List.range d).map fun i => (kid ka kb m i L).length).sum ≤ L.length) := ⟨fun d hd => by
          have h1 := kids_sum ka kb m L
          rw [← h1, show (16 : Nat) = d + (16 - d) by omega, List.range_add, List.map_append, List.sum_append]
          omega⟩
        go_wp2
        go_loopw [12, 53] (fun s i wr => ∃ (d q : Nat), d ≤ 16 ∧ i = .int .i64 d ∧ s = .int .i64 q ∧ Kp (q = ((List.range d).map fun i => (kid ka kb m i L).length).sum) ∧ Kp (Below w5.heap.size w5 wr)) (fun _ i _ => 16 - (intOf i).toNat)
        case atStart => exact ⟨0, 0, by omega, rfl, rfl, ⟨rfl⟩, ⟨Below.refl _ _⟩⟩
        case round =>
          obtain ⟨d, q, hd16, rfl, rfl, HQ, HB⟩ := hrel
          by_cases hdn : d < 16
          · have hd : decide ((d : Int) < 16) = true := by simp; omega
            have hdz : (d : Int) < 16 := by omega
            obtain ⟨wo, rfl⟩ : ∃ wo : World, wo = wr := ⟨_, rfl⟩
            go_wp2_with fail
            go_at_call 43
            refine (clonei_any Ap m cp path wo (HP5.it.below HB.it) HNL.it (by omega)).mono ?_
            rintro e w6 ⟨v6, rfl, ho6, hb6⟩
            have O6 := Kp.mk ho6
            have B6 := Kp.mk hb6
            have Z6 := Kp.mk hb6.size
            have HN6 : Kp (path.length + 1 ≤ 17592186044416) := ⟨by rw [HPL.it]; omega⟩
            have HLL6 : Kp ((path ++ [(d : Int)]).length = m + 1) := ⟨by rw [List.length_append, HPL.it]; rfl⟩
            clear ho6 hb6
            go_wp2_with (first
              | (refine app_own rfl (.tmp 59) (.tmp 61) rfl wo.heap.size v6 _ (d : Int) rfl rfl O6.it Z6.it HN6.it ?_; intro v7 w7 ho7 hg7 _; obtain ⟨A7, c7, hv7, hn7, _, _, hr7⟩ := ho7.form3 (by rw [HLL6.it]; omega); rw [HLL6.it] at hv7 hr7; subst hv7; have R7 := Kp.mk hr7; have B7 := Kp.mk (below_own B6.it Z6.it O6.it (Nat.le_refl _) hg7); clear ho7 hg7 hr7 hn7)
              | fail)
            have B7' : Kp (Below w5.heap.size w5 w7) := ⟨HB.it.trans (B7.it.mono HB.it.size)⟩
            go_at_call 34
            refine (pairs_any ka kb (fun _ => True) l' t A7 (m + 1) c7 _ w7 (TS5.it.below B7'.it) R7.it (fun _ _ => trivial) HR1.it HL1.it).mono ?_
            intro e w8 hq
            obtain ⟨A14, n14, c14, rfl, ho14⟩ := hq.1 (okP_snoc HO4.it (by rw [HPL.it]; omega) hdn)
            have hb8 := hq.2.2
            rw [inP_snoc, HPL.it, ← HLL.it] at ho14
            obtain ⟨K, hK⟩ : ∃ K, K = kid ka kb m d L := ⟨_, rfl⟩
            rw [← hK] at ho14
            have HKE : Kp (K.length ≤ 1000) := ⟨by rw [hK]; exact Nat.le_trans (kid_le _ _ _ _ _) HLE.it⟩
            have HKM : Kp (∀ p ∈ K, p ∈ L) := ⟨fun p hp => by rw [hK] at hp; exact (List.mem_filter.1 hp).1⟩
            obtain ⟨A', c', hv, _, _, hr14⟩ := ho14.form (by have := HKE.it; omega)
            injection hv with hA hn14 hc
            subst hA
            subst hc
            rw [← hn14] at hr14
            have R14 := Kp.mk hr14
            have hn141 : n14 ≤ 1000 := by rw [hn14]; exact HKE.it
            have B8 : Kp (Below w5.heap.size w5 w8) := ⟨B7'.it.trans (hb8.mono B7'.it.size)⟩
            have HQ2 : Kp (q + n14 = ((List.range (d + 1)).map fun i => (kid ka kb m i L).length).sum) := ⟨by
              rw [List.range_succ, List.map_append, List.sum_append, HQ.it, hn14, hK]
              simp⟩
            have hqn : q + n14 ≤ 1000 := by have h1 := HQ2.it; have h2 := HKS.it (d + 1) (by omega); have h3 := HLE.it; omega
            obtain ⟨u, hu⟩ : ∃ u, us[d]? = some u := ⟨_, List.getElem?_eq_getElem (by rw [HUL.it]; exact hdn)⟩
            obtain ⟨b9, o9, hA9, l9, f9⟩ := (R9.it.below B8.it).get hu
            subst hA9
            have HU0 : Kp (n14 = 0 → (u.toNat : Int) = 0) := ⟨fun h0 => by
              rw [HUS.it d u hu (by rw [← hK]; exact List.eq_nil_of_length_eq_zero (by rw [← hn14, h0]))]
              rfl⟩
            obtain ⟨uz, huz⟩ : ∃ uz : Int, uz = (u.toNat : Int) := ⟨_, rfl⟩
            rw [← huz] at f9 HU0
            have HSTEP : Kp (d + 1 ≤ 16) := ⟨hdn⟩
            clear hq ho14 hr14 hb8 hK hn14 hu huz O6 B6 Z6 R7 B7 B7'
            rcases Nat.eq_zero_or_pos n14 with h0 | h0
            · subst h0
              obtain rfl := HU0.it rfl
              have hz0 : ((0 : Int) != 0) = false := by decide
              have hz1 : (((0 : Nat) : Int) == 0) = true := by decide
              clear HU0
              go_wp2
              go_loopw [86] (fun i wx => i = .int .i64 0 ∧ wx = w8) (fun _ _ => 0)
              case atStart => exact ⟨rfl, rfl⟩
              case round =>
                obtain ⟨rfl, rfl⟩ := hrel
                have hdd : decide ((0 : Int) < 0) = false := by decide
                go_wp2
                go_roundw
                case rel => exact ⟨d + 1, q, HSTEP.it, by go_num, by go_num, ⟨by have := HQ2.it; omega⟩, B8⟩
                case measure => simp [intOf]; omega
            · have hz1 : ((n14 : Int) == 0) = false := by rw [beq_eq_false_iff_ne]; omega
              have hz0 : ((0 : Int) != 0) = false := by decide
              clear HU0
              go_wp2
              go_loopw [86] (fun i wx => ∃ k : Nat, k ≤ n14 ∧ i = .int .i64 k ∧ Kp (Below w5.heap.size w5 wx) ∧ Kp (Below w8.heap.size w8 wx)) (fun i _ => n14 - (intOf i).toNat)
              case atStart => exact ⟨0, by omega, rfl, B8, ⟨Below.refl _ _⟩⟩
              case round =>
                clear f9 l9
                obtain ⟨k, hk, rfl, B9, B9'⟩ := hrel
                by_cases hkn : k < n14
                · have hdk : decide ((k : Int) < (n14 : Int)) = true := by simp; omega
                  obtain ⟨x, hx⟩ : ∃ x, K[k]? = some x := ⟨_, List.getElem?_eq_getElem (by rw [R14.it.len]; exact hkn)⟩
                  obtain ⟨b1, o1, hA1, _, hl1, f0, f1⟩ := (R14.it.below B9'.it).get hx
                  cases hA1
                  have HXM : Kp (x ∈ L) := ⟨HKM.it x (List.mem_of_getElem? hx)⟩
                  clear hx
                  go_upto_region 20 with fail
                  refine wp_on (fun wz => wz.heap[wr.heap.size]? = some (.cells #[.string x.1, .string x.2] 43 (0, 0)) ∧ Below wr.heap.size wr wz) (pr_new wr x) (fun wy h4 => ?_)
                  obtain ⟨h4, hb4⟩ := h4
                  have By := Kp.mk (B9.it.trans (hb4.mono B9.it.size))
                  have By' := Kp.mk (B9'.it.trans (hb4.mono B9'.it.size))
                  have g0 : wy.cell? ⟨wr.heap.size, 0, none⟩ = some (.string x.1) := blk_cell h4 rfl
                  have g1 : wy.cell? ⟨wr.heap.size, 1, none⟩ = some (.string x.2) := blk_cell h4 rfl
                  have hlt4 := (Array.getElem?_eq_some_iff.1 h4).1
                  clear h4 hb4 f0 f1
                  go_wp2_with fail
                  go_at_call 44
                  refine (contains_yes A8 n8 c8 L x wy _ (R8'.it.below By.it) HXM.it hn81).mono ?_
                  rintro e wz ⟨rfl, hbz⟩
                  have Bz := Kp.mk (By.it.trans (hbz.mono By.it.size))
                  have Bz' := Kp.mk (By'.it.trans (hbz.mono By'.it.size))
                  clear hbz g0 g1 hlt4
                  go_wp2
                  go_roundw
                  case rel => exact ⟨k + 1, by omega, by go_num, Bz, Bz'⟩
                  case measure => simp [intOf]; omega
                · obtain rfl : k = n14 := by omega
                  have hdk : decide ((k : Int) < (k : Int)) = false := by simp
                  go_wp2
                  go_roundw
                  case rel => exact ⟨d + 1, q + k, HSTEP.it, by go_num, by go_num, HQ2, B9⟩
                  case measure => simp [intOf]; omega
          · obtain rfl : d = 16 := by omega
            have hd : decide (((16 : Nat) : Int) < 16) = false := by decide
            obtain rfl : q = n8 := by rw [HQ.it, HN8.it]; exact kids_sum ka kb m L
            have hqq : ((q : Int) == (q : Int)) = true := by simp
            have BWx : Kp (Below w.heap.size w wr) := ⟨BW5.it.trans (HB.it.mono BW5.it.size)⟩
            go_wp2_with (go_at_call 12; refine (awake_any _).mono ?_; rintro e w' ⟨rfl, hb'⟩)
            go_ret
            exact ⟨rfl, BWx.it.trans (hb'.mono BWx.it.size)⟩

set_option linter.unusedVariables false in
set_option maxRecDepth 100000 in
theorem digestWhole_lifted (os : Os) (started : os.Started) (H : Type) (enc : TypeId × Value → H) :
    ReturnsInHanded {} Try.checked os 10 .any (Rows.digestWholeSpec.pre6 enc Try.prog Try.f10 Rows.digestWholeRow.domain false) (Rows.digestWholeSpec.post enc Try.prog Try.f10 false true false false) := by
  refine returnsInHanded_of_change_sized (C := Try.checked) (by kernel_rfl) started (by kernel_rfl) Try.func10
    (ChangeSpec.witness6 (enc := enc) (C := Try.checked) false ⟨#[], #[.agg #[.int .u64 0, .int .u64 0], .slice none 0 0, .slice none 0 0], []⟩ 8 (by kernel_rfl) (by kernel_rfl) (by kernel_rfl) (by kernel_rfl)) ?_
  intro W base args ds gs before hval0 hW hcnd hsz0 _
  have hval : ∀ (j : Nat) t v, Try.f10.params[j]? = some t → args[j]? = some v → Value.okWide Try.prog W .any base t v := hval0
  have hW' := hW
  obtain ⟨p, q, hA0, hV, rfl, hfz, hnd⟩ := hW
  have hA : DataW.TrodAll enc Try.prog W 0 (fun _ => true) true Try.f10.params.toList args.toList ds p := hA0
  have hsz : (DataW.weightsEach Try.prog (Try.f10.params.toList ++ Rows.digestWholeSpec.plain.varTypes Try.prog) (ds ++ gs)).all (· ≤ reachBytes) = true := hsz0
  rw [Try.params10] at hA hval hsz
  obtain ⟨v0, vs0, d0, ds0, p0, q0, hargs, rfl, rfl, h0, r0⟩ := trodAll_cons hA
  obtain ⟨v1, vs1, d1, ds1, p1, q1, rfl, rfl, rfl, h1, r1⟩ := trodAll_cons r0
  obtain ⟨v2, vs2, d2, ds2, p2, q2, rfl, rfl, rfl, h2, r2⟩ := trodAll_cons r1
  obtain ⟨rfl, rfl, rfl⟩ := trodAll_nil r2
  obtain rfl : args = #[v0, v1, v2] := by cases args; simp_all
  obtain ⟨rfl, rfl⟩ := trodVars_none hV
  have k0 := h0
  have lt0 : ∀ x ∈ p0, x.block < W.heap.size := by obtain ⟨m, hm⟩ := k0; exact DataW.trod_lt m _ _ _ hm
  obtain ⟨ka0, kb0, rfl⟩ := seed_open (hval 0 24 v0 rfl rfl) h0
  have k1 := h1
  have lt1 : ∀ x ∈ p1, x.block < W.heap.size := by obtain ⟨m, hm⟩ := k1; exact DataW.trod_lt m _ _ _ hm
  obtain ⟨A1, n1, c1, ks1, rfl, ra1, ea1, bd1, nc1, bs1⟩ := prs_open (hval 1 25 v1 rfl rfl) h1 (fun x hx => by simpa using List.all_eq_true.1 hsz x (DataW.weights_mem_each (j := 1) (t := 25) rfl rfl x hx))
  have k2 := h2
  have lt2 : ∀ x ∈ p2, x.block < W.heap.size := by obtain ⟨m, hm⟩ := k2; exact DataW.trod_lt m _ _ _ hm
  obtain ⟨A2, n2, c2, xs2, rfl, ra2, ea2, nc2⟩ := ints_open (hval 2 62 v2 rfl rfl) h2 (fun x hx => by simpa using List.all_eq_true.1 hsz x (DataW.weights_mem_each (j := 2) (t := 62) rfl rfl x hx))
  clear hA0 hval0 hsz hsz0
  refine (whole_walk ka0 kb0 A1 n1 c1 ks1 A2 n2 c2 xs2 W ra1 bs1 ra2 ea2).mono fun e W' ⟨he, bel⟩ => ?_
  subst he
  exact ⟨_, rfl, _, _, _, [], _, [], hW', trodAll_mk1 (shut_bool Try.underlying4 _), (trodAll_cons_mk (Below.trod (by kernel_rfl) (by kernel_rfl) (of_decide_eq_true (by kernel_rfl)) k0 bel lt0) (trodAll_cons_mk (Below.trod (by kernel_rfl) (by kernel_rfl) (of_decide_eq_true (by kernel_rfl)) k1 bel lt1) (trodAll_cons_mk (Below.trod (by kernel_rfl) (by kernel_rfl) (of_decide_eq_true (by kernel_rfl)) k2 bel lt2) trodAll_mk0))), rfl, bel.frame _, fun h => by cases h⟩

theorem DigestWhole_holds : Rows.DigestWholeSaid :=
  OpenClaim.holds_of_wide 10 Try.f10 rfl rfl rfl rfl rfl rfl rfl ⟨rfl, rfl, rfl, rfl, rfl⟩ rfl rfl rfl rfl rfl (by kernel_rfl) Try.func10 (by kernel_rfl)
    (of_decide_eq_true (by kernel_rfl)) (by unfold Func.isWrapper; first | (rw [if_pos (by decide +kernel)]; kernel_rfl) | (rw [if_neg (by decide +kernel)]; exact ⟨rfl, rfl⟩))
    (fun os started H enc _ => digestWhole_lifted os started H enc)
end Go.Proofs.Ytcmkjoepndbicaa
