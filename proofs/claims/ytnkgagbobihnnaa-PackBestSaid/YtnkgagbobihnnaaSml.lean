/-
  A block packed: the program's small.
-/
import Derived.Test.YtnkgagbobihnnaaSma
import Derived.Test.YtnkgagbobihnnaaTur
import Derived.Test.YtnkgagbobihnnaaLgt
namespace Go.Proofs.Ytnkgagbobihnnaa
open Go Go.RowKit
attribute [local go_sem ↓] Go.wp_at_zero Go.wp_at_succ

theorem WX.drew {w0 : World} {b0 : Option Nat} {p base : Nat} {w : World} {bs : List Nat} (h : WX w0 b0 p base w bs) : WX w0 b0 p base w.drew bs := by
  obtain ⟨h1, A, n, c, h2⟩ := h
  exact ⟨h1, A, n, c, ⟨h2.blk, h2.len, h2.own, h2.row, h2.pb, h2.os, h2.tape, h2.output, h2.size, h2.bs0, h2.same⟩⟩
theorem codeB_len {sg ls cs : List Int} (h : ∀ j, j < 258 → 0 ≤ rd ls j ∧ rd ls j ≤ 31) (hs : ∀ k, k < sg.length → sgn sg k < 258) : ∀ k, k ≤ sg.length → (codeB sg ls cs k).length ≤ 31 * k
  | 0, _ => by simp [codeB]
  | k + 1, hk => by
    have ih := codeB_len (cs := cs) h hs k (by omega)
    have := h (sgn sg k) (hs k (by omega))
    rw [codeB_succ, List.length_append, dg_len]
    omega
theorem lensB_len {ls : List Int} (h : ls.length = 258) : (lensB ls).length ≤ 2000 := by
  unfold lensB
  have h1 := eachB_len ls 17
  have h2 := longB_len ls ls.length (Nat.le_refl _)
  rw [List.length_append, List.length_append, hasB_len]
  omega
theorem cnt_start (sg : List Int) : tab 258 (cnS sg 0) = List.replicate 258 0 := tab_zero 258 _ (fun _ => rfl)
set_option maxRecDepth 100000 in
set_option maxHeartbeats 8000000 in
theorem small_any (A : Option Addr) (n c : Nat) (bs : List UInt8) (w : World) (h : Rb w A n bs) (hn : n ≤ 5000) :
    Calls Try.prog 64 #[.slice A n c] w fun e w' => ∃ v, e = .returned v ∧ OwnB w' w.heap.size v (smallP bs) ∧ Below w.heap.size w w' := by
  have HL := Kp.mk h.len
  have HT := Kp.mk (turn_any A n c bs w h (by omega))
  have hsl := signsP_len bs
  have HSL : Kp ((signsP bs).length ≤ 5001) := ⟨by have := h.len; omega⟩
  have HSG := Kp.mk (signsP_lt bs)
  have HW := Kp.mk (wts_ok (fun k hk => (signsP_lt bs k hk).1) (by have := HSL.it; omega))
  have HB0 : Kp (Below w.heap.size w w) := ⟨Below.refl _ _⟩
  clear h hsl
  go_enter Try.func64, Try.ntmps64
  go_wp2_with fail
  refine HT.it.mono ?_
  rintro e w1 ⟨v1, rfl, ho1, hb1⟩
  obtain ⟨A1, c1, hv1, _, _, hr1⟩ := ho1.form (by rw [turnP_len]; have := HL.it; omega)
  rw [turnP_len, HL.it] at hv1 hr1
  subst hv1
  have HF := Kp.mk (Front_any A1 n c1 _ w1 hr1 (by omega))
  have B1 := Kp.mk hb1
  clear ho1 hb1 hr1 HT
  go_wp2_with fail
  refine HF.it.mono ?_
  rintro e w2 ⟨v2, rfl, ho2, hb2⟩
  obtain ⟨A2, c2, hv2, _, _, hr2⟩ := ho2.form (by rw [frontP_len, turnP_len]; have := HL.it; omega)
  rw [frontP_len, turnP_len, HL.it] at hv2 hr2
  subst hv2
  have HR := Kp.mk (runs_any A2 n c2 _ w2 hr2 (by omega))
  have B2 : Kp (Below w.heap.size w w2) := ⟨B1.it.trans (hb2.mono B1.it.size)⟩
  clear ho2 hb2 hr2 HF B1
  go_wp2_with fail
  refine HR.it.mono ?_
  rintro e w3 ⟨v3, rfl, ho3, hb3⟩
  have ho3' : Own w3 w2.heap.size v3 (signsP bs) := ho3
  obtain ⟨A3, c3, hv3, _, _, _, hr3⟩ := ho3'.form3 (by have := HSL.it; omega)
  have B3 : Kp (Below w.heap.size w w3) := ⟨B2.it.trans (hb3.mono B2.it.size)⟩
  obtain ⟨m, hm⟩ : ∃ m, m = (signsP bs).length := ⟨_, rfl⟩
  rw [← hm] at hv3 hr3
  have HM := Kp.mk hm
  have hmb : m ≤ 5001 := by rw [hm]; exact HSL.it
  subst hv3
  clear ho3 ho3' hb3 HR B2 hm
  have hmk := make_ints 258 (by omega)
  simp only [Int.cast_ofNat_Int] at hmk
  have S4 : Kp (Rd (w3.alloc (.cells (zrow 258) 3)) A3 m (signsP bs)) := ⟨hr3.below ((Below.refl _ _).alloc (Nat.le_refl _) _)⟩
  have B4 : Kp (Below w.heap.size w (w3.alloc (.cells (zrow 258) 3))) := ⟨B3.it.alloc B3.it.size _⟩
  have Z4 : Kp (Blk (w3.alloc (.cells (zrow 258) 3)) w3.heap.size (List.replicate 258 0)) := ⟨blk_zrow w3 258⟩
  have R3 : Kp (Rd w3 A3 m (signsP bs)) := ⟨hr3⟩
  obtain ⟨G, hG⟩ : ∃ G, G = w3.heap.size := ⟨_, rfl⟩
  have HG := Kp.mk hG
  have HGW : Kp (w.heap.size ≤ G) := ⟨by rw [hG]; exact B3.it.size⟩
  have BG : Kp (Below w3.heap.size w3 (w3.alloc (.cells (zrow 258) 3))) := ⟨(Below.refl _ _).alloc (Nat.le_refl _) _⟩
  rw [← hG] at Z4 BG
  clear hr3
  go_wp2
  rw [← hG]
  clear hG hmk
  generalize w3.alloc (.cells (zrow 258) 3) = w4 at S4 B4 Z4 BG ⊢
  go_loopw [27] (fun i wr => ∃ k : Nat, k ≤ m ∧ i = .int .i64 k ∧ Kp (Blk wr G (tab 258 (cnS (signsP bs) k))) ∧ Kp (Below w.heap.size w wr) ∧ Kp (Below G w3 wr)) (fun i _ => m - (intOf i).toNat)
  case atStart => exact ⟨0, by omega, rfl, ⟨by rw [cnt_start]; exact Z4.it⟩, B4, BG⟩
  case round =>
    clear Z4 B4 BG S4
    obtain ⟨k, hk, rfl, HK, HB, HBG⟩ := hrel
    have HRD : Kp (Rd wr A3 m (signsP bs)) := ⟨R3.it.below (by rw [← HG.it]; exact HBG.it)⟩
    by_cases hkm : k < m
    · have hd : decide ((k : Int) < (m : Int)) = true := by simp; omega
      obtain ⟨b, o, hA, hlt, hcell⟩ := HRD.it.get hkm
      cases hA
      obtain ⟨hs1, hs2⟩ := HSG.it k (by rw [← HM.it]; exact hkm)
      rw [hs2] at hcell
      have hcn : ∀ y, cnS (signsP bs) (k + 1) y = cnS (signsP bs) k y + if y = sgn (signsP bs) k then 1 else 0 := fun y => rfl
      have HCN := Kp.mk hcn
      obtain ⟨s, hs⟩ : ∃ s, s = sgn (signsP bs) k := ⟨_, rfl⟩
      rw [← hs] at hs1 hcell HCN
      have hcg := HK.it.cell (j := s) (by rw [tab_len]; exact hs1)
      rw [tab_rd _ hs1] at hcg
      have hfz := HK.it.free s
      have hcb := cnS_le (signsP bs) s k
      have HK2 : Kp (Blk (wr.setCell ⟨G, s, none⟩ (.int .i64 ((cnS (signsP bs) k s + 1 : Nat) : Int))) G (tab 258 (cnS (signsP bs) (k + 1)))) := ⟨by
        have h9 := HK.it.store s ((cnS (signsP bs) k s + 1 : Nat) : Int)
        rw [tab_set _ (cnS (signsP bs) (k + 1)) s _ (by rw [HCN.it, if_pos rfl]) (fun y hy => by rw [HCN.it, if_neg hy, Nat.add_zero])] at h9
        exact h9⟩
      obtain ⟨q, hq⟩ : ∃ q, q = cnS (signsP bs) k s := ⟨_, rfl⟩
      rw [← hq] at hcg hcb HK2
      rw [show ((q + 1 : Nat) : Int) = (q : Int) + 1 by omega] at HK2
      have hs3 : (s : Int) < 258 := by omega
      clear hs hs2 hcn hq hlt
      go_wp2
      go_roundw
      case rel => exact ⟨k + 1, by omega, by go_num, HK2, ⟨HB.it.setCell HGW.it _⟩, ⟨HBG.it.setCell (Nat.le_refl _) _⟩⟩
      case measure => simp [intOf]; omega
    · obtain rfl : m = k := by omega
      have hd : decide ((m : Int) < (m : Int)) = false := by simp
      have HWB : Kp (Blk wr G (cntW (signsP bs))) := ⟨by unfold cntW; rw [← HM.it]; exact HK.it⟩
      have HLC : Kp (Calls Try.prog 19 #[.slice (some ⟨G, 0, none⟩) 258 258] wr fun e w' => ∃ v, e = .returned (.tuple #[v, .int .i64 0]) ∧ Own w' wr.heap.size v (lengthsN (cntW (signsP bs))) ∧ Below wr.heap.size wr w') := ⟨by
        have h9 := HWB.it.rd (by unfold cntW; rw [tab_len]; omega)
        have e9 : (cntW (signsP bs)).length = 258 := tab_len _ _
        rw [e9] at h9
        have h8 := lengths_any _ 258 258 _ wr h9 (by omega)
        rw [HW.it.ok] at h8
        exact h8⟩
      clear HK HWB
      go_wp2_with fail
      refine HLC.it.mono ?_
      rintro e w5 ⟨v5, rfl, ho5, hb5⟩
      obtain ⟨A5, c5, hv5, _, hlc5, hc5, hr5⟩ := ho5.form3 (by rw [HW.it.len]; omega)
      rw [HW.it.len] at hv5 hr5 hlc5
      subst hv5
      obtain ⟨b5, o5, e5, hb5l, _⟩ := hr5.get (k := 0) (by omega)
      subst e5
      have R5 := Kp.mk hr5
      have S5 : Kp (Rd w5 A3 m (signsP bs)) := ⟨HRD.it.below hb5⟩
      have B5 : Kp (Below w.heap.size w w5) := ⟨HB.it.trans (hb5.mono HB.it.size)⟩
      have HCC := Kp.mk (codes_any (some ⟨b5, o5, none⟩) 258 c5 _ w5 hr5 (by omega))
      obtain ⟨O, hO1, hO2⟩ := HW.it.cod
      rw [hO1] at HCC
      have HO1 := Kp.mk hO1
      have HO2 := Kp.mk hO2
      have HLC5 : Kp (258 ≤ c5 ∧ c5 < 9223372036854775808) := ⟨⟨hlc5, hc5⟩⟩
      have HB5L := Kp.mk hb5l
      clear ho5 hb5 hr5 hlc5 hc5 HLC HB HBG HRD hO1 hO2 hb5l
      go_wp2_with fail
      refine HCC.it.mono ?_
      rintro e w6 ⟨v6, rfl, ho6, hb6⟩
      obtain ⟨A6, c6, hv6, _, _, _, hr6⟩ := ho6.form3 (by rw [HO2.it.1]; omega)
      rw [HO2.it.1] at hv6 hr6
      subst hv6
      have hb7 : Below w6.heap.size w6 (w6.alloc (.cells #[.slice none 0 0, .int .i64 0] 103)) := (Below.refl _ _).alloc (Nat.le_refl _) _
      have R6 : Kp (Rd (w6.alloc (.cells #[.slice none 0 0, .int .i64 0] 103)) A6 258 O) := ⟨hr6.below hb7⟩
      have R7 : Kp (Rd (w6.alloc (.cells #[.slice none 0 0, .int .i64 0] 103)) (some ⟨b5, o5, none⟩) 258 (lengthsN (cntW (signsP bs)))) := ⟨(R5.it.below hb6).below hb7⟩
      have S7 : Kp (Rd (w6.alloc (.cells #[.slice none 0 0, .int .i64 0] 103)) A3 m (signsP bs)) := ⟨(S5.it.below hb6).below hb7⟩
      have B7 : Kp (Below w.heap.size w (w6.alloc (.cells #[.slice none 0 0, .int .i64 0] 103))) := ⟨(B5.it.trans (hb6.mono B5.it.size)).alloc (Nat.le_trans B5.it.size hb6.size) _⟩
      obtain ⟨p, hp⟩ : ∃ p, p = w6.heap.size := ⟨_, rfl⟩
      have HPW : Kp (w.heap.size ≤ p) := ⟨by rw [hp]; exact Nat.le_trans B5.it.size hb6.size⟩
      have HPB : Kp (b5 < p ∧ (∀ b o, A6 = some ⟨b, o, none⟩ → b < p) ∧ (∀ b o, A3 = some ⟨b, o, none⟩ → 0 < m → b < p)) := ⟨by
        rw [hp]
        refine ⟨Nat.lt_of_lt_of_le HB5L.it hb6.size, fun b o e => ?_, fun b o e h0 => ?_⟩
        · obtain ⟨b', o', e', hl, _⟩ := hr6.get (k := 0) (by omega)
          rw [e] at e'; cases e'; exact hl
        · obtain ⟨b', o', e', hl, _⟩ := S5.it.get (k := 0) h0
          rw [e] at e'; cases e'; exact Nat.lt_of_lt_of_le hl hb6.size⟩
      have X7 : Kp (WX (w6.alloc (.cells #[.slice none 0 0, .int .i64 0] 103)) none p (p + 1) (w6.alloc (.cells #[.slice none 0 0, .int .i64 0] 103)) []) := ⟨by
        rw [hp]
        exact ⟨(fun d hd => (by cases hd)), none, 0, 0, ⟨blk_new _ _, rfl, OwnB.nil _ _, .inl rfl, Nat.lt_succ_self _, rfl, rfl, rfl, Nat.le_refl _, by simp, fun _ _ _ _ => rfl⟩⟩⟩
      clear ho6 hb6 hr6 hb7 HCC R5 S5 B5 HB5L
      go_wp2_with fail
      rw [← hp]
      clear hp
      generalize w6.alloc (.cells #[.slice none 0 0, .int .i64 0] 103) = w7 at R6 R7 S7 B7 X7 ⊢
      have HRL : Kp ((turnP bs).2 ≤ 5000) := ⟨by
        have h9 := rowL_le (tl bs) 0 0
        have h8 := (tl_is bs).len
        have h7 := HL.it
        show rowL (tl bs) 0 0 ≤ 5000
        omega⟩
      have HC8 := Kp.mk (bits_any X7.it (turnP bs).2 12 (by have := HRL.it; omega) (by omega) (by simp))
      refine HC8.it.mono ?_
      rintro e w8 ⟨rfl, hx8⟩
      rw [List.nil_append] at hx8
      obtain ⟨hbit8, A8, n8, c8, hS8⟩ := hx8
      have HS8 := Kp.mk hS8
      have RS8 : Kp (Rd w8 (some ⟨b5, o5, none⟩) 258 (lengthsN (cntW (signsP bs)))) := ⟨hS8.rd R7.it (by have := HPB.it.1; omega) (by simp)⟩
      have HC9 := Kp.mk (lens_any hbit8 hS8 b5 o5 258 c5 (lengthsN (cntW (signsP bs))) RS8.it (by have := HPB.it.1; omega) (by
        rcases hS8.row with hr | ⟨b, hr, hb⟩
        · rw [hr]; simp
        · rw [hr]; intro e; injection e with e
          obtain ⟨b', o', e', hl, _⟩ := R7.it.get (k := 0) (by omega)
          cases e'; omega) (by omega) (by omega) HLC5.it.1 HLC5.it.2 (HW.it.rng) (by rw [dg_len]; omega))
      clear hbit8 hS8 RS8 HC8
      go_wp2_with fail
      refine HC9.it.mono ?_
      rintro e w9 ⟨rfl, hx9⟩
      have X9 : Kp (WX w7 none p (p + 1) w9 (dg (turnP bs).2 12 ++ lensB (lengthsN (cntW (signsP bs))) ++ codeB (signsP bs) (lengthsN (cntW (signsP bs))) O 0)) := ⟨by
        show WX w7 none p (p + 1) w9 (dg (turnP bs).2 12 ++ lensB (lengthsN (cntW (signsP bs))) ++ [])
        rw [List.append_nil]; exact hx9⟩
      clear hx9 HC9 HS8
      have HLB := Kp.mk (lensB_len HW.it.len)
      go_wp2
      go_loopw [54] (fun i wr => ∃ k : Nat, k ≤ m ∧ i = .int .i64 k ∧ Kp (WX w7 none p (p + 1) wr (dg (turnP bs).2 12 ++ lensB (lengthsN (cntW (signsP bs))) ++ codeB (signsP bs) (lengthsN (cntW (signsP bs))) O k))) (fun i _ => m - (intOf i).toNat)
      case atStart => exact ⟨0, by omega, rfl, X9⟩
      case round =>
        clear X9
        obtain ⟨k, hk, rfl, HX⟩ := hrel
        by_cases hkm : k < m
        · have hd2 : decide ((k : Int) < (m : Int)) = true := by simp; omega
          obtain ⟨_, A10, n10, c10, hS10⟩ := HX.it
          obtain ⟨hs1, hs2⟩ := HSG.it k (by rw [← HM.it]; exact hkm)
          obtain ⟨bA, oA, eA, hlA, hcA⟩ := S7.it.get hkm
          have hcs := (hS10.rd (by rw [← eA]; exact S7.it) (by have := HPB.it.2.2 bA oA eA (by omega); omega) (by simp)).get hkm
          obtain ⟨bA', oA', eA', _, hcs⟩ := hcs
          cases eA'
          rw [hs2] at hcs
          obtain ⟨s, hs⟩ : ∃ s, s = sgn (signsP bs) k := ⟨_, rfl⟩
          rw [← hs] at hs1 hcs
          obtain ⟨bO, oO, eO, hlO, hcO⟩ := R6.it.get hs1
          have hco := (hS10.rd (by rw [← eO]; exact R6.it) (by have := HPB.it.2.1 bO oO eO; omega) (by simp)).get hs1
          obtain ⟨bO', oO', eO', _, hco⟩ := hco
          cases eO'
          have hcl := (hS10.rd R7.it (by have := HPB.it.1; omega) (by simp)).get hs1
          obtain ⟨bL', oL', eL', _, hcl⟩ := hcl
          cases eL'
          have hgo := HO2.it.2 s hs1
          have hgl := HW.it.rng s hs1
          have HCB := Kp.mk (codeB_succ (signsP bs) (lengthsN (cntW (signsP bs))) O k)
          rw [← hs] at HCB
          obtain ⟨cv, hcv⟩ : ∃ cv : Nat, rd O s = (cv : Int) := ⟨(rd O s).toNat, by omega⟩
          obtain ⟨lv, hlv⟩ : ∃ lv : Nat, rd (lengthsN (cntW (signsP bs))) s = (lv : Int) := ⟨(rd (lengthsN (cntW (signsP bs))) s).toNat, by omega⟩
          rw [hcv] at hco hgo
          rw [hlv] at hcl hgl
          rw [hcv, hlv, Int.toNat_natCast, Int.toNat_natCast] at HCB
          have HC10 := Kp.mk (bits_any HX.it.drew cv lv (by omega) (by omega) (by
            rw [List.length_append, List.length_append, dg_len]
            have h1 := HLB.it
            have h2 := codeB_len (cs := O) HW.it.rng (fun k hk => (HSG.it k hk).1) k (by rw [← HM.it]; omega)
            omega))
          rw [List.append_assoc _ (codeB (signsP bs) (lengthsN (cntW (signsP bs))) O k), ← HCB.it] at HC10
          have hs3 : (s : Int) < 258 := by omega
          subst eA
          subst eO
          clear hs hs2 hcv hlv hgo hgl hlA hcA hlO hcO hS10 HCB
          go_wp2
          go_region_with (go_at_call 94; refine HC10.it.mono ?_; rintro e w11 ⟨rfl, hx11⟩; have X11 := Kp.mk hx11; clear hx11)
          all_goals
            go_wp2
            go_roundw
            case rel => exact ⟨k + 1, by omega, by go_num, X11⟩
            case measure => simp [intOf]; omega
        · obtain rfl : m = k := by omega
          have hd2 : decide ((m : Int) < (m : Int)) = false := by simp
          obtain ⟨_, A10, n10, c10, hS10⟩ := HX.it
          have hcp := hS10.cells.1
          have HF : Kp (OwnB wr w.heap.size (.slice A10 n10 c10) (smallP bs)) := ⟨by
            have h9 := hS10.own.relax (base' := w.heap.size) (by have := HPW.it; omega)
            unfold smallP bitsP
            rw [HO1.it, ← HM.it]
            exact h9⟩
          have HB9 : Kp (Below w.heap.size w wr) := ⟨by
            have hp9 := HPW.it
            exact ⟨hS10.os.trans B7.it.os, hS10.tape.trans B7.it.tape, hS10.output.trans B7.it.output, Nat.le_trans B7.it.size hS10.size, fun i hi => by
              rw [hS10.same i (Nat.lt_of_lt_of_le hi B7.it.size) (by omega) (by simp)]
              exact B7.it.block i hi⟩⟩
          clear hS10
          go_wp2
          go_ret
          exact ⟨_, rfl, HF.it, HB9.it⟩
end Go.Proofs.Ytnkgagbobihnnaa
