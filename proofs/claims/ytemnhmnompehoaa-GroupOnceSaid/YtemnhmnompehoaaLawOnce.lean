/-
  GroupOnce: of one term each part has one owner, who alone may say that it is done; what is done never goes back, and the least of it neither.
-/
import Derived.Test.YtemnhmnompehoaaGMap
import Derived.Test.YtemnhmnompehoaaAwake
namespace Go.Proofs.Ytemnhmnompehoaa
open Go.ChangeShapes Go.WideShapes Go.ChangeAt Go.RowKit

theorem Gs.past2 {w w' : World} {q : Nat} {A2 : Option Addr} {n2 c2 : Nat} {b2 : Bool} {l : List Gv} (h : ∀ x ∈ l, GOk w x) (hq : w.heap[q]? = some (.cells #[.slice A2 n2 c2, .bool b2] 68 (0, 0))) (hg : w.grownBy w' (some q)) : ∀ x ∈ l, GOk w' x := fun x hx => (h x hx).past hq hg

set_option linter.unusedVariables false in
set_option maxRecDepth 100000 in
set_option maxHeartbeats 8000000 in
theorem once_walk (A1 : Option Addr) (n1 c1 : Nat) (ks : List Dv) (w : World) (h1 : RD w A1 n1 ks) :
    Calls Try.prog 7 #[.slice A1 n1 c1] w fun e w' => e = .returned (.bool true) ∧ Below w.heap.size w w' := by
  have hbd := h1.bd
  have H1 := Kp.mk h1
  have HL := Kp.mk h1.len
  have hmm := @run_makeMap Try.prog
  clear h1
  go_enter Try.func7, Try.ntmps7
  go_wp2_with fail
  go_at_call 21
  refine (short_any A1 n1 c1 ks w H1.it).mono ?_
  rintro e wa ⟨b, rfl, hb, rfl⟩
  cases b with
  | false =>
    go_wp2_with (go_at_call 13; refine (awake_any _).mono ?_; rintro e w' ⟨rfl, hb'⟩)
    go_ret
    exact ⟨rfl, hb'⟩
  | true =>
    have hn1 : n1 ≤ 150 := hb rfl
    clear hb
    obtain ⟨w1, hw1⟩ : ∃ w1, w1 = (w.alloc (.cells #[.slice none 0 0, .bool true] 68)).alloc (.map #[] 0) := ⟨_, rfl⟩
    have G0 : Kp (Gs w1 w.heap.size none 0 []) := ⟨by rw [hw1]; exact (gs_new w).below ((Below.refl _ _).alloc (Nat.le_refl _) _)⟩
    have M0 : Kp (GM w1 (w.heap.size + 1) 0 []) := ⟨by rw [hw1]; have := GM.made (w.alloc (.cells #[.slice none 0 0, .bool true] 68)); simpa using this⟩
    have B0 : Kp (Below w.heap.size w w1) := ⟨by rw [hw1]; exact ((Below.refl _ w).alloc (Nat.le_refl _) _).alloc (by simp) _⟩
    go_wp2_with (go_at_call 22; refine (new_any w).mono ?_; rintro e w1' ⟨rfl, rfl⟩)
    rw [← hw1]
    clear hw1
    go_loopw [4, 25] (fun v i wr => ∃ (k : Nat) (A : Option Addr) (c : Nat) (l : List Gv) (Bw N : Nat) (old : List Gv), k ≤ n1 ∧ i = .int .i64 k ∧ v = .map (some Bw) ∧ w.heap.size < Bw ∧ N ≤ 1000 ∧ Kp (Gs wr w.heap.size A c l) ∧ Kp (l.map Gv.x = runS (ks.take k) []) ∧ Kp (GM wr Bw N old) ∧ Kp (old.map Gv.x = runS (ks.take k) []) ∧ Kp (∀ x ∈ old, GOk wr x) ∧ Kp (Below w.heap.size w wr)) (fun _ i _ => n1 - (intOf i).toNat)
    case atStart => exact ⟨0, none, 0, [], w.heap.size + 1, 0, [], by omega, rfl, rfl, by omega, by omega, G0, ⟨rfl⟩, M0, ⟨rfl⟩, ⟨by simp⟩, B0⟩
    case round =>
      clear G0 M0 B0
      obtain ⟨k, A, c, l, Bw, N, old, hk, rfl, rfl, hBw, hN, HG, HM, HW, HO, HK, HB⟩ := hrel
      by_cases hkn : k < n1
      · obtain ⟨d, hd⟩ : ∃ d, ks[k]? = some d := ⟨_, List.getElem?_eq_getElem (by rw [HL.it]; exact hkn)⟩
        obtain ⟨bd, od, hA, hlb, d0, d1, d2, d3, d4, d5, d6, d7⟩ := (H1.it.below HB.it).get hd
        cases hA
        have HD := Kp.mk hd
        have NM : Kp (Names (runS (ks.take k) [])) := ⟨runS_names _ ⟨(fun x hx => by cases hx), List.nodup_nil⟩⟩
        have GD : Kp (Goods (runS (ks.take k) [])) := ⟨runS_good _ (fun x hx => by cases hx)⟩
        obtain ⟨L0, hL0⟩ : ∃ L0, L0 = runS (ks.take k) [] := ⟨_, rfl⟩
        have HL0 := Kp.mk hL0
        rw [← hL0] at HM HO NM GD
        have hsz : w.heap.size < wr.heap.size := by have := HW.it.lt; omega
        have GDl : Kp (Goods (l.map Gv.x)) := ⟨by rw [HM.it]; exact GD.it⟩
        clear hd hL0
        go_wp2_with fail
        go_at_call 23
        refine (does_any (HG.it.below ((Below.refl _ wr).alloc (Nat.le_refl _) _)) GDl.it d).mono ?_
        rintro e w2 ⟨rfl, A2, c2, l2, hg2, hm2, hw2⟩
        obtain ⟨L1, hL1⟩ : ∃ L1, L1 = (stepS d L0).2.2 := ⟨_, rfl⟩
        have HL1 := Kp.mk hL1
        rw [HM.it, ← hL1] at hm2
        have NM1 : Kp (Names L1) := ⟨by rw [hL1]; exact stepS_names NM.it⟩
        have GD1 : Kp (Goods L1) := ⟨by rw [hL1]; exact stepS_good GD.it⟩
        have hpd : (wr.alloc (.cells d.cells 40)).heap[w.heap.size]? = some (.cells #[.slice A l.length c, .bool true] 68 (0, 0)) := (HG.it.below ((Below.refl _ wr).alloc (Nat.le_refl _) _)).cell
        have hbd2 : Below w.heap.size w (wr.alloc (.cells d.cells 40)) := HB.it.alloc (by omega) _
        have B2' : Kp (Below w.heap.size w w2) := ⟨hbd2.grown hw2 hbd2.size (fun q hq => by cases hq; exact Nat.le_refl _)⟩
        have D2 : Kp (w2.heap[wr.heap.size]? = some (.cells d.cells 40 (0, 0))) := ⟨(hw2.block _ (by simp) (by intro e; injection e with e; omega)).trans (blk_new _ _)⟩
        have W2 : Kp (GM w2 Bw N old) := ⟨(HW.it.below ((Below.refl _ wr).alloc (Nat.le_refl _) _)).kept hw2 (by intro e; injection e with e; omega)⟩
        have K2 : Kp (∀ x ∈ old, GOk w2 x) := ⟨fun x hx => ((HK.it x hx).below ((Below.refl _ wr).alloc (Nat.le_refl _) _)).past hpd hw2⟩
        have G2 := Kp.mk hg2
        have M2 := Kp.mk hm2
        have hsz2 : wr.heap.size < w2.heap.size := by have := hw2.size; simp at this; omega
        obtain ⟨w3, hw3⟩ : ∃ w3, w3 = w2.alloc (.map #[] 0) := ⟨_, rfl⟩
        have B23 : Below w2.heap.size w2 w3 := by rw [hw3]; exact (Below.refl _ _).alloc (Nat.le_refl _) _
        have Q3 : Kp (GM w3 w2.heap.size 0 []) := ⟨by rw [hw3]; exact GM.made w2⟩
        have G3 := Kp.mk (G2.it.below B23)
        have B3' := Kp.mk B23
        clear hg2 hm2 hpd hbd2 hw2 hL1 B23
        go_wp2_with fail
        rw [← hw3]
        clear hw3
        go_at_call 33
        refine (list_any G3.it).mono ?_
        rintro e w4 ⟨v4, l3, rfl, ho4, hm4, hf4, hb4⟩
        rw [M2.it] at hm4
        have hll : l3.length ≤ 1000 := by
          have e1 := congrArg List.length hm4
          have e2 := congrArg List.length M2.it
          simp at e1 e2
          have := G3.it.row.bd
          omega
        obtain ⟨A4, c4, rfl, _, hr4⟩ := ho4.form hll
        obtain ⟨m, hm⟩ : ∃ m, m = l3.length := ⟨_, rfl⟩
        have HMm := Kp.mk hm
        rw [← hm] at hr4 hll ⊢
        have R4 := Kp.mk hr4
        have M4 := Kp.mk hm4
        have K4 : Kp (∀ x ∈ l3, GOk w4 x) := ⟨fun x hx => (hf4 x hx).ok (GD1.it _ (by rw [← M4.it]; exact List.mem_map_of_mem hx)).small⟩
        have B4 : Kp (Below w2.heap.size w2 w4) := ⟨B3'.it.trans (hb4.mono B3'.it.size)⟩
        have G4 := Kp.mk (G3.it.below hb4)
        have Q4 := Kp.mk (Q3.it.below hb4)
        have W4 := Kp.mk (W2.it.below B4.it)
        have O4 : Kp (∀ x ∈ old, GOk w4 x) := ⟨fun x hx => (K2.it x hx).below B4.it⟩
        have D4 : Kp (w4.heap[wr.heap.size]? = some (.cells d.cells 40 (0, 0))) := ⟨(B4.it.block _ (by omega)).trans D2.it⟩
        have hsz4 := Q4.it.lt
        have hBw4 := W2.it.lt
        have BB : Kp (Below w.heap.size w w4) := ⟨B2'.it.trans (B4.it.mono (by omega))⟩
        obtain ⟨B2, hB2⟩ : ∃ B2, B2 = w2.heap.size := ⟨_, rfl⟩
        obtain ⟨X6, hX6⟩ : ∃ X6, X6 = wr.heap.size := ⟨_, rfl⟩
        have hB2w : w.heap.size < B2 := by have := G2.it.lt; omega
        have hBwB2 : ¬ Bw = B2 := by omega
        have hX6B2 : ¬ X6 = B2 := by omega
        rw [← hB2] at Q4 hsz4 ⊢
        rw [← hX6] at D4 ⊢
        have MB := Kp.mk Q4.it.blk
        have hX6l : X6 < w4.heap.size := by omega
        clear ho4 hm4 hf4 hb4 hr4 hm hB2 hX6 hlb D2 K2 W2 G2 G3 Q3 B3' B4 B2' HG HW HK hsz2 hBw4 hsz
        go_wp2
        go_loopw [36] (fun i wr => ∃ j : Nat, j ≤ m ∧ i = .int .i64 j ∧ Kp (GM wr B2 j (l3.take j)) ∧ Kp (w4.grownBy wr (some B2))) (fun i _ => m - (intOf i).toNat)
        case atStart => exact ⟨0, by omega, rfl, Q4, ⟨World.grownBy.refl _ _⟩⟩
        case round =>
          clear Q4
          obtain ⟨j, hj, rfl, HQ, HY⟩ := hrel
          obtain ⟨wi, rfl⟩ : ∃ wi : World, wi = wr := ⟨_, rfl⟩
          have hsi : w4.heap.size ≤ wi.heap.size := HY.it.size
          by_cases hjm : j < m
          · obtain ⟨⟨xx, mA, mc, oA, oc, tA, tc⟩, hx⟩ : ∃ x, l3[j]? = some x := ⟨_, List.getElem?_eq_getElem (by rw [← HMm.it]; exact hjm)⟩
            have hxl := List.mem_of_getElem? hx
            have hx1 : xx ∈ L1 := by rw [← M4.it]; exact List.mem_map_of_mem hxl
            have HX1 := Kp.mk hx1
            have XG := Kp.mk (GD1.it _ hx1)
            have XS : Kp (xx.name.size ≤ maxLen) := ⟨by have := NM1.it.1 _ hx1; unfold maxLen; omega⟩
            have XT : Kp (l3.take j ++ [⟨xx, mA, mc, oA, oc, tA, tc⟩] = l3.take (j + 1)) := ⟨by
              have hjl : j < l3.length := by rw [← HMm.it]; exact hjm
              rw [List.take_succ_eq_append_getElem hjl]
              rw [List.getElem?_eq_getElem hjl] at hx
              rw [Option.some.inj hx]⟩
            have hgt := (R4.it.bymap MB.it HY.it).get hx
            dsimp only at hgt
            obtain ⟨a, hA, hla, a0, a1, a2, a3, a4, a5, a6⟩ := hgt
            cases hA
            have KX := Kp.mk ((K4.it _ hxl).bymap MB.it HY.it)
            obtain ⟨we, hwe⟩ : ∃ we, we = wi.alloc (.cells #[.string xx.name, .int .i64 xx.sub, .int .i64 xx.term, .int .i64 xx.next, .slice mA xx.mem.length mc, .slice oA xx.own.length oc, .slice tA xx.att.length tc] 51) := ⟨_, rfl⟩
            have Be : Kp (Below wi.heap.size wi we) := ⟨by rw [hwe]; exact (Below.refl _ _).alloc (Nat.le_refl _) _⟩
            have Xe : Kp (we.heap[wi.heap.size]? = some (.cells #[.string xx.name, .int .i64 xx.sub, .int .i64 xx.term, .int .i64 xx.next, .slice mA xx.mem.length mc, .slice oA xx.own.length oc, .slice tA xx.att.length tc] 51 (0, 0))) := ⟨by rw [hwe]; exact blk_new _ _⟩
            have hse : we.heap.size = wi.heap.size + 1 := by rw [hwe]; simp
            have Qe := Kp.mk (HQ.it.below Be.it)
            have MBe := Kp.mk Qe.it.blk
            have hj9 : j ≤ 1000000000 := by omega
            obtain ⟨e0, e1, e2, e3, e4, e5, e6, _⟩ := Bx.cells (B := wi.heap.size) (a := xx.name) (s := xx.sub) (t := xx.term) (n := xx.next) (m := .slice mA xx.mem.length mc) (o := .slice oA xx.own.length oc) (p := .slice tA xx.att.length tc) Xe.it
            rw [hwe] at Qe
            clear hx hxl hx1 HQ
            go_wp2_with (at_mapUpdate; refine wpList_gm_put _ rfl _ _ _ rfl B2 j (l3.take j) ⟨xx, mA, mc, oA, oc, tA, tc⟩ rfl Qe.it rfl rfl XS.it hj9 ?_; intro w5 hM5 hg5; have M5 := Kp.mk hM5; have Y5 := Kp.mk hg5; clear hM5 hg5; rw [XT.it] at M5; rw [← hwe] at Y5; have X5 : Kp (w5.heap[wi.heap.size]? = some (.cells #[.string xx.name, .int .i64 xx.sub, .int .i64 xx.term, .int .i64 xx.next, .slice mA xx.mem.length mc, .slice oA xx.own.length oc, .slice tA xx.att.length tc] 51 (0, 0))) := ⟨(Y5.it.block _ (by omega) (by intro e; injection e with e; omega)).trans Xe.it⟩; obtain ⟨r0, r1, r2, r3, r4, r5, r6, _⟩ := Bx.cells (B := wi.heap.size) (a := xx.name) (s := xx.sub) (t := xx.term) (n := xx.next) (m := .slice mA xx.mem.length mc) (o := .slice oA xx.own.length oc) (p := .slice tA xx.att.length tc) X5.it)
            have K5 : Kp (GOk w5 ⟨xx, mA, mc, oA, oc, tA, tc⟩) := ⟨(KX.it.below Be.it).bymap MBe.it Y5.it⟩
            have G5 : Kp (Gs w5 w.heap.size A2 c2 l2) := ⟨((G4.it.bymap MB.it HY.it).below Be.it).bymap MBe.it Y5.it⟩
            have hs5 : wi.heap.size < w5.heap.size := by have := Y5.it.size; omega
            obtain ⟨X9, hX9⟩ : ∃ X9, X9 = wi.heap.size := ⟨_, rfl⟩
            have hX9l : X9 < w5.heap.size := by omega
            have YY : Kp (w4.grownBy w5 (some B2)) := ⟨(HY.it.trans (grows_below Be.it (Nat.le_refl _) _)).trans Y5.it⟩
            have hX6' : X6 < w5.heap.size := by omega
            rw [← hX9] at X5 ⊢
            have D5 : Kp (w5.heap[X6]? = some (.cells d.cells 40 (0, 0))) := ⟨(YY.it.block _ hX6l (by intro e; injection e with e; omega)).trans D4.it⟩
            have W5 : Kp (GM w5 Bw N old) := ⟨W4.it.kept YY.it (by intro e; injection e with e; omega)⟩
            have O5 : Kp (∀ x ∈ old, GOk w5 x) := ⟨fun x hx => (O4.it x hx).bymap MB.it YY.it⟩
            clear e0 e1 e2 e3 e4 e5 e6 r0 r1 r2 r3 r4 r5 r6 hX9 hwe Qe Xe Be KX HY hse a0 a1 a2 a3 a4 a5 a6 Y5
            go_loopw [47] (fun i wr => ∃ q : Nat, q ≤ xx.own.length ∧ i = .int .i64 q ∧ Kp (Below w5.heap.size w5 wr)) (fun i _ => xx.own.length - (intOf i).toNat)
            case atStart => exact ⟨0, by omega, rfl, ⟨Below.refl _ _⟩⟩
            case round =>
              obtain ⟨q, hq, rfl, H3⟩ := hrel
              obtain ⟨w6, rfl⟩ : ∃ w6 : World, w6 = wr := ⟨_, rfl⟩
              have hs6 := H3.it.size
              have X6' : Kp (w6.heap[X9]? = some (.cells #[.string xx.name, .int .i64 xx.sub, .int .i64 xx.term, .int .i64 xx.next, .slice mA xx.mem.length mc, .slice oA xx.own.length oc, .slice tA xx.att.length tc] 51 (0, 0))) := ⟨(H3.it.block _ hX9l).trans X5.it⟩
              obtain ⟨r0, r1, r2, r3, r4, r5, r6, _⟩ := Bx.cells (B := X9) (a := xx.name) (s := xx.sub) (t := xx.term) (n := xx.next) (m := .slice mA xx.mem.length mc) (o := .slice oA xx.own.length oc) (p := .slice tA xx.att.length tc) X6'.it
              have hol : xx.own.length ≤ 12 := XG.it.o
              by_cases hql : q < xx.own.length
              · have OC : Kp (xx.mem.countP (· == rd xx.own q) = if xx.mem.length = 0 then 0 else 1) := ⟨own_cnt XG.it hql⟩
                have OV : Kp (∀ t, t < xx.mem.length → ownsS xx.name (rd xx.mem t) xx.term q (l2.map Gv.x) = if rd xx.own q = rd xx.mem t then 0 else 223) := ⟨fun t ht => by
                  rw [M2.it]
                  obtain ⟨k0, hk0⟩ := atN_self NM1.it.2 HX1.it
                  unfold ownsS
                  rw [hk0]
                  exact ownsE_mem (by rw [rd_lt ht]; exact List.getElem_mem ht) hql⟩
                go_wp2
                go_loopw [11, 53] (fun v i wr => ∃ t : Nat, t ≤ xx.mem.length ∧ i = .int .i64 t ∧ v = .int .i64 (cnt (· == rd xx.own q) xx.mem t : Nat) ∧ Kp (Below w5.heap.size w5 wr)) (fun _ i _ => xx.mem.length - (intOf i).toNat)
                case atStart => exact ⟨0, by omega, rfl, by rw [cnt_zero]; rfl, H3⟩
                case round =>
                  clear r0 r1 r2 r3 r4 r5 r6 X6' H3
                  obtain ⟨t, ht, rfl, rfl, H4⟩ := hrel
                  have hs7 := H4.it.size
                  have hml : xx.mem.length ≤ 6 := XG.it.m
                  have X7' : Kp (wr.heap[X9]? = some (.cells #[.string xx.name, .int .i64 xx.sub, .int .i64 xx.term, .int .i64 xx.next, .slice mA xx.mem.length mc, .slice oA xx.own.length oc, .slice tA xx.att.length tc] 51 (0, 0))) := ⟨(H4.it.block _ hX9l).trans X5.it⟩
                  obtain ⟨r0, r1, r2, r3, r4, r5, r6, _⟩ := Bx.cells (B := X9) (a := xx.name) (s := xx.sub) (t := xx.term) (n := xx.next) (m := .slice mA xx.mem.length mc) (o := .slice oA xx.own.length oc) (p := .slice tA xx.att.length tc) X7'.it
                  by_cases htl : t < xx.mem.length
                  · obtain ⟨bm, om, hA, _, hcm⟩ := (K5.it.below H4.it).m.get htl
                    dsimp only at hA
                    cases hA
                    have hcl := cnt_le (· == rd xx.own q) xx.mem t
                    have hct : cnt (· == rd xx.own q) xx.mem t ≤ 6 := by omega
                    have OT := Kp.mk (OV.it t htl)
                    have OA := Kp.mk (owns_any (G5.it.below H4.it) xx.name (rd xx.mem t) xx.term q)
                    cases hv : rd xx.mem t == rd xx.own q with
                    | true =>
                      have HN : Kp (cnt (· == rd xx.own q) xx.mem (t + 1) = cnt (· == rd xx.own q) xx.mem t + 1) := ⟨cnt_hit htl hv⟩
                      have HE : Kp (ownsS xx.name (rd xx.mem t) xx.term q (l2.map Gv.x) = 0) := ⟨by rw [OT.it, if_pos]; exact (by simpa using hv : rd xx.mem t = rd xx.own q).symm⟩
                      rw [HE.it] at OA
                      clear hv
                      go_wp2_with (go_at_call 31; refine OA.it.mono ?_; rintro e w8 ⟨rfl, hb8⟩)
                      go_roundw
                      case rel => exact ⟨t + 1, by omega, by go_num, by rw [HN.it]; go_num, ⟨H4.it.trans (hb8.mono hs7)⟩⟩
                      case measure => simp [intOf]; omega
                    | false =>
                      have HN : Kp (cnt (· == rd xx.own q) xx.mem (t + 1) = cnt (· == rd xx.own q) xx.mem t) := ⟨cnt_miss htl hv⟩
                      have HE : Kp (ownsS xx.name (rd xx.mem t) xx.term q (l2.map Gv.x) = 223) := ⟨by rw [OT.it, if_neg]; intro e; rw [e] at hv; simp at hv⟩
                      rw [HE.it] at OA
                      clear hv
                      go_wp2_with (go_at_call 31; refine OA.it.mono ?_; rintro e w8 ⟨rfl, hb8⟩)
                      go_roundw
                      case rel => exact ⟨t + 1, by omega, by go_num, by rw [HN.it], ⟨H4.it.trans (hb8.mono hs7)⟩⟩
                      case measure => simp [intOf]; omega
                  · obtain rfl : t = xx.mem.length := by omega
                    have hz : ((cnt (· == rd xx.own q) xx.mem xx.mem.length : Nat) : Int) = if xx.mem.length = 0 then 0 else 1 := by rw [cnt_all, OC.it]; split <;> rfl
                    rw [hz]
                    clear hz
                    by_cases hm0 : xx.mem.length = 0
                    · have hd : (xx.mem.length : Int) ≤ 0 := by omega
                      rw [if_pos hm0]
                      clear hm0
                      go_wp2
                      go_roundw
                      case rel => exact ⟨q + 1, by omega, by go_num, H4⟩
                      case measure => simp [intOf]; omega
                    · have hd : 0 < (xx.mem.length : Int) := by omega
                      have hd2 : (!decide (0 < xx.mem.length)) = false := by rw [show decide (0 < xx.mem.length) = true by rw [decide_eq_true_eq]; omega]; rfl
                      rw [if_neg hm0]
                      clear hm0
                      go_wp2
                      go_roundw
                      case rel => exact ⟨q + 1, by omega, by go_num, H4⟩
                      case measure => simp [intOf]; omega
              · obtain rfl : q = xx.own.length := by omega
                have W6 := Kp.mk (W5.it.below H3.it)
                have M6 := Kp.mk (M5.it.below H3.it)
                have D6 : Kp (w6.heap[X6]? = some (.cells d.cells 40 (0, 0))) := ⟨(H3.it.block _ hX6').trans D5.it⟩
                have d0' := blk_cell D6.it (show d.cells[0]? = some (.int .i64 d.op) from rfl)
                have Y6 : Kp (w4.grownBy w6 (some B2)) := ⟨YY.it.trans (grows_below H3.it (Nat.le_refl _) _)⟩
                have hs46 : w4.heap.size ≤ w6.heap.size := Y6.it.size
                have hX9n : X9 < w6.heap.size := by omega
                have hX6n : X6 < w6.heap.size := by omega
                rcases W6.it.at_ XS.it with hat | ⟨⟨yy, mB, md, oB, od2, tB, td⟩, hyo, hyn, hat⟩
                · have AT := Kp.mk hat
                  clear hat
                  go_wp2_with (at_lookup; refine wpList_gm_no _ rfl _ _ rfl Bw xx.name rfl AT.it rfl XS.it ?_)
                  go_roundw
                  case rel => exact ⟨j + 1, by omega, by go_num, ⟨M6.it.below ((Below.refl _ _).alloc (Nat.le_refl _) _)⟩, ⟨Y6.it.trans (World.grownBy_alloc _ _ _)⟩⟩
                  case measure => simp [intOf]; omega
                · have AT := Kp.mk hat
                  have HYO := Kp.mk hyo
                  have HYN := Kp.mk hyn
                  clear hat hyo hyn
                  obtain ⟨hop, hop1⟩ := opS_eq d
                  by_cases ho2 : opS d < 2
                  · have ho2' : (opS d : Int) < 2 := by omega
                    go_wp2_with (at_lookup; refine wpList_gm_get _ rfl _ _ rfl Bw xx.name ⟨yy, mB, md, oB, od2, tB, td⟩ rfl AT.it rfl XS.it ?_)
                    go_roundw
                    case rel => exact ⟨j + 1, by omega, by go_num, ⟨M6.it.below ((Below.refl _ _).alloc (Nat.le_refl _) _)⟩, ⟨Y6.it.trans (World.grownBy_alloc _ _ _)⟩⟩
                    case measure => simp [intOf]; omega
                  · have ho2' : 2 ≤ (opS d : Int) := by omega
                    have UP : Kp (Up yy xx) := ⟨by
                      refine stepS_up NM.it (Nat.le_of_not_lt ho2) xx (by rw [← HL1.it]; exact HX1.it) yy ?_ HYN.it
                      rw [← HO.it]
                      exact List.mem_map_of_mem HYO.it⟩
                    obtain ⟨w7, hw7⟩ : ∃ w7, w7 = w6.alloc (.cells #[.string yy.name, .int .i64 yy.sub, .int .i64 yy.term, .int .i64 yy.next, .slice mB yy.mem.length md, .slice oB yy.own.length od2, .slice tB yy.att.length td] 51) := ⟨_, rfl⟩
                    have B7 : Kp (Below w6.heap.size w6 w7) := ⟨by rw [hw7]; exact (Below.refl _ _).alloc (Nat.le_refl _) _⟩
                    have X7 : Kp (w7.heap[w6.heap.size]? = some (.cells #[.string yy.name, .int .i64 yy.sub, .int .i64 yy.term, .int .i64 yy.next, .slice mB yy.mem.length md, .slice oB yy.own.length od2, .slice tB yy.att.length td] 51 (0, 0))) := ⟨by rw [hw7]; exact blk_new _ _⟩
                    have X8 : Kp (w7.heap[X9]? = some (.cells #[.string xx.name, .int .i64 xx.sub, .int .i64 xx.term, .int .i64 xx.next, .slice mA xx.mem.length mc, .slice oA xx.own.length oc, .slice tA xx.att.length tc] 51 (0, 0))) := ⟨(B7.it.block _ hX9n).trans X6'.it⟩
                    have KX7 : Kp (GOk w7 ⟨xx, mA, mc, oA, oc, tA, tc⟩) := ⟨(K5.it.below H3.it).below B7.it⟩
                    have KY7 : Kp (GOk w7 ⟨yy, mB, md, oB, od2, tB, td⟩) := ⟨((O5.it _ HYO.it).below H3.it).below B7.it⟩
                    have M7 := Kp.mk (M6.it.below B7.it)
                    have Y7 : Kp (w4.grownBy w7 (some B2)) := ⟨Y6.it.trans (grows_below B7.it (Nat.le_refl _) _)⟩
                    obtain ⟨s0, s1, s2, s3, s4, s5, s6, _⟩ := Bx.cells (B := w6.heap.size) (a := yy.name) (s := yy.sub) (t := yy.term) (n := yy.next) (m := .slice mB yy.mem.length md) (o := .slice oB yy.own.length od2) (p := .slice tB yy.att.length td) X7.it
                    obtain ⟨z0, z1, z2, z3, z4, z5, z6, _⟩ := Bx.cells (B := X9) (a := xx.name) (s := xx.sub) (t := xx.term) (n := xx.next) (m := .slice mA xx.mem.length mc) (o := .slice oA xx.own.length oc) (p := .slice tA xx.att.length tc) X8.it
                    go_wp2_with (at_lookup; refine wpList_gm_get _ rfl _ _ rfl Bw xx.name ⟨yy, mB, md, oB, od2, tB, td⟩ rfl AT.it rfl XS.it ?_)
                    rw [← hw7]
                    have hal : xx.att.length ≤ 12 := by rw [XG.it.t]; exact XG.it.o
                    have hyl : yy.att.length = xx.att.length := UP.it.1
                    have HYL := Kp.mk hyl
                    have hte : decide (xx.term < yy.term) = false := by rw [decide_eq_false_iff_not]; have := UP.it.2.1; omega
                    have hX9w : X9 < w7.heap.size := by have := B7.it.size; omega
                    have hX6w : w6.heap.size < w7.heap.size := by rw [hw7]; simp
                    obtain ⟨X4, hX4⟩ : ∃ X4, X4 = w6.heap.size := ⟨_, rfl⟩
                    rw [← hX4] at X7 hX6w ⊢
                    rw [hyl] at X7
                    obtain ⟨z0, z1, z2, z3, z4, z5, z6, _⟩ := Bx.cells (B := X9) (a := xx.name) (s := xx.sub) (t := xx.term) (n := xx.next) (m := .slice mA xx.mem.length mc) (o := .slice oA xx.own.length oc) (p := .slice tA xx.att.length tc) X8.it
                    clear s0 s1 s2 s3 s4 s5 s6 hyl hw7 B7 hX4
                    go_wp2
                    go_loopw [101] (fun i wr => ∃ q : Nat, q ≤ xx.att.length ∧ i = .int .i64 q ∧ Kp (∃ nq, wr = w7.drewN nq)) (fun i _ => xx.att.length - (intOf i).toNat)
                    case atStart => exact ⟨0, by omega, rfl, ⟨0, rfl⟩⟩
                    case round =>
                      clear z0 z1 z2 z3 z4 z5 z6
                      obtain ⟨q, hq, rfl, H5⟩ := hrel
                      by_cases hql : q < xx.att.length
                      · obtain ⟨bt, ot, hA, _, hct⟩ := KX7.it.t.get hql
                        have hyq : q < yy.att.length := by rw [HYL.it]; exact hql
                        obtain ⟨bu, ou, hA2, _, hcu⟩ := KY7.it.t.get hyq
                        dsimp only at hA hA2 hct hcu
                        cases hA
                        cases hA2
                        have X10 : Kp (wr.heap[X4]? = some (.cells #[.string yy.name, .int .i64 yy.sub, .int .i64 yy.term, .int .i64 yy.next, .slice mB yy.mem.length md, .slice oB yy.own.length od2, .slice (some ⟨bu, ou, none⟩) xx.att.length td] 51 (0, 0))) := ⟨by obtain ⟨nq, rfl⟩ := H5.it; exact X7.it⟩
                        have X11 : Kp (wr.heap[X9]? = some (.cells #[.string xx.name, .int .i64 xx.sub, .int .i64 xx.term, .int .i64 xx.next, .slice mA xx.mem.length mc, .slice oA xx.own.length oc, .slice (some ⟨bt, ot, none⟩) xx.att.length tc] 51 (0, 0))) := ⟨by obtain ⟨nq, rfl⟩ := H5.it; exact X8.it⟩
                        have f1 : wr.cell? ⟨bt, ot + q, none⟩ = some (.int .i64 (rd xx.att q)) := by obtain ⟨nq, rfl⟩ := H5.it; exact hct
                        have f2 : wr.cell? ⟨bu, ou + q, none⟩ = some (.int .i64 (rd yy.att q)) := by obtain ⟨nq, rfl⟩ := H5.it; exact hcu
                        obtain ⟨s0, s1, s2, s3, s4, s5, s6, _⟩ := Bx.cells (B := X4) (a := yy.name) (s := yy.sub) (t := yy.term) (n := yy.next) (m := .slice mB yy.mem.length md) (o := .slice oB yy.own.length od2) (p := .slice (some ⟨bu, ou, none⟩) xx.att.length td) X10.it
                        obtain ⟨z0, z1, z2, z3, z4, z5, z6, _⟩ := Bx.cells (B := X9) (a := xx.name) (s := xx.sub) (t := xx.term) (n := xx.next) (m := .slice mA xx.mem.length mc) (o := .slice oA xx.own.length oc) (p := .slice (some ⟨bt, ot, none⟩) xx.att.length tc) X11.it
                        have hd1 : decide ((xx.att.length : Int) ≤ (q : Int)) = false := by rw [decide_eq_false_iff_not]; omega
                        have hd2 : decide ((q : Int) ≥ (xx.att.length : Int)) = false := by rw [decide_eq_false_iff_not]; omega
                        have hd3 : decide (rd xx.att q < rd yy.att q) = false := by rw [decide_eq_false_iff_not]; have := UP.it.2.2 q; omega
                        have hq9 : (q : Int) < (xx.att.length : Int) := by omega
                        clear hct hcu
                        go_wp2_with fail
                        go_quiet (fail)
                        go_wp2
                        go_roundw
                        case rel => exact ⟨q + 1, by omega, by go_num, ⟨by obtain ⟨nq, rfl⟩ := H5.it; exact ⟨_, World.drewN_drewN ..⟩⟩⟩
                        case measure => simp [intOf]; omega
                      · have M8 : Kp (GM wr B2 (j + 1) (l3.take (j + 1))) := ⟨by obtain ⟨nq, hnq⟩ := H5.it; rw [hnq]; exact M7.it.below (below_drewN (Below.refl _ _) nq)⟩
                        have Y8 : Kp (w4.grownBy wr (some B2)) := ⟨by obtain ⟨nq, hnq⟩ := H5.it; rw [hnq]; exact Y7.it.trans (grows_below (below_drewN (Below.refl _ _) nq) (Nat.le_refl _) _)⟩
                        go_wp2
                        go_roundw
                        case rel => exact ⟨j + 1, by omega, by go_num, M8, Y8⟩
                        case measure => simp [intOf]; omega
          · obtain rfl : j = m := by omega
            have HQ' : Kp (GM wi B2 j l3) := ⟨by have := HQ.it; rw [List.take_of_length_le (by rw [← HMm.it]; exact Nat.le_refl _)] at this; exact this⟩
            go_wp2
            go_roundw
            case rel =>
              refine ⟨k + 1, A2, c2, l2, B2, 1000, l3, by omega, by go_num, rfl, by omega, by omega, ⟨G4.it.bymap MB.it HY.it⟩, ⟨by rw [M2.it, runS_next HD.it, ← HL0.it, ← HL1.it]⟩, ⟨HQ'.it.mono (by omega)⟩, ⟨by rw [M4.it, runS_next HD.it, ← HL0.it, ← HL1.it]⟩, ⟨fun x hx => (K4.it x hx).bymap MB.it HY.it⟩, ⟨BB.it.grown HY.it BB.it.size (fun q hq => by cases hq; exact Nat.le_of_lt hB2w)⟩⟩
            case measure => simp [intOf]; omega
      · obtain rfl : n1 = k := by omega
        have hbB := HB.it.size
        go_wp2_with (go_at_call 13; refine (awake_any _).mono ?_; rintro e w' ⟨rfl, hb'⟩)
        go_ret
        exact ⟨rfl, HB.it.trans (hb'.mono HB.it.size)⟩

set_option linter.unusedVariables false in
set_option maxRecDepth 100000 in
theorem groupOnce_lifted (os : Os) (started : os.Started) (H : Type) (enc : TypeId × Value → H) :
    ReturnsInHanded {} Try.checked os 7 .any (Rows.groupOnceSpec.pre6 enc Try.prog Try.f7 Rows.groupOnceRow.domain false) (Rows.groupOnceSpec.post enc Try.prog Try.f7 false true false false) := by
  refine returnsInHanded_of_change_sized (C := Try.checked) (by kernel_rfl) started (by kernel_rfl) Try.func7
    (ChangeSpec.witness6 (enc := enc) (C := Try.checked) false ⟨#[], #[.slice none 0 0], []⟩ 8 (by kernel_rfl) (by kernel_rfl) (by kernel_rfl) (by kernel_rfl)) ?_
  intro W base args ds gs before hval0 hW hcnd hsz0 _
  have hval : ∀ (j : Nat) t v, Try.f7.params[j]? = some t → args[j]? = some v → Value.okWide Try.prog W .any base t v := hval0
  have hW' := hW
  obtain ⟨p, q, hA0, hV, rfl, hfz, hnd⟩ := hW
  have hA : DataW.TrodAll enc Try.prog W 0 (fun _ => true) true Try.f7.params.toList args.toList ds p := hA0
  have hsz : (DataW.weightsEach Try.prog (Try.f7.params.toList ++ Rows.groupOnceSpec.plain.varTypes Try.prog) (ds ++ gs)).all (· ≤ reachBytes) = true := hsz0
  rw [Try.params7] at hA hval hsz
  obtain ⟨v0, vs0, d0, ds0, p0, q0, hargs, rfl, rfl, h0, r0⟩ := trodAll_cons hA
  obtain ⟨rfl, rfl, rfl⟩ := trodAll_nil r0
  obtain rfl : args = #[v0] := by cases args; simp_all
  obtain ⟨rfl, rfl⟩ := trodVars_none hV
  have k0 := h0
  have lt0 : ∀ x ∈ p0, x.block < W.heap.size := by obtain ⟨m, hm⟩ := k0; exact DataW.trod_lt m _ _ _ hm
  obtain ⟨A0, n0, c0, ks0, rfl, ra0, ea0, bd0⟩ := dos_open (hval 0 31 v0 rfl rfl) h0 (fun x hx => by simpa using List.all_eq_true.1 hsz x (DataW.weights_mem_each (j := 0) (t := 31) rfl rfl x hx))
  clear hA0 hval0 hsz hsz0
  refine (once_walk A0 n0 c0 ks0 W ra0).mono fun e W' ⟨he, bel⟩ => ?_
  subst he
  exact ⟨_, rfl, _, _, _, [], _, [], hW', trodAll_mk1 (shut_bool Try.underlying4 _), (trodAll_cons_mk (Below.trod (by kernel_rfl) (by kernel_rfl) (of_decide_eq_true (by kernel_rfl)) k0 bel lt0) trodAll_mk0), rfl, bel.frame _, fun h => by cases h⟩

theorem GroupOnce_holds : Rows.GroupOnceSaid :=
  OpenClaim.holds_of_wide 7 Try.f7 rfl rfl rfl rfl rfl rfl rfl ⟨rfl, rfl, rfl, rfl, rfl⟩ rfl rfl rfl rfl rfl (by kernel_rfl) Try.func7 (by kernel_rfl)
    (of_decide_eq_true (by kernel_rfl)) (by unfold Func.isWrapper; first | (rw [if_pos (by decide +kernel)]; kernel_rfl) | (rw [if_neg (by decide +kernel)]; exact ⟨rfl, rfl⟩))
    (fun os started H enc _ => groupOnce_lifted os started H enc)
end Go.Proofs.Ytemnhmnompehoaa
