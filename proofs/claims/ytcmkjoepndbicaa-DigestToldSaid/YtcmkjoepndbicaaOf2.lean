/-
  Of: the walk.
-/
import Derived.Test.YtcmkjoepndbicaaOf
namespace Go.Proofs.Ytcmkjoepndbicaa
open Go Go.RowKit
attribute [local go_sem ↓] Go.wp_at_zero Go.wp_at_succ

theorem wpList_gi_no {ops : Array Oper} {rest : List Oper} {o : Oper} {a : Act} {Q : Exit → Act → World → Prop} (w : World) (hg : o.guard = none) (m x : Operand) (hop : o.op = Op.lookup 93 m x true)
    (b n : Nat) (S : List (List UInt8)) (s : ByteArray) (hm : a.eval m = .map (some b)) (h : GI w b n S) (hx : a.eval x = .string s) (hs : s.size ≤ maxLen) (hno : s.data.toList ∉ S)
    (hK : wpList Try.prog ops Q rest (a.put o.dst (.tuple #[.int .i64 0, .bool false])) w) : wpList Try.prog ops Q (o :: rest) a w :=
  wpList_gi_get w hg m x hop b n S s hm h hx hs (by rw [if_neg hno, decide_eq_false hno]; exact hK)
theorem wpList_gi_yes {ops : Array Oper} {rest : List Oper} {o : Oper} {a : Act} {Q : Exit → Act → World → Prop} (w : World) (hg : o.guard = none) (m x : Operand) (hop : o.op = Op.lookup 93 m x true)
    (b n : Nat) (S : List (List UInt8)) (s : ByteArray) (i : Nat) (hm : a.eval m = .map (some b)) (h : GI w b n S) (hx : a.eval x = .string s) (hs : s.size ≤ maxLen) (hyes : s.data.toList ∈ S) (hi : S.idxOf s.data.toList = i)
    (hK : wpList Try.prog ops Q rest (a.put o.dst (.tuple #[.int .i64 (i : Int), .bool true])) w) : wpList Try.prog ops Q (o :: rest) a w :=
  wpList_gi_get w hg m x hop b n S s hm h hx hs (by rw [if_pos hyes, decide_eq_true hyes, hi]; exact hK)
theorem OwnP.some_ {w : World} {base n c : Nat} {A : Option Addr} {l : List Pr} (h : OwnP w base (.slice A n c) l) (hl : 0 < l.length) :
    ∃ g cur, A = some ⟨g, 0, none⟩ ∧ n = l.length ∧ base ≤ g ∧ w.heap[g]? = some (.cells cur 43 (0, 0)) ∧ l.length * 2 ≤ cur.size := by
  unfold OwnP at h
  rcases h.2 with ⟨_, h0⟩ | ⟨g, cap, cur, hv, hb, hh, h1, h2, h3, h4⟩
  · omega
  · cases hv
    exact ⟨g, cur, rfl, rfl, hb, hh, by omega⟩
theorem OwnP.past {W W' : World} {base G : Nat} {v : Value} {l : List Pr} (h : OwnP W base v l) (hg : W.grownBy W' (some G)) (hG : G < base) : OwnP W' base v l := by
  refine World.ownsRow.kept h hg ?_
  cases hv : v.ownBlock with
  | none => exact .inl rfl
  | some k => right; intro e; injection e with e; have := (h.lt k hv).1; omega
set_option maxRecDepth 100000 in
set_option maxHeartbeats 8000000 in
theorem of_s (ka kb : BitVec 64) (A : Option Addr) (n c : Nat) (l : List Pr) (w : World) (S0 : Nat → Prop) (h : RP w S0 A n l) (hn : n ≤ 1000) (hs : ∀ p ∈ l, p.1.size + p.2.size ≤ 140737488351232) :
    Calls Try.prog 14 #[.agg #[.int .u64 (ka.toNat : Int), .int .u64 (kb.toNat : Int)], .slice A n c] w fun e w' => ∃ t, e = .returned (.pointer (some ⟨t, 0, none⟩)) ∧ TreeS ka kb (fun b => w.heap.size ≤ b) (ofP l) t w' ∧ w.heap.size ≤ t ∧ Below w.heap.size w w' := by
  have hmm := @run_makeMap Try.prog
  have HL := Kp.mk h.len
  have H := Kp.mk h
  have HS := Kp.mk hs
  clear h hs
  go_enter Try.func14, Try.ntmps14
  go_upto_region 3 with fail
  refine wp_on (fun wx => Sd ka kb w.heap.size wx ∧ GI wx (w.heap.size + 1) 0 [] ∧ Below w.heap.size w wx ∧ wx.heap.size = w.heap.size + 2) ⟨blk_old _ (blk_new _ _), by have := GI.made (w.alloc (.cells #[.int .u64 (ka.toNat : Int), .int .u64 (kb.toNat : Int)] 24)); simpa using this, ((Below.refl _ _).alloc (Nat.le_refl _) _).alloc (by simp) _, by simp⟩ (fun w1 hx => ?_)
  obtain ⟨hsd, hgi, hb1, hsz⟩ := hx
  obtain ⟨X, hX⟩ : ∃ X, X = w.heap.size := ⟨_, rfl⟩
  rw [← hX] at hsd hgi hb1 hsz ⊢
  have HX := Kp.mk hX
  have SD1 := Kp.mk hsd
  have GI1 := Kp.mk hgi
  have B1 := Kp.mk hb1
  clear hX hsd hgi hb1 hsz
  go_wp2
  go_loopw [6, 14] (fun p i wr => ∃ (k N : Nat) (A5 : Option Addr) (n5 c5 : Nat), k ≤ n ∧ N ≤ k ∧ i = .int .i64 k ∧ p = .slice A5 n5 c5 ∧ n5 ≤ 1000 ∧ Kp ((ofU (l.take k)).length = n5) ∧ Kp (OwnP wr (X + 2) (.slice A5 n5 c5) (ofU (l.take k))) ∧ Kp (GI wr (X + 1) N (keysP (ofU (l.take k)))) ∧ Kp (Sd ka kb X wr) ∧ Kp (Below X w wr)) (fun _ i _ => n - (intOf i).toNat)
  case atStart => exact ⟨0, 0, none, 0, 0, by omega, by omega, rfl, rfl, by omega, ⟨rfl⟩, ⟨OwnP.nil _ _⟩, GI1, SD1, B1⟩
  case round =>
    clear SD1 GI1 B1
    obtain ⟨k, N, A5, n5, c5, hk, hN, rfl, rfl, hn5, HP, HO, HG, SD, HB⟩ := hrel
    by_cases hkn : k < n
    · have hd : decide ((k : Int) < (n : Int)) = true := by simp; omega
      obtain ⟨x, hx⟩ : ∃ x, l[k]? = some x := ⟨_, List.getElem?_eq_getElem (by rw [HL.it]; exact hkn)⟩
      obtain ⟨b1, o1, hA, hS1, hl1, f0, f1⟩ := (H.it.same (Same.of_below (HX.it ▸ HB.it) S0)).get hx
      cases hA
      have HU : Kp (ofU (l.take (k + 1)) = putP (ofU (l.take k)) x) := ⟨ofU_succ l hx⟩
      have HSX := Kp.mk (HS.it x (List.mem_of_getElem? hx))
      have XS : Kp (x.1.size ≤ maxLen) := ⟨by have := HSX.it; unfold maxLen; omega⟩
      have HL2 : Kp ((ofU (l.take (k + 1))).length ≤ k + 1) := ⟨ofU_len l (k + 1) (by rw [HL.it]; omega)⟩
      clear hx
      go_upto_region 6 with fail
      refine wp_on (fun wz => wz.heap[wr.heap.size]? = some (.cells #[.string x.1, .string x.2] 43 (0, 0)) ∧ Below wr.heap.size wr wz) ⟨blk_new _ _, (Below.refl wr.heap.size wr).alloc (Nat.le_refl _) _⟩ (fun w4 h4 => ?_)
      obtain ⟨h4, hb4⟩ := h4
      have E4 := Kp.mk h4
      have B4 := Kp.mk hb4
      have SD4 := Kp.mk (SD.it.below hb4)
      have O4 := Kp.mk (HO.it.below hb4)
      have G4 := Kp.mk (HG.it.below hb4)
      have HB4 := Kp.mk (HB.it.trans (hb4.mono (by have := HB.it.size; have := HX.it; omega)))
      have HGL := Kp.mk HG.it.lt
      clear h4 hb4 f0 f1 HO HG SD HB
      have g0 : w4.cell? ⟨wr.heap.size, 0, none⟩ = some (.string x.1) := blk_cell E4.it rfl
      have g1 : w4.cell? ⟨wr.heap.size, 1, none⟩ = some (.string x.2) := blk_cell E4.it rfl
      have hlt4 := (Array.getElem?_eq_some_iff.1 E4.it).1
      by_cases hm : keyP x ∈ keysP (ofU (l.take k))
      · obtain ⟨i, hi⟩ : ∃ i, i = (keysP (ofU (l.take k))).idxOf (keyP x) := ⟨_, rfl⟩
        have hil : i < n5 := by rw [hi, ← HP.it]; have := List.idxOf_lt_length_of_mem hm; unfold keysP at this ⊢; rwa [List.length_map] at this
        have HI := Kp.mk hi
        have HM := Kp.mk hm
        have hiz : (i : Int) < (n5 : Int) := by omega
        obtain ⟨g, cur, hA5, hnl, hg, hgc, hcs⟩ := O4.it.some_ (by rw [HP.it]; omega)
        clear hnl
        subst hA5
        rw [HP.it] at hcs
        obtain ⟨v0, hv0⟩ : ∃ v, cur[i * 2]? = some v := ⟨_, Array.getElem?_eq_getElem (by omega)⟩
        obtain ⟨v1, hv1⟩ : ∃ v, cur[i * 2 + 1]? = some v := ⟨_, Array.getElem?_eq_getElem (by omega)⟩
        have y0 : w4.cell? ⟨g, i * 2, none⟩ = some v0 := blk_cell hgc hv0
        have y1 : w4.cell? ⟨g, i * 2 + 1, none⟩ = some v1 := blk_cell hgc hv1
        have u0 : w4.frozen? ⟨g, i * 2, none⟩ = false := blk_free hgc
        have u1 : w4.frozen? ⟨g, i * 2 + 1, none⟩ = false := blk_free hgc
        have hgl := (Array.getElem?_eq_some_iff.1 hgc).1
        clear hi hm hgc hv0 hv1
        have HPP : Kp (putP (ofU (l.take k)) x = (ofU (l.take k)).set i x) := ⟨by unfold putP; rw [if_pos HM.it, ← HI.it]⟩
        have HKK : Kp (keysP (putP (ofU (l.take k)) x) = keysP (ofU (l.take k))) := ⟨by rw [keys_put, if_pos HM.it]⟩
        have HGG : Kp (g ≠ X + 1 ∧ g ≠ X ∧ X ≤ g) := ⟨by omega⟩
        go_wp2_with (at_lookup; refine wpList_gi_yes _ rfl _ _ rfl (X + 1) N _ x.1 i rfl G4.it rfl XS.it HM.it HI.it.symm ?_)
        go_roundw
        case rel =>
          refine ⟨k + 1, N, _, n5, c5, by omega, by omega, by go_num, rfl, hn5, ⟨by rw [HU.it, HPP.it, List.length_set, HP.it]⟩, ⟨?_⟩, ⟨?_⟩, ⟨?_⟩, ⟨?_⟩⟩
          · rw [HU.it, HPP.it]
            exact O4.it.set (by rw [HP.it]; exact hil) x
          · rw [HU.it, HKK.it]
            exact (G4.it.kept (grown_set (World.grownBy.refl w4 (some g)) _ _) (fun e => HGG.it.1 (by injection e with e; exact e.symm))).kept (grown_set (World.grownBy.refl _ (some g)) _ _) (fun e => HGG.it.1 (by injection e with e; exact e.symm))
          · exact (SD4.it.set _ (Ne.symm HGG.it.2.1)).set _ (Ne.symm HGG.it.2.1)
          · exact (HB4.it.setCell HGG.it.2.2 _).setCell HGG.it.2.2 _
        case measure => simp [intOf]; omega
      · have HM := Kp.mk hm
        clear hm
        have HPP : Kp (putP (ofU (l.take k)) x = ofU (l.take k) ++ [x]) := ⟨by unfold putP; rw [if_neg HM.it]⟩
        have HKK : Kp (keysP (putP (ofU (l.take k)) x) = keysP (ofU (l.take k)) ++ [keyP x]) := ⟨by rw [keys_put, if_neg HM.it]⟩
        have HKL : Kp ((keysP (ofU (l.take k))).length = n5) := ⟨by unfold keysP; rw [List.length_map]; exact HP.it⟩
        have HN9 : Kp (N ≤ 1000000000) := ⟨by omega⟩
        have HZ : Kp (X + 2 ≤ wr.heap.size) := ⟨by have := HGL.it; omega⟩
        have HLN : Kp ((ofU (l.take k) ++ [x]).length = n5 + 1) := ⟨by rw [List.length_append, HP.it]; rfl⟩
        have H51 : n5 + 1 ≤ 1000 := by have := HL2.it; rw [HU.it, HPP.it, HLN.it] at this; omega
        go_wp2_with (first
          | (at_lookup; refine wpList_gi_no _ rfl _ _ rfl (X + 1) N _ x.1 rfl G4.it rfl XS.it HM.it ?_)
          | (at_mapUpdate; refine wpList_gi_put _ rfl _ _ _ rfl (X + 1) N _ x.1 rfl G4.it rfl (by rw [HKL.it]; rfl) XS.it HN9.it HM.it ?_; intro w5 hM5 hg5; have M5 := Kp.mk hM5; have Y5 := Kp.mk hg5; have E5 : Kp (w5.heap[wr.heap.size]? = some (.cells #[.string x.1, .string x.2] 43 (0, 0))) := ⟨keep_blk E4.it hg5 (fun e => by injection e with e; have := HZ.it; omega)⟩; have z0 : w5.cell? ⟨wr.heap.size, 0, none⟩ = some (.string x.1) := blk_cell E5.it rfl; have z1 : w5.cell? ⟨wr.heap.size, 1, none⟩ = some (.string x.2) := blk_cell E5.it rfl; have hl5 := (Array.getElem?_eq_some_iff.1 E5.it).1; have O5 := Kp.mk (O4.it.past hg5 (by omega)); have Z5 : Kp (X + 2 ≤ w5.heap.size) := ⟨by have h7 := HZ.it; omega⟩; have L5 : Kp ((ofU (l.take k)).length + 1 ≤ 100000) := ⟨by rw [HP.it]; omega⟩; clear hM5 hg5)
          | (refine app_p1 rfl (.tmp 35) (.tmp 37) rfl (X + 2) (.slice A5 n5 c5) _ x rfl rfl O5.it Z5.it L5.it ?_; intro v6 w6 ho6 hg6 _; obtain ⟨A6, c6, hv6, _, _, _⟩ := ho6.form (by rw [HLN.it]; omega); rw [HLN.it] at hv6; subst hv6; have O6 := Kp.mk ho6; have G6 := Kp.mk hg6; clear ho6 hg6))
        have HNB : Kp (∀ q, (Value.slice A5 n5 c5).ownBlock = some q → X + 2 ≤ q) := ⟨fun q e => (O5.it.lt q e).1⟩
        have GI6 : Kp (GI w6 (X + 1) (N + 1) (keysP (ofU (l.take k)) ++ [keyP x])) := ⟨M5.it.kept G6.it (fun e => by have := HNB.it _ e.symm; omega)⟩
        have SD6 : Kp (Sd ka kb X w6) := ⟨keep_blk (keep_blk SD4.it Y5.it (fun e => by injection e; omega)) G6.it (fun e => by have := HNB.it _ e; omega)⟩
        have HB6 : Kp (Below X w w6) := ⟨below_ownP (HB4.it.grown Y5.it (by have := HZ.it; have := B4.it.size; omega) (fun b e => by injection e; omega)) (by have := Z5.it; omega) O5.it (by omega) G6.it⟩
        go_roundw
        case rel => exact ⟨k + 1, N + 1, A6, n5 + 1, c6, by omega, by omega, by go_num, rfl, H51, ⟨by rw [HU.it, HPP.it, HLN.it]⟩, ⟨by rw [HU.it, HPP.it]; exact O6.it⟩, ⟨by rw [HU.it, HKK.it]; exact GI6.it⟩, SD6, HB6⟩
        case measure => simp [intOf]; omega
    · obtain rfl : k = n := by omega
      have hd : decide ((k : Int) < (k : Int)) = false := by simp
      have HLT : Kp (l.take k = l) := ⟨List.take_of_length_le (by rw [HL.it]; omega)⟩
      rw [HLT.it] at HP HO HG
      have HND : Kp ((ofU l).map keyP).Nodup := ⟨by have := ofU_nodup l k (by rw [HL.it]; omega); rw [HLT.it] at this; exact this⟩
      have HMM : Kp (∀ q ∈ ofP l, q.1.size + q.2.size ≤ 140737488351232) := ⟨fun q hq => HS.it q (by
        have h7 := (List.mergeSort_perm (ofU l) leP).subset hq
        have := ofU_mem l k (by rw [HL.it]; omega) q
        rw [HLT.it] at this
        exact this h7)⟩
      have HLO : Kp ((ofP l).length = n5) := ⟨by unfold ofP; rw [List.length_mergeSort]; exact HP.it⟩
      go_wp2_with fail
      go_at_call 48
      refine (sort_p (.slice A5 n5 c5) (ofU l) wr (X + 2) HO.it (by rw [HP.it]; omega) HND.it).mono ?_
      rintro e w2 ⟨rfl, ho2, hg2⟩
      have ho2' : OwnP w2 (X + 2) (.slice A5 n5 c5) (ofP l) := ho2
      have SD2 : Kp (Sd ka kb X w2) := ⟨keep_blk SD.it hg2 (fun e => by have := (HO.it.lt _ e).1; omega)⟩
      have HB2 : Kp (Below X w w2) := ⟨below_ownP HB.it (by have := HG.it.lt; omega) HO.it (by omega) hg2⟩
      obtain ⟨A7, c7, hv7, _, hc7, hr7⟩ := ho2'.form (by rw [HLO.it]; omega)
      rw [HLO.it] at hv7 hc7 hr7
      cases hv7
      have R2 := Kp.mk hr7
      have HZ2 : Kp (X + 2 ≤ w2.heap.size) := ⟨by have h1 := hg2.size; have h2 := HG.it.lt; omega⟩
      have HCK : Kp (∀ w2', w2'.heap = w2.heap → w2'.os = w2.os → w2'.tape = w2.tape → w2'.output = w2.output → Calls Try.prog 50 #[.agg #[.int .u64 (ka.toNat : Int), .int .u64 (kb.toNat : Int)], .slice A5 n5 c5, .int .i64 0] w2' fun e w' => ∃ b, e = .returned (.pointer (some ⟨b, 0, none⟩)) ∧ Tr ka kb (fun b => X ≤ b) 4 (ofP l) w' b ∧ Sd ka kb X w' ∧ Below w2.heap.size w2 w') := ⟨fun w2' hh ho ht hp => by
        have hbl : Below w2.heap.size w2 w2' := ⟨ho, ht, hp, by rw [hh]; exact Nat.le_refl _, fun k _ => by rw [hh]⟩
        have := build_any ka kb 4 (Nat.le_refl _) (fun b => X ≤ b) A5 n5 c5 (ofP l) w2' ((R2.it.relax (fun q (hq : X + 2 ≤ q) _ => by omega)).below hbl) (fun q hq => by have h8 := hbl.size; have h9 := HZ2.it; omega) hn5 hc7 HMM.it
        rw [show ((4 - 4 : Nat) : Int) = 0 from rfl] at this
        refine this.mono ?_
        rintro e w' ⟨b, rfl, h1, _, h3⟩
        have h4 : Below w2.heap.size w2 w' := hbl.trans (h3.mono hbl.size)
        exact ⟨b, rfl, h1, SD2.it.below h4, h4⟩⟩
      have SDd : Kp (∀ w2', w2'.heap = w2.heap → Sd ka kb X w2') := ⟨fun w2' hh => by unfold Sd; rw [hh]; exact SD2.it⟩
      obtain ⟨s0, s1, slt⟩ := SD2.it.opens
      clear ho2 ho2' hg2 hr7 HO HG SD HB
      go_wp2_with fail
      go_region_with (go_at_call 50; refine (HCK.it w2.drew rfl rfl rfl rfl).mono ?_; rintro e w3 ⟨b, rfl, ht3, hs3, hb3⟩; have T3 := Kp.mk ht3; have B3 := Kp.mk hb3; obtain ⟨q0, q1, qlt⟩ := hs3.opens; clear ht3 hs3 hb3)
      all_goals
        change Exit.then _ _ Exit.normal (Act.put _ (some 4) _) _
        simp only [Act.put, List.setIfInBounds_toArray, List.set_cons_succ, List.set_cons_zero]
        have TT : Kp (TreeS ka kb (fun b => X ≤ b) (ofP l) w3.heap.size (w3.alloc (.cells #[.int .u64 (ka.toNat : Int), .int .u64 (kb.toNat : Int), .pointer (some ⟨b, 0, none⟩), .int .i64 (n5 : Int)] 75))) := ⟨⟨by have h8 := B3.it.size; have h9 := HZ2.it; omega, b, by rw [HLO.it]; exact blk_new _ _, T3.it.below ((Below.refl _ _).alloc (Nat.le_refl _) _)⟩⟩
        have TB : Kp (Below X w (w3.alloc (.cells #[.int .u64 (ka.toNat : Int), .int .u64 (kb.toNat : Int), .pointer (some ⟨b, 0, none⟩), .int .i64 (n5 : Int)] 75))) := ⟨(HB2.it.trans (B3.it.mono (by have := HZ2.it; omega))).alloc (by have := B3.it.size; have := HZ2.it; omega) _⟩
        have TS : Kp (w.heap.size ≤ w3.heap.size) := ⟨by have := B3.it.size; have := HZ2.it; have := HX.it; omega⟩
        clear q0 q1 qlt s0 s1 slt
        go_wp2
        go_ret
        first
          | exact ⟨_, rfl, HX.it ▸ TT.it, TS.it, HX.it ▸ TB.it⟩
          | exact ⟨_, rfl, HX.it ▸ TT.it.below (below_drewN (Below.refl _ _) 1), TS.it, HX.it ▸ below_drewN TB.it 1⟩
theorem of_any (ka kb : BitVec 64) (A : Option Addr) (n c : Nat) (l : List Pr) (w : World) (S0 : Nat → Prop) (h : RP w S0 A n l) (hn : n ≤ 1000) (hs : ∀ p ∈ l, p.1.size + p.2.size ≤ 140737488351232) :
    Calls Try.prog 14 #[.agg #[.int .u64 (ka.toNat : Int), .int .u64 (kb.toNat : Int)], .slice A n c] w fun e w' => ∃ t, e = .returned (.pointer (some ⟨t, 0, none⟩)) ∧ TreeAt ka kb (ofP l) t w' ∧ w.heap.size ≤ t ∧ Below w.heap.size w w' :=
  (of_s ka kb A n c l w S0 h hn hs).mono fun _ _ ⟨t, e, h1, h2, h3⟩ => ⟨t, e, h1.any, h2, h3⟩
end Go.Proofs.Ytcmkjoepndbicaa
