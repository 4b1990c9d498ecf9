/-
  build above the bottom.
-/
import Derived.Test.YtcmkjoepndbicaaBui
import Derived.Deep.RegionLaw
namespace Go.Proofs.Ytcmkjoepndbicaa
open Go Go.RowKit

theorem Fan.at_ {w w1 : World} {X d : Nat} {F : Nat → Value} {L : Nat → List Pr} (h : Fan w X F L) (hd : d < 16) (hg : w.grownBy w1 (F d).ownBlock) :
    w1.cell? ⟨X, d, none⟩ = some (F d) ∧ w1.frozen? ⟨X, d, none⟩ = false ∧ X < w1.heap.size := by
  have hX : X < w.heap.size := (Array.getElem?_eq_some_iff.1 h.blk).1
  have hb : w1.heap[X]? = some (.cells (fans F) 129 (0, 0)) := (hg.block X hX (by
    intro e
    have := ((h.own d hd).lt X e.symm).1
    omega)).trans h.blk
  exact ⟨blk_cell hb (fans_get F hd), blk_free hb, (Array.getElem?_eq_some_iff.1 hb).1⟩
theorem keep_blk {w w1 : World} {b : Nat} {o : Option Nat} {x : Obj} (h : w.heap[b]? = some x) (hg : w.grownBy w1 o) (hne : o ≠ some b) : w1.heap[b]? = some x :=
  (hg.block b (Array.getElem?_eq_some_iff.1 h).1 (fun e => hne e.symm)).trans h
theorem Fan.cells {w : World} {X : Nat} {F : Nat → Value} {L : Nat → List Pr} (h : Fan w X F L) : ∀ d, d < 16 → w.cell? ⟨X, d, none⟩ = some (F d) := fun _ hd => blk_cell h.blk (fans_get F hd)
theorem index_fans (F : Nat → Value) (i : Nat) (hi : i < 16) {A : Option Addr} {n c : Nat} (hF : F i = .slice A n c) (w : World) : (Instr.index 129 (.agg (fans F)) (.int .i64 (i : Int))).run Try.prog w = .ok (.slice A n c) w := by
  have hg := fans_get F hi
  rw [hF] at hg
  simp [Instr.index, go_sem, hg]
  intro h
  omega
theorem Rb.same {w w' : World} {S : Nat → Prop} {A : Option Addr} {n : Nat} {bs : List UInt8} (h : Rb w A n bs) (hs : Same S w w') (hA : ∀ b o s, A = some ⟨b, o, s⟩ → S b) : Rb w' A n bs :=
  ⟨h.len, h.bd, fun hn => by
    obtain ⟨b, o, e, hl, hc⟩ := h.cells hn
    exact ⟨b, o, e, Nat.lt_of_lt_of_le hl hs.1, fun j hj => (hs.cell (hA b o none e) hl).trans (hc j hj)⟩⟩
theorem OwnB.blk {W : World} {base : Nat} {A : Option Addr} {n c : Nat} {l : List UInt8} (h : OwnB W base (.slice A n c) l) : ∀ b o s, A = some ⟨b, o, s⟩ → base ≤ b ∧ b < W.heap.size := by
  rintro b o s rfl
  unfold OwnB at h
  exact h.lt b rfl
/-- One kid more. -/
theorem kid_step {ka kb : BitVec 64} {f X at_ i m c7 c8 b' : Nat} {A4 A7 A8 : Option Addr} {bl : List Nat} {l : List Pr} {w wo w2 w3 : World} {bs : List UInt8}
    (HBL : bl.length = i) (BX : X + 3 ≤ wo.heap.size) (SD2 : Sd ka kb X w2) (PX3 : Px 0 (.slice A7 i c7) (.slice none 0 0) (X + 1) w3)
    (Q2 : OwnQ w2 wo.heap.size (.slice A7 i c7) bl) (O3 : OwnQ w3 wo.heap.size (.slice A8 (i + 1) c8) (bl ++ [b'])) (G3 : w2.grownBy w3 (Value.slice A7 i c7).ownBlock)
    (X3 : (Value.slice A8 (i + 1) c8).ownBlock = (Value.slice A7 i c7).ownBlock ∨ ∃ b, (Value.slice A8 (i + 1) c8).ownBlock = some b ∧ w2.heap.size ≤ b)
    (T : ∀ j b, bl[j]? = some b → Tr ka kb (fun b => X + 3 ≤ b ∧ (Value.slice A7 i c7).ownBlock ≠ some b) f (kid ka kb at_ j l) w2 b)
    (T2 : Tr ka kb (fun b => X + 3 ≤ b ∧ (Value.slice A7 i c7).ownBlock ≠ some b) f (kid ka kb at_ i l) w2 b')
    (HWO : Same (fun b => X + 3 ≤ b ∧ b < wo.heap.size) wo w2) (HRB : Rb w2 A4 m bs)
    (HAB : ∀ b o s, A4 = some ⟨b, o, s⟩ → (X + 3 ≤ b ∧ (Value.slice A7 i c7).ownBlock ≠ some b) ∧ b < w2.heap.size) (HB : Below X w w2) (hXs : X ≤ w2.heap.size) :
    (fun w4 => Sd ka kb X w4 ∧ Px 0 (.slice A8 (i + 1) c8) (.slice none 0 0) (X + 1) w4 ∧ OwnQ w4 wo.heap.size (.slice A8 (i + 1) c8) (bl ++ [b']) ∧ (∀ j b, (bl ++ [b'])[j]? = some b → Tr ka kb (fun b => X + 3 ≤ b ∧ (Value.slice A8 (i + 1) c8).ownBlock ≠ some b) f (kid ka kb at_ j l) w4 b) ∧ Same (fun b => X + 3 ≤ b ∧ b < wo.heap.size) wo w4 ∧ Rb w4 A4 m bs ∧ (∀ b o s, A4 = some ⟨b, o, s⟩ → (X + 3 ≤ b ∧ (Value.slice A8 (i + 1) c8).ownBlock ≠ some b) ∧ b < w4.heap.size) ∧ Below X w w4) (w3.setCell ⟨X + 1, 1, none⟩ (.slice A8 (i + 1) c8)) := by
  have h7 : ∀ b, (Value.slice A7 i c7).ownBlock = some b → wo.heap.size ≤ b := fun b e => (Q2.lt b e).1
  have hup : ∀ b, (X + 3 ≤ b ∧ (Value.slice A7 i c7).ownBlock ≠ some b) → b < w2.heap.size → (X + 3 ≤ b ∧ (Value.slice A8 (i + 1) c8).ownBlock ≠ some b) := by
    intro b hb hl
    refine ⟨hb.1, fun e => ?_⟩
    rcases X3 with h | ⟨q, h, hq⟩
    · rw [h] at e
      exact hb.2 e
    · rw [h] at e
      injection e
      omega
  have hs : Same (fun b => X + 3 ≤ b ∧ (Value.slice A7 i c7).ownBlock ≠ some b) w2 (w3.setCell ⟨X + 1, 1, none⟩ (.slice A8 (i + 1) c8)) := (Same.of_grown G3 (fun b hb => hb.2)).trans (Same.of_set w3 _ (fun h => by have := h.1; omega))
  have htr : ∀ {j b : Nat}, Tr ka kb (fun b => X + 3 ≤ b ∧ (Value.slice A7 i c7).ownBlock ≠ some b) f (kid ka kb at_ j l) w2 b → Tr ka kb (fun b => X + 3 ≤ b ∧ (Value.slice A8 (i + 1) c8).ownBlock ≠ some b) f (kid ka kb at_ j l) (w3.setCell ⟨X + 1, 1, none⟩ (.slice A8 (i + 1) c8)) b := by
    intro j b h
    have h1 := Tr.relax (S' := fun b => (X + 3 ≤ b ∧ (Value.slice A7 i c7).ownBlock ≠ some b) ∧ (X + 3 ≤ b ∧ (Value.slice A8 (i + 1) c8).ownBlock ≠ some b)) (fun b hb hl => ⟨hb, hup b hb hl⟩) f h
    have h2 := Tr.same (hs.mono (S' := fun b => (X + 3 ≤ b ∧ (Value.slice A7 i c7).ownBlock ≠ some b) ∧ (X + 3 ≤ b ∧ (Value.slice A8 (i + 1) c8).ownBlock ≠ some b)) (fun k hk => hk.1)) f h1
    exact Tr.relax (fun b hb _ => hb.2) f h2
  refine ⟨?_, PX3.set1 _, O3.far (by omega), fun j b hj => ?_, HWO.trans (hs.mono (fun k hk => ⟨hk.1, fun e => by have := h7 k e; omega⟩)), HRB.same hs (fun b o s e => (HAB b o s e).1), fun b o s e => ?_, ?_⟩
  · exact (other_block _ _ _ (by show X ≠ X + 1; omega)).trans (keep_blk SD2 G3 (fun e => by have := h7 _ e; omega))
  · rcases Nat.lt_or_ge j bl.length with h | h
    · rw [List.getElem?_append_left h] at hj
      exact htr (T j b hj)
    · have hlt := (List.getElem?_eq_some_iff.1 hj).1
      rw [List.length_append, List.length_singleton] at hlt
      obtain rfl : j = bl.length := by omega
      rw [List.getElem?_append_right (Nat.le_refl _), Nat.sub_self] at hj
      cases hj
      rw [HBL]
      exact htr T2
  · obtain ⟨q1, q2⟩ := HAB b o s e
    exact ⟨hup b q1 q2, by rw [size_set]; exact Nat.lt_of_lt_of_le q2 G3.size⟩
  · exact (below_ownQ HB hXs Q2 (by omega) G3).setCell (by show X ≤ X + 1; omega) _
/-- All kids are there. -/
theorem kids_done {ka kb : BitVec 64} {f X at_ c7 : Nat} {A7 : Option Addr} {bl : List Nat} {l : List Pr} {wo w6 : World} {U : BitVec 64} {S : Nat → Prop}
    (hat : at_ = 3 - f) (hl : l ≠ []) (HBL : bl.length = 16) (BX : X + 3 ≤ wo.heap.size) (PX : Px 0 (.slice A7 16 c7) (.slice none 0 0) (X + 1) w6) (HU : digU ka kb (f + 1) l = U)
    (HQ : OwnQ w6 wo.heap.size (.slice A7 16 c7) bl) (T : ∀ j b, bl[j]? = some b → Tr ka kb (fun b => X + 3 ≤ b ∧ (Value.slice A7 16 c7).ownBlock ≠ some b) f (kid ka kb at_ j l) w6 b) (HS : ∀ b, X ≤ b → S b) :
    Tr ka kb S (f + 1) l (w6.setCell ⟨X + 1, 0, none⟩ (.int .u64 (U.toNat : Int))) (X + 1) := by
  obtain ⟨A', c', hv, hg⟩ := HQ.form
  rw [HBL] at hv hg
  cases hv
  obtain ⟨g, rfl, hg1, hg2, hgc⟩ := hg (by omega)
  refine ⟨HS _ (by omega), _, 16, _, by rw [HU]; exact PX.set0 U, .inr ⟨hl, rfl, g, rfl, HS _ (by omega), by rw [size_set]; exact hg2, fun i hi => ?_⟩⟩
  obtain ⟨k, hk⟩ : ∃ k, bl[i]? = some k := ⟨_, List.getElem?_eq_getElem (by omega)⟩
  refine ⟨k, (cell_other _ _ _ _ (by show g ≠ X + 1; omega)).trans (hgc i k hk), ?_⟩
  rw [← hat]
  exact Tr.relax (fun b hb _ => HS b (by have := hb.1; omega)) f (Tr.same (Same.of_set w6 _ (fun h => by have := h.1; omega)) f (T i k hk))
theorem Fan.drew {w : World} {X : Nat} {F : Nat → Value} {L : Nat → List Pr} (h : Fan w X F L) : Fan w.drew X F L := h.below ⟨rfl, rfl, rfl, Nat.le_refl _, fun _ _ => rfl⟩
set_option maxRecDepth 100000 in
set_option maxHeartbeats 8000000 in
theorem build_succ (ka kb : BitVec 64) (f : Nat) (hf : f ≤ 3) (ih : BuildOk ka kb f) : BuildOk ka kb (f + 1) := by
  intro S A n c l w h hbase hn hnc hs
  clear hnc
  have HL := Kp.mk h.len
  have H := Kp.mk h
  have HS := Kp.mk hs
  have HBs := Kp.mk hbase
  have IH := Kp.mk ih
  clear h hs hbase ih
  obtain ⟨at_, hat⟩ : ∃ a, a = 4 - (f + 1) := ⟨_, rfl⟩
  have HAT : Kp (at_ = 3 - f) := ⟨by omega⟩
  have hat3 : at_ ≤ 3 := by omega
  have HAF : Kp (4 - f = at_ + 1) := ⟨by omega⟩
  rw [← hat]
  clear hat
  have hq4 : ((at_ : Int) == 4) = false := by rw [beq_eq_false_iff_ne]; omega
  obtain ⟨kk, hkk⟩ : ∃ kk : Nat, kk = 60 - 4 * at_ := ⟨_, rfl⟩
  have hkz : (60 : Int) - 4 * (at_ : Int) = (kk : Int) := by omega
  have hk60 : kk ≤ 60 := by omega
  have HKK := Kp.mk hkk
  clear hkk
  go_enter Try.func50, Try.ntmps50
  go_upto_region 2 with fail
  refine wp_on (fun wx => wx.heap.size = w.heap.size + 2 ∧ Sd ka kb w.heap.size wx ∧ Px 0 (.slice none 0 0) (.slice none 0 0) (w.heap.size + 1) wx ∧ Below w.heap.size w wx) ⟨by simp, blk_old _ (blk_new _ _), blk_new1 _ _ _, ((Below.refl _ _).alloc (Nat.le_refl _) _).alloc (by simp) _⟩ (fun w1 hx => ?_)
  obtain ⟨hsz, hsd, hpx, hb⟩ := hx
  have SD := Kp.mk hsd
  have PX := Kp.mk hpx
  have B1 := Kp.mk hb
  have SZ := Kp.mk hsz
  clear hsd hpx hb hsz
  rcases Nat.eq_zero_or_pos n with h0 | h0
  · subst h0
    have hq : (((0 : Nat) : Int) == 0) = true := by decide
    have HE : Kp (l = []) := ⟨List.eq_nil_of_length_eq_zero HL.it⟩
    go_wp2
    go_ret
    exact ⟨_, rfl, by rw [HE.it]; exact tr_nil ka kb (f + 1) S (HBs.it _ (by omega)) PX.it, by omega, B1.it⟩
  · have hq : ((n : Int) == 0) = false := by rw [beq_eq_false_iff_ne]; omega
    obtain ⟨X, hX⟩ : ∃ X, X = w.heap.size := ⟨_, rfl⟩
    rw [← hX] at SD PX HBs SZ B1 ⊢
    have HX := Kp.mk hX
    clear hX
    go_upto_region 15 with fail
    refine wp_on (fun wx => Sd ka kb X wx ∧ Px 0 (.slice none 0 0) (.slice none 0 0) (X + 1) wx ∧ Fan wx w1.heap.size (fun _ => .slice none 0 0) (fun d => kid ka kb at_ d (l.take 0)) ∧ Below X w wx) ⟨blk_old _ SD.it, blk_old _ PX.it, ⟨blk_new _ _, fun d _ => OwnP.nil _ _, fun _ _ _ _ _ => .inl rfl⟩, B1.it.alloc (by have := B1.it.size; have := HX.it; omega) _⟩ (fun w2 hx => ?_)
    rw [SZ.it]
    rw [SZ.it] at hx
    obtain ⟨hsd, hpx, hfn, hb⟩ := hx
    have SD2 := Kp.mk hsd
    have PX2 := Kp.mk hpx
    have FN2 := Kp.mk hfn
    have B2 := Kp.mk hb
    clear hsd hpx hb hfn SD PX B1
    go_wp2
    go_loopw [56] (fun i wr => ∃ (k : Nat) (F : Nat → Value), k ≤ n ∧ i = .int .i64 k ∧ Kp (Sd ka kb X wr) ∧ Kp (Px 0 (.slice none 0 0) (.slice none 0 0) (X + 1) wr) ∧ Kp (Fan wr (X + 2) F (fun d => kid ka kb at_ d (l.take k))) ∧ Kp (Below X w wr)) (fun i _ => n - (intOf i).toNat)
    case atStart => exact ⟨0, _, by omega, rfl, SD2, PX2, FN2, B2⟩
    case round =>
      clear SD2 PX2 FN2 B2
      obtain ⟨k, F, hk, rfl, SD, PX, FN, HB⟩ := hrel
      obtain ⟨s0, s1, slt⟩ := SD.it.opens
      by_cases hkn : k < n
      · have hd : decide ((k : Int) < (n : Int)) = true := by simp; omega
        obtain ⟨x, hx⟩ : ∃ x, l[k]? = some x := ⟨_, List.getElem?_eq_getElem (by rw [HL.it]; exact hkn)⟩
        obtain ⟨b1, o1, hA, hb1, hl1, f0, f1⟩ := (H.it.same (Same.of_below (HX.it ▸ HB.it) S)).get hx
        cases hA
        have HKS : Kp (∀ i, kid ka kb at_ i (l.take (k + 1)) = if i = dg ka kb at_ x then kid ka kb at_ i (l.take k) ++ [x] else kid ka kb at_ i (l.take k)) := ⟨fun i => kid_succ ka kb at_ i l hx⟩
        have HSX := Kp.mk (HS.it x (List.mem_of_getElem? hx))
        clear hx
        go_upto_region 18 with fail
        refine wp_on (fun wz => wz.heap[wr.heap.size]? = some (.cells #[.string x.1, .string x.2] 43 (0, 0)) ∧ Below wr.heap.size wr wz) ⟨blk_new _ _, (Below.refl wr.heap.size wr).alloc (Nat.le_refl _) _⟩ (fun w4 h4 => ?_)
        obtain ⟨h4, hb4⟩ := h4
        have E4 := Kp.mk h4
        have B4 := Kp.mk hb4
        have SD4 := Kp.mk (SD.it.below hb4)
        clear h4 hb4 f0 f1 s0 s1
        have g0 : w4.cell? ⟨wr.heap.size, 0, none⟩ = some (.string x.1) := blk_cell E4.it rfl
        have hlt4 := (Array.getElem?_eq_some_iff.1 E4.it).1
        obtain ⟨s0, s1, slt4⟩ := SD4.it.opens
        go_wp2_with fail
        go_at_call 21
        refine (place_d ka kb x.1 w4 (by have := HSX.it; omega)).mono ?_
        rintro e w5 ⟨rfl, hb5⟩
        have B5 := Kp.mk (B4.it.trans (hb5.mono B4.it.size))
        have E5 : Kp (w5.heap[wr.heap.size]? = some (.cells #[.string x.1, .string x.2] 43 (0, 0))) := ⟨(hb5.block _ hlt4).trans E4.it⟩
        clear hb5 g0 s0 s1 hlt4 slt4 slt
        have hbt := dg_bits ka kb at_ x
        rw [← HKK.it] at hbt
        obtain ⟨d, hdd⟩ : ∃ d, d = dg ka kb at_ x := ⟨_, rfl⟩
        have hd16 : d < 16 := by rw [hdd]; exact dg_lt ka kb at_ x
        rw [← hdd] at hbt HKS
        clear hdd
        have hdz : (d : Int) < 16 := by omega
        obtain ⟨PL, hPL⟩ : ∃ PL, PL = (sumU ka kb x.1.data.toList).toNat := ⟨_, rfl⟩
        rw [← hPL] at hbt ⊢
        clear hPL
        go_upto_region 19 with fail
        have FN5 := Kp.mk (FN.it.below B5.it)
        obtain ⟨A5, c5, hF5, _, _, _⟩ := (FN5.it.own d hd16).form (by have := kid_le ka kb at_ d (l.take k); rw [List.length_take, HL.it] at this; omega)
        obtain ⟨L5, hL5⟩ : ∃ L, L = kid ka kb at_ d (l.take k) := ⟨_, rfl⟩
        have O5 := Kp.mk (FN5.it.drew.own d hd16)
        have HN5 : Kp (L5.length + 1 ≤ 100000) := ⟨by rw [hL5]; have := kid_le ka kb at_ d (l.take k); rw [List.length_take, HL.it] at this; omega⟩
        rw [← hL5] at hF5 O5
        have HL5 := Kp.mk hL5
        clear hL5
        obtain ⟨z5, y5, hX5⟩ := FN5.it.at_ hd16 (World.grownBy.refl _ _)
        rw [hF5] at z5 O5
        have HF5 := Kp.mk hF5
        clear hF5
        have g0 : w5.cell? ⟨wr.heap.size, 0, none⟩ = some (.string x.1) := blk_cell E5.it rfl
        have g1 : w5.cell? ⟨wr.heap.size, 1, none⟩ = some (.string x.2) := blk_cell E5.it rfl
        have hlt5 := (Array.getElem?_eq_some_iff.1 E5.it).1
        have hz5 : X + 2 + 1 ≤ w5.heap.size := hX5
        obtain ⟨m5, hm5⟩ : ∃ m, m = L5.length := ⟨_, rfl⟩
        rw [← hm5] at z5 O5 HF5
        have HM5 := Kp.mk hm5
        clear hm5
        have G6' : ∀ (w6 : World), w5.drew.grownBy w6 (Value.slice A5 m5 c5).ownBlock → w5.grownBy w6 (Value.slice A5 m5 c5).ownBlock := fun w6 h => ⟨h.os, h.tape, h.output, h.size, h.block⟩
        have HOB : Kp (∀ q, (Value.slice A5 m5 c5).ownBlock = some q → X + 2 + 1 ≤ q) := ⟨fun q hq => (O5.it.lt q hq).1⟩
        have SD5 := Kp.mk (SD.it.below B5.it)
        have PX5 := Kp.mk (PX.it.below B5.it)
        have HB5 := Kp.mk (HB.it.trans (B5.it.mono (by have := HB.it.size; have := HX.it; omega)))
        have G6K := Kp.mk G6'
        clear G6'
        go_region_law (refine step_p1 (W := w5.drew) rfl (.tmp 72) (.tmp 74) rfl (X + 2 + 1) (.slice A5 m5 c5) L5 x rfl rfl O5.it hz5 HN5.it ?_; intro g cap w6 ho6 hg6 hat6; have O6 := Kp.mk ho6; have G6 := Kp.mk hg6; have A6 := Kp.mk hat6; obtain ⟨z6, y6, lt6⟩ := FN5.it.drew.at_ hd16 (by rw [HF5.it]; exact hg6); clear ho6 hg6 hat6)
        all_goals
          have HFIN : Kp (Sd ka kb X (w6.setCell ⟨X + 2, d, none⟩ (.slice (some ⟨g, 0, none⟩) (L5.length + 1) cap)) ∧ Px 0 (.slice none 0 0) (.slice none 0 0) (X + 1) (w6.setCell ⟨X + 2, d, none⟩ (.slice (some ⟨g, 0, none⟩) (L5.length + 1) cap)) ∧
              Fan (w6.setCell ⟨X + 2, d, none⟩ (.slice (some ⟨g, 0, none⟩) (L5.length + 1) cap)) (X + 2) (upd F d (.slice (some ⟨g, 0, none⟩) (L5.length + 1) cap)) (fun i => kid ka kb at_ i (l.take (k + 1))) ∧ Below X w (w6.setCell ⟨X + 2, d, none⟩ (.slice (some ⟨g, 0, none⟩) (L5.length + 1) cap))) := ⟨by
            have hg := G6K.it w6 G6.it
            refine ⟨?_, ?_, ?_, ?_⟩
            · exact (other_block _ _ _ (by show X ≠ X + 2; omega)).trans (keep_blk SD5.it hg (fun e => by have := HOB.it _ e; omega))
            · exact (other_block _ _ _ (by show X + 1 ≠ X + 2; omega)).trans (keep_blk PX5.it hg (fun e => by have := HOB.it _ e; omega))
            · have hp := FN5.it.put hd16 O6.it (by rw [HF5.it]; exact hg) (by
                rw [HF5.it]
                rcases A6.it with e | e
                · exact .inl e
                · exact .inr ⟨g, rfl, e⟩)
              have e : (fun i => if i = d then L5 ++ [x] else kid ka kb at_ i (l.take k)) = fun i => kid ka kb at_ i (l.take (k + 1)) := by
                funext i
                rw [HKS.it i]
                by_cases h : i = d
                · rw [if_pos h, if_pos h, h, HL5.it]
                · rw [if_neg h, if_neg h]
              rw [e] at hp
              exact hp
            · exact (below_ownP (below_drewN HB5.it 1) (by have := HB5.it.size; have := HX.it; show X ≤ w5.heap.size; omega) O5.it (by omega) G6.it).setCell (by show X ≤ X + 2; omega) _⟩
          go_wp2
          go_roundw
          case rel => exact ⟨k + 1, _, by omega, by go_num, ⟨HFIN.it.1⟩, ⟨HFIN.it.2.1⟩, ⟨HFIN.it.2.2.1⟩, ⟨HFIN.it.2.2.2⟩⟩
          case measure => simp [intOf]; omega
      · obtain rfl : k = n := by omega
        have hd : decide ((k : Int) < (k : Int)) = false := by simp
        have HLT : Kp (l.take k = l) := ⟨List.take_of_length_le (by rw [HL.it]; omega)⟩
        rw [HLT.it] at FN
        have hz := FN.it.cells
        have z0 := hz 0 (by decide)
        have z1 := hz 1 (by decide)
        have z2 := hz 2 (by decide)
        have z3 := hz 3 (by decide)
        have z4 := hz 4 (by decide)
        have z5 := hz 5 (by decide)
        have z6 := hz 6 (by decide)
        have z7 := hz 7 (by decide)
        have z8 := hz 8 (by decide)
        have z9 := hz 9 (by decide)
        have z10 := hz 10 (by decide)
        have z11 := hz 11 (by decide)
        have z12 := hz 12 (by decide)
        have z13 := hz 13 (by decide)
        have z14 := hz 14 (by decide)
        have z15 := hz 15 (by decide)
        have hlX := (Array.getElem?_eq_some_iff.1 FN.it.blk).1
        clear hz s0 s1 slt
        go_upto_region 23 with fail
        obtain ⟨arr, harr⟩ : ∃ arr, Value.agg #[F 0, F 1, F 2, F 3, F 4, F 5, F 6, F 7, F 8, F 9, F 10, F 11, F 12, F 13, F 14, F 15] = arr := ⟨_, rfl⟩
        rw [harr]
        have HARR := Kp.mk harr
        clear harr z0 z1 z2 z3 z4 z5 z6 z7 z8 z9 z10 z11 z12 z13 z14 z15 hlX hk hkn
        have FR : Kp (∀ d, d < 16 → ∃ A2 n2 c2, F d = .slice A2 n2 c2 ∧ (n2 : Nat) ≤ 1000 ∧ n2 ≤ c2 ∧ RP wr (fun b => X + 2 + 1 ≤ b) A2 n2 (kid ka kb at_ d l)) := ⟨fun d hd => by
          have hl := kid_le ka kb at_ d l
          rw [HL.it] at hl
          obtain ⟨A2, c2, e, _, hc2, hr⟩ := (FN.it.own d hd).form (by omega)
          exact ⟨A2, _, c2, e, by omega, hc2, hr⟩⟩
        have BX : Kp (X + 3 ≤ wr.heap.size) := ⟨(Array.getElem?_eq_some_iff.1 FN.it.blk).1⟩
        clear FN
        obtain ⟨wo, rfl⟩ : ∃ wo : World, wo = wr := ⟨_, rfl⟩
        go_loopw [15, 79] (fun bb ii wr => ∃ (i m : Nat) (A4 : Option Addr) (c4 : Nat) (A7 : Option Addr) (c7 : Nat) (bl : List Nat), i ≤ 16 ∧ ii = .int .i64 i ∧ bb = .slice A4 m c4 ∧ Kp (m = 8 * i) ∧ m ≤ 128 ∧ m ≤ c4 ∧ Kp (bl.length = i) ∧ Kp (A4 = none → c4 = 0) ∧ Kp (Rb wr A4 m ((List.range i).flatMap fun d => sgB (digU ka kb f (kid ka kb at_ d l)).toNat)) ∧ Kp (∀ b o s, A4 = some ⟨b, o, s⟩ → (X + 3 ≤ b ∧ (Value.slice A7 i c7).ownBlock ≠ some b) ∧ b < wr.heap.size) ∧ Kp (Sd ka kb X wr) ∧ Kp (Px 0 (.slice A7 i c7) (.slice none 0 0) (X + 1) wr) ∧ Kp (OwnQ wr wo.heap.size (.slice A7 i c7) bl) ∧
          Kp (∀ j b, bl[j]? = some b → Tr ka kb (fun b => X + 3 ≤ b ∧ (Value.slice A7 i c7).ownBlock ≠ some b) f (kid ka kb at_ j l) wr b) ∧ Kp (Same (fun b => X + 3 ≤ b ∧ b < wo.heap.size) wo wr) ∧ Kp (Below X w wr)) (fun _ i _ => 16 - (intOf i).toNat)
        case atStart => exact ⟨0, 0, none, 0, none, 0, [], by omega, rfl, rfl, ⟨rfl⟩, by omega, by omega, ⟨rfl⟩, ⟨fun _ => rfl⟩, ⟨⟨rfl, by decide, fun h => absurd h (by decide)⟩⟩, ⟨fun b o s h => by cases h⟩, SD, PX, ⟨OwnQ.nil _ _⟩, ⟨fun j b h => by simp at h⟩, ⟨⟨Nat.le_refl _, fun _ _ _ => rfl⟩⟩, HB⟩
        case round =>
          clear SD PX HB
          obtain ⟨i, m, A4, c4, A7, c7, bl, hi, rfl, rfl, hm8, hm128, hmc, HBL, HN, HRB, HAB, SD, PX, HQ, HT, HWO, HB⟩ := hrel
          have hXs : X ≤ wr.heap.size := by have h1 := HB.it.size; have h2 := HX.it; omega
          have hXo : X + 3 ≤ wr.heap.size := by have h1 := HWO.it.1; have h2 := BX.it; omega
          by_cases hi16 : i < 16
          · have hd6 : decide ((i : Int) < 16) = true := by simp; omega
            obtain ⟨A2, n2, c2, hF, hn2, hnc2, hrp⟩ := FR.it i hi16
            have hix : ∀ w, Sem.run Try.prog (Instr.index 129 arr (.int .i64 (i : Int))) w = .ok (.slice A2 n2 c2) w := fun w => by rw [← HARR.it]; exact index_fans F i hi16 hF w
            have hrp2 : RP wr (fun b => X + 3 ≤ b ∧ (Value.slice A7 i c7).ownBlock ≠ some b) A2 n2 (kid ka kb at_ i l) :=
              ((hrp.relax (S' := fun b => X + 3 ≤ b ∧ b < wo.heap.size) (fun b h1 h2 => ⟨h1, h2⟩)).same HWO.it).relax (fun b h1 h2 => ⟨h1.1, fun e => by have := (HQ.it.lt b e).1; omega⟩)
            have hcall := IH.it _ A2 n2 c2 (kid ka kb at_ i l) wr hrp2 (fun b hb => ⟨by omega, fun e => by have := (HQ.it.lt b e).2; omega⟩) hn2 hnc2 (fun p hp => HS.it p (List.mem_filter.1 hp).1)
            rw [HAF.it, show ((at_ + 1 : Nat) : Int) = (at_ : Int) + 1 by omega] at hcall
            have HC := Kp.mk hcall
            clear hcall hrp hrp2 hF hnc2
            obtain ⟨s0, s1, slt⟩ := SD.it.opens
            go_wp2_with fail
            go_at_call 50
            refine HC.it.mono ?_
            rintro e w2 ⟨b', rfl, ht2, hb'l, hb2⟩
            clear hix s0 s1 slt HC
            have SD2 := Kp.mk (SD.it.below hb2)
            have PX2 := Kp.mk (PX.it.below hb2)
            have Q2 := Kp.mk (HQ.it.below hb2)
            have T2 := Kp.mk ht2
            have B2 := Kp.mk hb2
            have hw2 : wr.heap.size ≤ w2.heap.size := hb2.size
            have HLQ : Kp ((bl ++ [b']).length = i + 1) := ⟨by simp [HBL.it]⟩
            have HBL2 : Kp (bl.length + 1 ≤ 100000) := ⟨by rw [HBL.it]; omega⟩
            have hzo : wo.heap.size ≤ w2.heap.size := by have := HWO.it.1; omega
            obtain ⟨x0, x1, x2, y0, y1, y2, hlt⟩ := PX2.it.opens
            clear ht2 hb2
            go_upto_region 27 with (refine app_q rfl (.tmp 91) (.tmp 93) rfl wo.heap.size _ bl b' rfl rfl Q2.it hzo HBL2.it ?_; intro v1 w3 ho3 hg3 hx3; obtain ⟨A8, c8, hv8, _⟩ := ho3.form; rw [HLQ.it] at hv8; subst hv8; have O3 := Kp.mk ho3; have G3 := Kp.mk hg3; have X3 := Kp.mk hx3; have P3 : Px 0 (.slice A7 i c7) (.slice none 0 0) (X + 1) w3 := keep_blk PX2.it hg3 (fun e => by have := (Q2.it.lt _ e).1; have := BX.it; omega); obtain ⟨x0, x1, x2, y0, y1, y2, hlt⟩ := P3.opens; have PX3 := Kp.mk P3; clear P3 ho3 hg3 hx3)
            refine wp_on (fun w4 => Sd ka kb X w4 ∧ Px 0 (.slice A8 (i + 1) c8) (.slice none 0 0) (X + 1) w4 ∧ OwnQ w4 wo.heap.size (.slice A8 (i + 1) c8) (bl ++ [b']) ∧ (∀ j b, (bl ++ [b'])[j]? = some b → Tr ka kb (fun b => X + 3 ≤ b ∧ (Value.slice A8 (i + 1) c8).ownBlock ≠ some b) f (kid ka kb at_ j l) w4 b) ∧ Same (fun b => X + 3 ≤ b ∧ b < wo.heap.size) wo w4 ∧ Rb w4 A4 m ((List.range i).flatMap fun d => sgB (digU ka kb f (kid ka kb at_ d l)).toNat) ∧ (∀ b o s, A4 = some ⟨b, o, s⟩ → (X + 3 ≤ b ∧ (Value.slice A8 (i + 1) c8).ownBlock ≠ some b) ∧ b < w4.heap.size) ∧ Below X w w4) ?_ (fun w4 h4 => ?_)
            · exact kid_step HBL.it BX.it SD2.it PX3.it Q2.it O3.it G3.it X3.it (fun j b h => (HT.it j b h).below B2.it) T2.it (HWO.it.trans (Same.of_below B2.it _)) (HRB.it.below B2.it) (fun b o s e => ⟨(HAB.it b o s e).1, Nat.lt_of_lt_of_le (HAB.it b o s e).2 B2.it.size⟩) (HB.it.trans (B2.it.mono hXs)) (by omega)
            · obtain ⟨h1, h2, h3, h4, h5, h6, h7, h8⟩ := h4
              have SD4 := Kp.mk h1
              have PX4 := Kp.mk h2
              have Q4 := Kp.mk h3
              have T4 := Kp.mk h4
              have W4 := Kp.mk h5
              have R4 := Kp.mk h6
              have AB4 := Kp.mk h7
              have HB4 := Kp.mk h8
              obtain ⟨blt, bs0⟩ := (h4 i b' (by rw [List.getElem?_append_right (by rw [HBL.it]; omega), HBL.it, Nat.sub_self]; rfl)).sum
              clear h1 h2 h3 h4 h5 h6 h7 h8 x0 x1 x2 y0 y1 y2 hlt
              obtain ⟨U, hU⟩ : ∃ U, U = digU ka kb f (kid ka kb at_ i l) := ⟨_, rfl⟩
              rw [← hU] at bs0
              have HU := Kp.mk hU
              have hu := wrap_back U
              clear hU
              go_wp2_with fail
              obtain ⟨SS, hSS⟩ : ∃ S, S = wrap64 (U.toNat : Int) := ⟨_, rfl⟩
              rw [← hSS] at hu ⊢
              have HUU := Kp.mk hu
              clear hSS hu
              go_at_call 77
              refine (signed_any A4 m c4 _ SS U.toNat w4 R4.it HN.it HUU.it (by omega)).mono ?_
              rintro e w6 ⟨v6, rfl, ho6, hb6⟩
              have HLL : Kp (((List.range i).flatMap fun d => sgB (digU ka kb f (kid ka kb at_ d l)).toNat).length = m) := ⟨R4.it.len⟩
              obtain ⟨A6, c6, rfl, hn6, hc6, hr6⟩ := ho6.form (by rw [List.length_append, HLL.it, sgB_len]; omega)
              rw [List.length_append, HLL.it, sgB_len] at hc6 hr6 ho6 ⊢
              have R6 : Kp (Rb w6 A6 (m + 8) ((List.range (i + 1)).flatMap fun d => sgB (digU ka kb f (kid ka kb at_ d l)).toNat)) := ⟨by
                rw [List.range_succ, List.flatMap_append]
                have e : ([i].flatMap fun d => sgB (digU ka kb f (kid ka kb at_ d l)).toNat) = sgB U.toNat := by simp [HU.it]
                rw [e]
                exact hr6⟩
              have N6 := Kp.mk hn6
              have AB6 : Kp (∀ b o s, A6 = some ⟨b, o, s⟩ → (X + 3 ≤ b ∧ (Value.slice A8 (i + 1) c8).ownBlock ≠ some b) ∧ b < w6.heap.size) := ⟨fun b o s e => by
                obtain ⟨q1, q2⟩ := ho6.blk b o s e
                exact ⟨⟨by have := W4.it.1; have := BX.it; omega, fun e2 => by have := (Q4.it.lt b e2).2; omega⟩, q2⟩⟩
              have SD6 := Kp.mk (SD4.it.below hb6)
              have PX6 := Kp.mk (PX4.it.below hb6)
              have Q6 := Kp.mk (Q4.it.below hb6)
              have T6 : Kp (∀ j b, (bl ++ [b'])[j]? = some b → Tr ka kb (fun b => X + 3 ≤ b ∧ (Value.slice A8 (i + 1) c8).ownBlock ≠ some b) f (kid ka kb at_ j l) w6 b) := ⟨fun j b h => (T4.it j b h).below hb6⟩
              have W6 := Kp.mk (W4.it.trans (Same.of_below hb6 _))
              have HB6 := Kp.mk (HB4.it.trans (hb6.mono (by have := HB4.it.size; have := HX.it; omega)))
              clear ho6 hb6 hn6 hr6 bs0 blt
              go_wp2
              go_roundw
              case rel => exact ⟨i + 1, m + 8, A6, c6, A8, c8, bl ++ [b'], by omega, by go_num, rfl, ⟨by have := hm8.it; omega⟩, by have := hm8.it; omega, hc6, HLQ, N6, R6, AB6, SD6, PX6, Q6, T6, W6, HB6⟩
              case measure => simp [intOf]; omega
          · obtain rfl : i = 16 := by omega
            have hd6 : decide (((16 : Nat) : Int) < 16) = false := by decide
            obtain ⟨s0, s1, slt⟩ := SD.it.opens
            go_wp2_with fail
            go_at_call 19
            refine (sum_any A4 m c4 _ ka kb wr HRB.it hmc).mono ?_
            rintro e w6 ⟨rfl, hb6⟩
            have PX6 := Kp.mk (PX.it.below hb6)
            have Q6 := Kp.mk (HQ.it.below hb6)
            have B6 := Kp.mk hb6
            have HB6 := Kp.mk (HB.it.trans (hb6.mono hXs))
            obtain ⟨x0, x1, x2, y0, y1, y2, hlt⟩ := PX6.it.opens
            obtain ⟨U, hU⟩ : ∃ U, U = sumU ka kb ((List.range 16).flatMap fun d => sgB (digU ka kb f (kid ka kb at_ d l)).toNat) := ⟨_, rfl⟩
            rw [← hU]
            have HLN : Kp (l ≠ []) := ⟨by intro h; have := HL.it; rw [h] at this; simp at this; omega⟩
            have HU : Kp (digU ka kb (f + 1) l = U) := ⟨by
              rw [hU, HAT.it]
              show (if l = [] then 0 else _) = _
              rw [if_neg HLN.it]⟩
            clear hU hb6 s0 s1 slt
            go_wp2
            go_ret
            exact ⟨_, rfl, kids_done HAT.it HLN.it HBL.it BX.it PX6.it HU.it Q6.it (fun j b h => (HT.it j b h).below B6.it) (fun b hb => HBs.it b (by have := HX.it; omega)), by have := HX.it; omega, HX.it ▸ HB6.it.setCell (by show X ≤ X + 1; omega) _⟩
theorem build_any (ka kb : BitVec 64) : ∀ f, f ≤ 4 → BuildOk ka kb f
  | 0, _ => build_zero ka kb
  | f + 1, h => build_succ ka kb f (by omega) (build_any ka kb f (by omega))
end Go.Proofs.Ytcmkjoepndbicaa
