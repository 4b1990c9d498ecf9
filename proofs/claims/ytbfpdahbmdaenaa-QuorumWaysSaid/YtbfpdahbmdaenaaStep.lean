/-
  QuorumWays: its two closures.
-/
import Derived.Test.YtbfpdahbmdaenaaDel
import Derived.Test.YtbfpdahbmdaenaaMays
namespace Go.Proofs.Ytbfpdahbmdaenaa
open Go Go.RowKit

set_option maxHeartbeats 1000000 in
theorem drop_any (A : Option Addr) (n c : Nat) (xs : List Int) (y : Int) (w : World) (h : Rd w A n xs) (e : A = none → c = 0) : Calls Try.prog 36 #[.slice A n c, .int .i64 y] w fun e w' =>
    ∃ v, e = .returned v ∧ Own w' w.heap.size v (xs.filter (fun x => x != y)) ∧ Below w.heap.size w w' := by
  have hb0 : Below w.heap.size w (w.alloc (.cells #[.int .i64 y] 3)) := (Below.refl _ _).alloc (Nat.le_refl _) _
  have HC := Kp.mk (clone_any A n c xs _ (h.below hb0) e)
  have HL : Kp (xs.length * 8 ≤ 140737488351232) := ⟨h.le⟩
  have HB0 := Kp.mk hb0
  clear h e hb0
  go_enter Try.func36, Try.ntmps36
  go_wp2_with fail
  refine HC.it.mono ?_
  rintro e w1 ⟨v, rfl, ho, hb1⟩
  have hc : w1.cell? ⟨w.heap.size, 0, none⟩ = some (.int .i64 y) := (hb1.cell (p := ⟨w.heap.size, 0, none⟩) (by simp)).trans (blk_cell (blk_new _ _) rfl)
  have HD := Kp.mk (delete_any w.heap.size y v xs w1 _ (by simp) hc ho HL.it)
  have HO := Kp.mk ho
  have HB1 := Kp.mk (HB0.it.trans (hb1.mono (by simp)))
  have HBS : Kp (∀ k, v.ownBlock = some k → w.heap.size ≤ k) := ⟨fun k hk => by have := ho.base_le k hk; simp at this; omega⟩
  clear ho hb1 hc
  obtain ⟨A', c', rfl, _⟩ := HO.it.form
  obtain ⟨m, hm⟩ : ∃ m, m = xs.length := ⟨_, rfl⟩
  rw [← hm] at HD HBS
  rw [← hm]
  clear hm HO
  go_wp2_with fail
  refine HD.it.mono ?_
  rintro e w2 ⟨v2, rfl, ho2, hg2⟩
  have HO2 := Kp.mk (ho2.relax (base' := w.heap.size) (by simp))
  have HB2 := Kp.mk (HB1.it.grown hg2 HB1.it.size HBS.it)
  clear ho2 hg2
  obtain ⟨A2, c2, hv2, _⟩ := HO2.it.form
  obtain ⟨m2, hm2⟩ : ∃ m2, m2 = (xs.filter (fun x => x != y)).length := ⟨_, rfl⟩
  rw [← hm2] at hv2
  subst hv2
  clear hm2
  go_wp2
  go_ret
  exact ⟨_, rfl, HO2.it, HB2.it⟩

/-- Where the closure keeps its roster. -/
structure At (w : World) (b : Nat) (A1 : Option Addr) (n1 c1 : Nat) (A2 : Option Addr) (n2 c2 : Nat) (vs ls : List Int) : Prop where
  box : w.heap[b]? = some (.cells #[.slice A1 n1 c1, .slice A2 n2 c2] 24 (0, 0))
  r1 : Rd w A1 n1 vs
  r2 : Rd w A2 n2 ls
  e1 : A1 = none → c1 = 0
  e2 : A2 = none → c2 = 0
theorem At.below {w w' : World} {b : Nat} {A1 : Option Addr} {n1 c1 : Nat} {A2 : Option Addr} {n2 c2 : Nat} {vs ls : List Int} (h : At w b A1 n1 c1 A2 n2 c2 vs ls) (hb : Below w.heap.size w w') : At w' b A1 n1 c1 A2 n2 c2 vs ls :=
  ⟨by rw [hb.block b (Array.getElem?_eq_some_iff.1 h.box).1]; exact h.box, h.r1.below hb, h.r2.below hb, h.e1, h.e2⟩

set_option maxHeartbeats 1000000 in
theorem step_any (b : Nat) (A1 : Option Addr) (n1 c1 : Nat) (A2 : Option Addr) (n2 c2 : Nat) (vs ls : List Int) (A3 : Option Addr) (n3 c3 : Nat) (A4 : Option Addr) (n4 c4 : Nat) (vs' ls' : List Int) (w : World)
    (h : At w b A1 n1 c1 A2 n2 c2 vs ls) (h3 : Rd w A3 n3 vs') (h4 : Rd w A4 n4 ls') (e3 : A3 = none → c3 = 0) (e4 : A4 = none → c4 = 0) (hm : errM vs ls vs' ls' = 0) :
    Calls Try.prog 35 #[.agg #[.slice A3 n3 c3, .slice A4 n4 c4], .pointer (some ⟨b, 0, none⟩)] w fun e w' => e = .returned (.bool true) ∧ Below b w w' ∧ At w' b A3 n3 c3 A4 n4 c4 vs' ls' := by
  have hlt : b < w.heap.size := (Array.getElem?_eq_some_iff.1 h.box).1
  have hb0 : Below w.heap.size w (w.alloc (.cells #[.slice A3 n3 c3, .slice A4 n4 c4] 24)) := (Below.refl _ _).alloc (Nat.le_refl _) _
  have h0 := h.below hb0
  have HM := Kp.mk (may_any A1 A2 n1 c1 n2 c2 vs ls A3 A4 n3 c3 n4 c4 vs' ls' _ h0.r1 h0.r2 (h3.below hb0) (h4.below hb0))
  rw [hm] at HM
  have z0 : w.cell? ⟨b, 0, none⟩ = some (.slice A1 n1 c1) := blk_cell h.box rfl
  have z1 : w.cell? ⟨b, 1, none⟩ = some (.slice A2 n2 c2) := blk_cell h.box rfl
  have H := Kp.mk h
  have H3 := Kp.mk h3
  have H4 := Kp.mk h4
  have E3 := Kp.mk e3
  have E4 := Kp.mk e4
  have HB0 := Kp.mk hb0
  clear h h3 h4 e3 e4 hb0 h0 hm
  go_enter Try.func35, Try.ntmps35
  go_wp2_with fail
  refine HM.it.mono ?_
  rintro e w2 ⟨rfl, hb2⟩
  have hsz : w.heap.size + 1 ≤ w2.heap.size := by have := hb2.size; simpa using this
  have y0 : w2.cell? ⟨w.heap.size, 0, none⟩ = some (.slice A3 n3 c3) := (hb2.cell (p := ⟨w.heap.size, 0, none⟩) (by simp)).trans (blk_cell (blk_new _ _) rfl)
  have y1 : w2.cell? ⟨w.heap.size, 1, none⟩ = some (.slice A4 n4 c4) := (hb2.cell (p := ⟨w.heap.size, 1, none⟩) (by simp)).trans (blk_cell (blk_new _ _) rfl)
  have hb3 : Below w.heap.size w w2 := HB0.it.trans (hb2.mono (by simp))
  have hbox : w2.heap[b]? = some (.cells #[.slice A1 n1 c1, .slice A2 n2 c2] 24 (0, 0)) := by rw [hb3.block b hlt]; exact H.it.box
  have z0 : w2.cell? ⟨b, 0, none⟩ = some (.slice A1 n1 c1) := blk_cell hbox rfl
  have z1 : w2.cell? ⟨b, 1, none⟩ = some (.slice A2 n2 c2) := blk_cell hbox rfl
  have f0 : w2.frozen? ⟨b, 0, none⟩ = false := blk_free hbox
  have f1 : w2.frozen? ⟨b, 1, none⟩ = false := blk_free hbox
  have HBX := Kp.mk hbox
  have HB3 := Kp.mk hb3
  clear hb2 hb3 hbox
  go_wp2
  go_ret
  refine ⟨rfl, ((HB3.it.mono (Nat.le_of_lt hlt)).setCell (Nat.le_refl _) _).setCell (Nat.le_refl _) _, ⟨by rw [blk_set _ (blk_set _ HBX.it)]; rfl, ?_, ?_, E3.it, E4.it⟩⟩
  · exact ((H3.it.below HB3.it).box HBX.it (fun _ _ h => by cases h) (fun _ _ h => by cases h) 0 _).box (blk_set _ HBX.it) (fun _ _ h => by cases h) (fun _ _ h => by cases h) 1 _
  · exact ((H4.it.below HB3.it).box HBX.it (fun _ _ h => by cases h) (fun _ _ h => by cases h) 0 _).box (blk_set _ HBX.it) (fun _ _ h => by cases h) (fun _ _ h => by cases h) 1 _

end Go.Proofs.Ytbfpdahbmdaenaa
