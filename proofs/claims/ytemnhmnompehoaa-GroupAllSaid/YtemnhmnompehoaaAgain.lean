/-
  A group's parts are shared anew: again.
-/
import Derived.Test.YtemnhmnompehoaaGow
namespace Go.Proofs.Ytemnhmnompehoaa
open Go Go.RowKit
attribute [local go_sem ↓] Go.wp_at_zero Go.wp_at_succ

theorem Ow.get {w0 w : World} {p i g c : Nat} {l : List Gv} {x : Gv} (_ : Ow w0 w p l i g c x) (hi : i < l.length) : (l.set i x)[i]? = some x := List.getElem?_set_self hi
theorem Ow.store {w0 w : World} {p i g c : Nat} {l : List Gv} {x y : Gv} (h : Ow w0 w p l i g c x) (hi : i < l.length) {j : Nat} {v : Value} (hj : j < 7) (hc : y.cells = x.cells.set j v) (hlt : p < w0.heap.size) :
    Ow w0 (w.setCell ⟨g, i * 7 + j, none⟩ v) p l i g c y := by
  have hg := h.hg
  refine ⟨?_, ?_, ?_, h.hg⟩
  · rw [other_block _ _ _ (show p ≠ g by omega)]; exact h.hp
  · have := h.row.store (h.get hi) hj hc
    rw [List.set_set] at this
    exact this
  · exact h.gr.andThen (grown_set (World.grownBy.refl w (some g)) _ _) (fun k hk => by cases hk; exact .inl hg)
theorem Ow.kept {w0 w w' : World} {p i g c : Nat} {l : List Gv} {x : Gv} {r : Option Nat} (h : Ow w0 w p l i g c x) (hlt : p < w0.heap.size) (hg : w.grownBy w' r) (hr : ∀ k, r = some k → w0.heap.size ≤ k ∧ k ≠ g) : Ow w0 w' p l i g c x := by
  refine ⟨?_, ?_, h.gr.andThen hg (fun k hk => .inl (hr k hk).1), h.hg⟩
  · have hpw : p < w.heap.size := Nat.lt_of_lt_of_le hlt h.gr.size
    exact (hg.block p hpw (by intro e; have := (hr p e.symm).1; omega)).trans h.hp
  · exact h.row.kept hg (by intro e; exact (hr g e.symm).2 rfl)
theorem grows_below {B : Nat} {w w' : World} (h : Below B w w') (hB : w.heap.size ≤ B) (r : Option Nat) : w.grownBy w' r := ⟨h.os, h.tape, h.output, h.size, fun k hk _ => h.block k (by omega)⟩
theorem Fresh.below {w w' : World} {base : Nat} {x : Gv} (h : Fresh w base x) (hb : Below w.heap.size w w') : Fresh w' base x := ⟨h.m.below hb, h.o.below hb, h.t.below hb, h.mo, h.mt, h.ot⟩

def Gp.anew (x : Gp) : Gp := { x with term := x.term + 1, own := share x.own x.mem }
set_option maxHeartbeats 4000000 in
theorem again_any {w0 w : World} {p i g c : Nat} {l : List Gv} {x : Gv} (h : Ow w0 w p l i g c x) (hF : Fresh w w0.heap.size x) (hs : x.x.small) (hi : i < l.length) (hlt : p < w0.heap.size)
    (ht0 : 0 ≤ x.x.term) (ht1 : x.x.term ≤ 1099511627776) (hw1 : ∀ m ∈ x.x.own, Wf m) (hw2 : ∀ m ∈ x.x.mem, Wf m) : Calls Try.prog 74 #[.pointer (some ⟨g, i * 7, none⟩)] w fun e w' =>
    e = .returned (.tuple #[]) ∧ ∃ x', x'.x = x.x.anew ∧ Ow w0 w' p l i g c x' ∧ Fresh w' w0.heap.size x' := by
  have HO := Kp.mk h
  have HF := Kp.mk hF
  have HS := Kp.mk hs
  have V1 := Kp.mk hw1
  have V2 := Kp.mk hw2
  obtain ⟨hg1, b0, b1, b2, b3, b4, b5, b6, e0, e1, e2, e3, e4, e5, e6⟩ := h.row.cells (h.get hi)
  clear h hF hs hw1 hw2
  go_enter Try.func74, Try.ntmps74
  go_wp2
  obtain ⟨y, hy⟩ : ∃ y : Gv, y = { x with x := { x.x with term := x.x.term + 1 } } := ⟨_, rfl⟩
  obtain ⟨W, hW⟩ : ∃ W, W = w.setCell ⟨g, i * 7 + 2, none⟩ (.int .i64 (x.x.term + 1)) := ⟨_, rfl⟩
  have O2 : Kp (Ow w0 W p l i g c y) := ⟨by rw [hW, hy]; exact HO.it.store hi (by omega) rfl hlt⟩
  have F2 : Kp (Fresh W w0.heap.size y) := ⟨by
    obtain ⟨cur, hcur⟩ := HO.it.row.blk (by omega)
    have := HF.it.far (k := i * 7 + 2) (u := .int .i64 (x.x.term + 1)) hcur (by decide)
    rw [hW, hy]; exact ⟨this.m, this.o, this.t, this.mo, this.mt, this.ot⟩⟩
  have S2 : Kp y.x.small := ⟨by rw [hy]; exact ⟨HS.it.m, HS.it.o, HS.it.t⟩⟩
  have YX : Kp (y.x = { x.x with term := x.x.term + 1 }) := ⟨by rw [hy]⟩
  have U1 : Kp (∀ m ∈ y.x.own, Wf m) := ⟨by rw [hy]; exact V1.it⟩
  have U2 : Kp (∀ m ∈ y.x.mem, Wf m) := ⟨by rw [hy]; exact V2.it⟩
  rw [← hW]
  clear hW hy HO HF HS V1 V2 b0 b1 b2 b3 b4 b5 b6 e0 e1 e2 e3 e4 e5 e6
  obtain ⟨hgW, b0, b1, b2, b3, b4, b5, b6, e0, e1, e2, e3, e4, e5, e6⟩ := O2.it.row.cells (O2.it.get hi)
  have GK : Kp (GOk W y) := ⟨F2.it.ok S2.it⟩
  have CS : ∀ w3, Below W.drew.heap.size W.drew w3 → Ow w0 w3 p l i g c y := fun w3 hb => O2.it.kept (r := none) hlt (grows_below ((below_drew (Below.refl W.heap.size W)).trans hb) (Nat.le_refl _) none) (fun k hk => by cases hk)
  go_region_with (first
    | (go_at_call 16; refine (share_any y.oA y.mA _ y.oc _ y.mc y.x.own y.x.mem _ GK.it.drew.o GK.it.drew.m GK.it.nm U1.it U2.it (by have := S2.it.o; omega) (by have := S2.it.m; omega)).mono ?_; rintro e w3 ⟨v3, rfl, o3, hb3⟩; obtain ⟨A3, c3, rfl, hr3⟩ := o3.form; have P3 := Kp.mk o3; have B3 := Kp.mk hb3; clear o3 hb3 hr3;
       have O3 : Kp (Ow w0 w3 p l i g c y) := ⟨CS w3 B3.it⟩
       obtain ⟨_, m0, m1, m2, m3, m4, m5, m6, n0, n1, n2, n3, n4, n5, n6⟩ := O3.it.row.cells (O3.it.get hi)))
  all_goals
    go_end0
    obtain ⟨cur, hcur⟩ := O3.it.row.blk (by omega)
    have hW0 : w0.heap.size ≤ W.heap.size := O2.it.gr.size
    have hbb : Below W.heap.size W w3 := (below_drew (Below.refl W.heap.size W)).trans B3.it
    refine ⟨rfl, { y with x := { y.x with own := share y.x.own y.x.mem }, oA := A3, oc := c3 }, ?_, O3.it.store hi (by omega) rfl hlt, (F2.it.m.below hbb).far hcur (by decide), (P3.it.far hcur (by decide)).relax hW0, (F2.it.t.below hbb).far hcur (by decide), dj_of F2.it.m P3.it (Nat.le_refl _), F2.it.mt, (dj_of F2.it.t P3.it (Nat.le_refl _)).symm⟩
    dsimp only
    rw [YX.it]
    rfl
