/-
  One member less: Leave.
-/
import Derived.Test.YtemnhmnompehoaaCom
import Derived.Test.YtemnhmnompehoaaDel2
namespace Go.Proofs.Ytemnhmnompehoaa
open Go Go.RowKit
attribute [local go_sem ↓] Go.wp_at_zero Go.wp_at_succ

def woM (m : Int) (xs : List Int) : List Int := xs.filter (fun z => !isM m z)
def Gp.left (x : Gp) (m : Int) : Gp := { x with mem := woM m x.mem }.anew
theorem woM_len (m : Int) (xs : List Int) : (woM m xs).length ≤ xs.length := List.length_filter_le _ _
set_option maxHeartbeats 8000000 in
theorem leave_ok {w : World} {p : Nat} {A : Option Addr} {c : Nat} {l : List Gv} (h : Gs w p A c l) (s : ByteArray) (k : Nat) (x : Gv) (m : Int) (hn : whereN s.toList l = k) (hx : l[k]? = some x)
    (hi : inB x.x.mem m = true) (ht0 : 0 ≤ x.x.term) (ht1 : x.x.term < 1099511627776) (hs : x.x.small) (hw1 : ∀ m ∈ x.x.own, Wf m) (hw2 : ∀ m ∈ x.x.mem, Wf m) :
    Calls Try.prog 45 #[.pointer (some ⟨p, 0, none⟩), .string s, .int .i64 m] w fun e w' =>
    e = .returned (.int .i64 0) ∧ ∃ A' c' x', Gs w' p A' c' (l.set k x') ∧ x'.x = x.x.left m ∧ w.grownBy w' (some p) := by
  have HX := Kp.mk hx
  have HI := Kp.mk hi
  have hb0 : Below w.heap.size w (w.alloc (.cells #[.int .i64 m] 3)) := (Below.refl _ w).alloc (Nat.le_refl _) _
  have HA : Kp (Gs (w.alloc (.cells #[.int .i64 m] 3)) p A c l) := ⟨h.below hb0⟩
  have B0 := Kp.mk hb0
  have X0 : Kp ((w.alloc (.cells #[.int .i64 m] 3)).heap[w.heap.size]? = some (.cells #[.int .i64 m] 3 (0, 0))) := ⟨blk_new _ _⟩
  have hsz : Kp ((w.alloc (.cells #[.int .i64 m] 3)).heap.size = w.heap.size + 1) := ⟨by simp⟩
  have FI := Kp.mk (find_at HA.it s k hn)
  have hkl : k < l.length := (List.getElem?_eq_some_iff.1 hx).1
  have hk0 : (0 : Int) ≤ ↑k := by omega
  have hk1 : (↑k : Int) < ↑l.length := by omega
  have hbd := h.row.bd
  have hlt := h.lt
  have HS := Kp.mk hs
  have V1 := Kp.mk hw1
  have V2 := Kp.mk hw2
  clear h hx hn hs hw1 hw2 hb0 hi
  go_enter Try.func45, Try.ntmps45
  go_wp2_with (first | (go_at_call 64; refine FI.it.mono ?_; rintro e w1 ⟨rfl, hb1⟩; have B1 := Kp.mk hb1; have G1 := Kp.mk (HA.it.below hb1); have hsz1 := hb1.size; rw [hsz.it] at hsz1; have X1 : Kp (w1.heap[w.heap.size]? = some (.cells #[.int .i64 m] 3 (0, 0))) := ⟨(hb1.block _ (by rw [hsz.it]; omega)).trans X0.it⟩; clear hb1; have z0 := G1.it.c0; obtain ⟨g0, rfl, hg0, b0, b1, b2, b3, b4, b5, b6⟩ := G1.it.row.get HX.it; have K1 := Kp.mk (G1.it.ok x (List.mem_of_getElem? HX.it)); have x1 := blk_cell X1.it (show (#[Value.int .i64 m])[0]? = some _ from rfl)))
  have CT : Kp (∀ q, Calls Try.prog 19 #[.slice x.mA x.x.mem.length x.mc, .int .i64 m] (w1.drewN q) fun e w' => e = .returned (.bool true) ∧ w' = w1.drewN q) := ⟨fun q => by have := contains_any x.mA x.x.mem.length x.mc x.x.mem m (w1.drewN q) (K1.it.m.drewN q); rw [HI.it] at this; exact this.mono fun _ _ ⟨a, b⟩ => ⟨a, b.symm⟩⟩
  go_quiet ((go_at_call 19; exact Calls.quiet_of_same (CT.it _)))
  go_wp2_with (first | (go_at_call 73; refine (own_any (G1.it.below (below_drewN (Below.refl _ _) _)) k x HX.it).mono ?_; rintro e w2 ⟨g, c2, ⟨yx, E1, d1, E2, d2, E3, d3⟩, rfl, hO, hyx, hF⟩; (have hyx' : yx = x.x := hyx); subst hyx'; have O2 : Kp (Ow w1 w2 p l k g c2 ⟨x.x, E1, d1, E2, d2, E3, d3⟩) := ⟨⟨hO.hp, hO.row, ⟨hO.gr.os, hO.gr.tape, hO.gr.output, hO.gr.size, hO.gr.block⟩, hO.hg⟩⟩; have F2 : Kp (Fresh w2 w1.heap.size ⟨x.x, E1, d1, E2, d2, E3, d3⟩) := ⟨hF⟩; clear hO hF hyx; obtain ⟨hg2, y0, y1, y2, y3, y4, y5, y6, f0, f1, f2, f3, f4, f5, f6⟩ := O2.it.row.cells (O2.it.get hkl); have X2 : Kp (w2.heap[w.heap.size]? = some (.cells #[.int .i64 m] 3 (0, 0))) := ⟨(O2.it.gr.block _ (by omega) (by intro e; injection e with e; omega)).trans X1.it⟩) | (go_at_call 56; refine (delB_at w.heap.size m (.slice E1 x.x.mem.length d1) x.x.mem w2 w1.heap.size (by omega) (blk_cell X2.it rfl) F2.it.m (by have := HS.it.m; omega)).mono ?_; rintro e w3 ⟨v3, rfl, o3, hg3, hv3⟩; obtain ⟨A3, c3, rfl, hr3⟩ := o3.form; have P3 := Kp.mk o3; have Q3 := Kp.mk hg3; have A3' := Kp.mk hv3; clear o3 hg3 hv3 hr3; have O3 : Kp (Ow w1 w3 p l k g c2 ⟨x.x, E1, d1, E2, d2, E3, d3⟩) := ⟨O2.it.kept (by omega) Q3.it (fun q hq => ⟨F2.it.m.base_le q hq, F2.it.m.ne_row O2.it.row (by omega) hq⟩)⟩; obtain ⟨hg3', m0, m1, m2, m3, m4, m5, m6, n0, n1, n2, n3, n4, n5, n6⟩ := O3.it.row.cells (O3.it.get hkl)))
  obtain ⟨y, hy⟩ : ∃ y : Gv, y = ⟨{ x.x with mem := woM m x.x.mem }, A3, c3, E2, d2, E3, d3⟩ := ⟨_, rfl⟩
  obtain ⟨cur3, hc3⟩ := O3.it.row.blk (by omega)
  have O4 : Kp (Ow w1 (w3.setCell ⟨g, k * 7 + 4, none⟩ (.slice A3 (woM m x.x.mem).length c3)) p l k g c2 y) := ⟨O3.it.store hkl (by omega) (by rw [hy]; rfl) (by omega)⟩
  have F4 : Kp (Fresh (w3.setCell ⟨g, k * 7 + 4, none⟩ (.slice A3 (woM m x.x.mem).length c3)) w1.heap.size y) := ⟨by
    rw [hy]
    have q1 := P3.it.far (k := k * 7 + 4) (u := .slice A3 (woM m x.x.mem).length c3) hc3 (by decide)
    have q2 := (F2.it.o.grow Q3.it F2.it.mo.symm).far (k := k * 7 + 4) (u := .slice A3 (woM m x.x.mem).length c3) hc3 (by decide)
    have q3 := (F2.it.t.grow Q3.it F2.it.mt.symm).far (k := k * 7 + 4) (u := .slice A3 (woM m x.x.mem).length c3) hc3 (by decide)
    exact ⟨q1, q2, q3, (F2.it.o.next' F2.it.mo.symm (.inl A3'.it)).symm, (F2.it.t.next' F2.it.mt.symm (.inl A3'.it)).symm, F2.it.ot⟩⟩
  have YX : Kp (y.x.anew = x.x.left m) := ⟨by rw [hy]; rfl⟩
  have hlen := woM_len m x.x.mem
  have AG := Kp.mk (again_any O4.it F4.it (by rw [hy]; exact ⟨Nat.le_trans hlen HS.it.m, HS.it.o, HS.it.t⟩) hkl (by omega) (by rw [hy]; exact ht0) (by rw [hy]; exact Int.le_of_lt ht1) (by rw [hy]; exact V1.it) (by
    rw [hy]
    intro z hz
    exact V2.it z (List.mem_filter.1 hz).1))
  have hso : (share y.x.own y.x.mem).length ≤ 1000 := by rw [share_len, hy]; exact HS.it.o
  have SM : Kp y.x.anew.small := ⟨⟨by rw [hy]; exact Nat.le_trans hlen HS.it.m, hso, by rw [hy]; exact HS.it.t⟩⟩
  clear hy hso hlen
  unfold woM at AG
  go_wp2_with fail
  go_at_call 74
  refine AG.it.mono ?_
  rintro e w5 ⟨rfl, z, hz, hO5, hF5⟩
  have ZX := Kp.mk hz
  have O5 := Kp.mk hO5
  have F5 := Kp.mk hF5
  clear hz hO5 hF5
  go_wp2
  go_ret
  exact ⟨rfl, _, _, _, O5.it.gs G1.it (F5.it.ok (by rw [ZX.it]; exact SM.it)), ZX.it.trans YX.it, grown_trans (B0.it.trans (B1.it.mono (by rw [hsz.it]; omega))) O5.it.gr⟩
