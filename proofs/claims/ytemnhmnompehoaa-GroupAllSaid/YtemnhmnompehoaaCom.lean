/-
  A part is done up to a place: Commit.
-/
import Derived.Test.YtemnhmnompehoaaGet
namespace Go.Proofs.Ytemnhmnompehoaa
open Go Go.RowKit
attribute [local go_sem ↓] Go.wp_at_zero Go.wp_at_succ

set_option maxHeartbeats 2000000 in
theorem commit_err {w : World} {p : Nat} (s : ByteArray) (m t q pos E : Int) (hE : (E == 0) = false) (HO : Calls Try.prog 31 #[.pointer (some ⟨p, 0, none⟩), .string s, .int .i64 m, .int .i64 t, .int .i64 q] w fun e w' => e = .returned (.int .i64 E) ∧ Below w.heap.size w w') :
    Calls Try.prog 46 #[.pointer (some ⟨p, 0, none⟩), .string s, .int .i64 m, .int .i64 t, .int .i64 q, .int .i64 pos] w fun e w' => e = .returned (.int .i64 E) ∧ Below w.heap.size w w' := by
  have HO := Kp.mk HO
  go_enter Try.func46, Try.ntmps46
  go_wp2_with (go_at_call 31; refine HO.it.mono ?_; rintro e w1 ⟨rfl, hb1⟩)
  go_ret
  exact ⟨rfl, hb1⟩

theorem own_at {w : World} {base b c j : Nat} {xs : List Int} (h : Own w base (.slice (some ⟨b, 0, none⟩) xs.length c) xs) (hj : j < xs.length) : w.cell? ⟨b, j, none⟩ = some (.int .i64 (rd xs j)) := by
  have := World.ownsRow.cellAt h j (by omega)
  rw [this, rd_lt hj]
  simp [List.getElem?_eq_getElem hj]
theorem own_set {w : World} {base b c j : Nat} {xs : List Int} {v : Int} (h : Own w base (.slice (some ⟨b, 0, none⟩) xs.length c) xs) : Own (w.setCell ⟨b, j, none⟩ (.int .i64 v)) base (.slice (some ⟨b, 0, none⟩) (xs.set j v).length c) (xs.set j v) ∧ w.grownBy (w.setCell ⟨b, j, none⟩ (.int .i64 v)) (some b) := by
  obtain ⟨h1, h2⟩ := World.ownsRow.stored h j (.int .i64 v)
  refine ⟨?_, h2⟩
  unfold Own
  rw [List.length_set, List.map_set]
  exact h1
theorem RG.same {w : World} {A : Option Addr} {n : Nat} {l : List Gv} {i : Nat} {x y : Gv} (h : RG w A n l) (hx : l[i]? = some x) (hc : y.cells = x.cells) : RG w A n (l.set i y) :=
  ⟨by rw [List.length_set]; exact h.len, h.bd, fun hn => by
    obtain ⟨g, cur, e, h2, h3, h4, h5⟩ := h.row hn
    refine ⟨g, cur, e, h2, h3, h4, fun k z hz q hq => ?_⟩
    have hi := (List.getElem?_eq_some_iff.1 hx).1
    by_cases hk : i = k
    · subst hk
      rw [List.getElem?_set_self hi] at hz
      cases hz
      rw [hc]
      exact h5 i x hx q hq
    · rw [List.getElem?_set_ne hk] at hz
      exact h5 k z hz q hq⟩
theorem Ow.same {w0 w : World} {p i g c : Nat} {l : List Gv} {x y : Gv} (h : Ow w0 w p l i g c x) (hi : i < l.length) (hc : y.cells = x.cells) : Ow w0 w p l i g c y :=
  ⟨h.hp, by have := h.row.same (h.get hi) hc; rw [List.set_set] at this; exact this, h.gr, h.hg⟩
def Gp.done (x : Gp) (j : Nat) (pos : Int) : Gp := { x with att := x.att.set j pos }
set_option maxHeartbeats 8000000 in
theorem commit_ok {w : World} {p : Nat} {A : Option Addr} {c : Nat} {l : List Gv} (h : Gs w p A c l) (s : ByteArray) (k : Nat) (x : Gv) (hn : whereN s.toList l = k) (hx : l[k]? = some x) (m t : Int) (j : Nat) (pos : Int)
    (hi : inB x.x.mem m = true) (ht : (t == x.x.term) = true) (hj : j < x.x.own.length) (hd : rd x.x.own j = m) (hja : j < x.x.att.length) (hp0 : rd x.x.att j ≤ pos) (hp1 : pos ≤ 1099511627776) (hs : x.x.small) :
    Calls Try.prog 46 #[.pointer (some ⟨p, 0, none⟩), .string s, .int .i64 m, .int .i64 t, .int .i64 j, .int .i64 pos] w fun e w' =>
    e = .returned (.int .i64 0) ∧ ∃ A' c' x', Gs w' p A' c' (l.set k x') ∧ x'.x = x.x.done j pos ∧ w.grownBy w' (some p) := by
  have HX := Kp.mk hx
  have HA := Kp.mk h
  have HN := Kp.mk hn
  have HS := Kp.mk hs
  have OI := Kp.mk (owns_6 h s k x hn hx m t j hi ht hj hd)
  have hkl : k < l.length := (List.getElem?_eq_some_iff.1 hx).1
  have hk0 : (0 : Int) ≤ ↑k := by omega
  have hk1 : (↑k : Int) < ↑l.length := by omega
  have hbd := h.row.bd
  have hlt := h.lt
  have hj0 : (0 : Int) ≤ ↑j := by omega
  have hj1 : (↑j : Int) < ↑x.x.att.length := by omega
  have hat0 : 0 < x.x.att.length := by omega
  obtain ⟨b, o, hA, _, _⟩ := (h.ok x (List.mem_of_getElem? hx)).t.cells (by omega)
  have HT := Kp.mk hA
  clear h hx hn hi ht hd hs hA
  go_enter Try.func46, Try.ntmps46
  go_wp2_with (first | (go_at_call 31; refine OI.it.mono ?_; rintro e w1 ⟨rfl, hb1⟩; have B1 := Kp.mk hb1; have G1 := Kp.mk (HA.it.below hb1); clear hb1) | (go_at_call 64; refine (find_at G1.it s k HN.it).mono ?_; rintro e w2 ⟨rfl, hb2⟩; have B2 := Kp.mk hb2; have G2 := Kp.mk (G1.it.below hb2); clear hb2; have z0 := G2.it.c0; obtain ⟨g0, rfl, hg0, b0, b1, b2, b3, b4, b5, b6⟩ := G2.it.row.get HX.it; rw [HT.it] at b6; obtain ⟨b', o', hA', hbl, hcc⟩ := (G2.it.ok x (List.mem_of_getElem? HX.it)).t.get hja; rw [HT.it] at hA'; cases hA') | (go_at_call 73; refine (own_any G2.it k x HX.it).mono ?_; rintro e w3 ⟨g, c3, ⟨yx, E1, d1, E2, d2, E3, d3⟩, rfl, hO, hyx, hF⟩; (have hyx' : yx = x.x := hyx); subst hyx'; have O3 := Kp.mk hO; have F3 := Kp.mk hF; clear hO hF hyx; obtain ⟨hg3, y0, y1, y2, y3, y4, y5, y6, _⟩ := O3.it.row.cells (O3.it.get hkl); obtain ⟨bt, dt, hE3, hbt, hlt3⟩ := World.ownsRow.form F3.it.t hat0; cases hE3; have ft := World.ownsRow.frozenAt F3.it.t j; have qt := own_at F3.it.t hja))
  go_ret
  obtain ⟨S1, S2⟩ := own_set (j := j) (v := pos) F3.it.t
  have hne := F3.it.t.ne_row O3.it.row (by omega) (k := bt) rfl
  have hlt2 : p < w2.heap.size := by have := B1.it.size; have := B2.it.size; omega
  have F4 : Fresh (w3.setCell ⟨bt, j, none⟩ (.int .i64 pos)) w2.heap.size ⟨x.x.done j pos, E1, d1, E2, d2, some ⟨bt, 0, none⟩, d3⟩ :=
    ⟨F3.it.m.grow (u := .slice (some ⟨bt, 0, none⟩) x.x.att.length d3) S2 F3.it.mt, F3.it.o.grow (u := .slice (some ⟨bt, 0, none⟩) x.x.att.length d3) S2 F3.it.ot, S1, F3.it.mo, F3.it.mt, F3.it.ot⟩
  have hsm : (x.x.done j pos).small := ⟨HS.it.m, HS.it.o, by show (x.x.att.set j pos).length ≤ 1000; rw [List.length_set]; exact HS.it.t⟩
  have O4 : Ow w2 (w3.setCell ⟨bt, j, none⟩ (.int .i64 pos)) p l k g c3 ⟨x.x.done j pos, E1, d1, E2, d2, some ⟨bt, 0, none⟩, d3⟩ :=
    (O3.it.kept hlt2 S2 (fun q hq => by cases hq; exact ⟨hbt, hne⟩)).same hkl (by unfold Gv.cells Gp.done; dsimp only; rw [List.length_set])
  exact ⟨rfl, _, _, _, O4.gs G2.it (F4.ok hsm), rfl, grown_trans (B1.it.trans (B2.it.mono B1.it.size)) O4.gr⟩
