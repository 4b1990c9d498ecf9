/-
  A group that may be changed: own.
-/
import Derived.Test.YtemnhmnompehoaaGap
namespace Go.Proofs.Ytemnhmnompehoaa
open Go Go.RowKit
attribute [local go_sem ↓] Go.wp_at_zero Go.wp_at_succ

/-- A group whose slices are the call's own, each one's block another one. -/
structure Fresh (w : World) (base : Nat) (g : Gv) : Prop where
  m : Own w base (.slice g.mA g.x.mem.length g.mc) g.x.mem
  o : Own w base (.slice g.oA g.x.own.length g.oc) g.x.own
  t : Own w base (.slice g.tA g.x.att.length g.tc) g.x.att
  mo : Dj (.slice g.mA g.x.mem.length g.mc) (.slice g.oA g.x.own.length g.oc)
  mt : Dj (.slice g.mA g.x.mem.length g.mc) (.slice g.tA g.x.att.length g.tc)
  ot : Dj (.slice g.oA g.x.own.length g.oc) (.slice g.tA g.x.att.length g.tc)
/-- No list is longer than this. -/
structure Gp.small (x : Gp) : Prop where
  m : x.mem.length ≤ 1000
  o : x.own.length ≤ 1000
  t : x.att.length ≤ 1000
theorem Fresh.ok {w : World} {base : Nat} {g : Gv} (h : Fresh w base g) (hs : g.x.small) : GOk w g := by
  obtain ⟨A1, c1, e1, n1, l1, _, r1⟩ := h.m.form3 (by have := hs.m; omega)
  obtain ⟨A2, c2, e2, n2, l2, _, r2⟩ := h.o.form3 (by have := hs.o; omega)
  obtain ⟨A3, c3, e3, n3, l3, _, r3⟩ := h.t.form3 (by have := hs.t; omega)
  cases e1
  cases e2
  cases e3
  exact ⟨r1, r2, r3, n1, n2, n3, l1, l2, l3⟩
/-- Between own and the end: the row is another one, and element i may be written. -/
structure Ow (w0 w : World) (p : Nat) (l : List Gv) (i g c : Nat) (x : Gv) : Prop where
  hp : w.heap[p]? = some (.cells #[.slice (some ⟨g, 0, none⟩) l.length c, .bool true] 68 (0, 0))
  row : RG w (some ⟨g, 0, none⟩) l.length (l.set i x)
  gr : w0.grownBy w (some p)
  hg : w0.heap.size ≤ g

theorem RG.cells {w : World} {g n : Nat} {l : List Gv} (h : RG w (some ⟨g, 0, none⟩) n l) {k : Nat} {x : Gv} (hx : l[k]? = some x) :
    g < w.heap.size ∧ w.cell? ⟨g, k * 7, none⟩ = some (.string x.x.name) ∧ w.cell? ⟨g, k * 7 + 1, none⟩ = some (.int .i64 x.x.sub) ∧ w.cell? ⟨g, k * 7 + 2, none⟩ = some (.int .i64 x.x.term) ∧
      w.cell? ⟨g, k * 7 + 3, none⟩ = some (.int .i64 x.x.next) ∧ w.cell? ⟨g, k * 7 + 4, none⟩ = some (.slice x.mA x.x.mem.length x.mc) ∧ w.cell? ⟨g, k * 7 + 5, none⟩ = some (.slice x.oA x.x.own.length x.oc) ∧ w.cell? ⟨g, k * 7 + 6, none⟩ = some (.slice x.tA x.x.att.length x.tc) ∧
      w.frozen? ⟨g, k * 7, none⟩ = false ∧ w.frozen? ⟨g, k * 7 + 1, none⟩ = false ∧ w.frozen? ⟨g, k * 7 + 2, none⟩ = false ∧ w.frozen? ⟨g, k * 7 + 3, none⟩ = false ∧ w.frozen? ⟨g, k * 7 + 4, none⟩ = false ∧ w.frozen? ⟨g, k * 7 + 5, none⟩ = false ∧ w.frozen? ⟨g, k * 7 + 6, none⟩ = false := by
  have hk : k < l.length := (List.getElem?_eq_some_iff.1 hx).1
  obtain ⟨g', h1, h2, c0, c1, c2, c3, c4, c5, c6⟩ := h.get hx
  cases h1
  obtain ⟨_, cur, e, _, h3, _⟩ := h.row (by rw [← h.len]; omega)
  cases e
  exact ⟨h2, c0, c1, c2, c3, c4, c5, c6, blk_free h3, blk_free h3, blk_free h3, blk_free h3, blk_free h3, blk_free h3, blk_free h3⟩

theorem Rd.past {w w' : World} {A : Option Addr} {n : Nat} {xs : List Int} {p : Nat} {s t : Value} {f : Nat × Nat} {T : TypeId} (h : Rd w A n xs) (hb : w.heap[p]? = some (.cells #[s, t] T f)) (hs : ∀ k x, s ≠ .int k x) (ht : ∀ k x, t ≠ .int k x) (hg : w.grownBy w' (some p)) : Rd w' A n xs :=
  h.grown hg (fun hn b' o' e => by
    obtain ⟨b, o, e2, hlt, hc⟩ := h.cells hn
    rw [e] at e2
    cases e2
    rintro rfl
    have := hc 0 hn
    simp only [World.cell?, hb, Nat.add_zero] at this
    match o', this with
    | 0, this => simp at this; exact hs _ _ this
    | 1, this => simp at this; exact ht _ _ this
    | q + 2, this => simp at this)
theorem GOk.past {w w' : World} {g : Gv} {p : Nat} {A : Option Addr} {n c : Nat} {b : Bool} (h : GOk w g) (hp : w.heap[p]? = some (.cells #[.slice A n c, .bool b] 68 (0, 0))) (hg : w.grownBy w' (some p)) : GOk w' g :=
  ⟨h.m.past hp (by intros; simp) (by intros; simp) hg, h.o.past hp (by intros; simp) (by intros; simp) hg, h.t.past hp (by intros; simp) (by intros; simp) hg, h.nm, h.no, h.nt, h.lm, h.lo, h.lt⟩
theorem GOk.drew {w : World} {g : Gv} (h : GOk w g) : GOk w.drew g := h.below (below_drew (Below.refl _ _))
theorem RG.drew {w : World} {A : Option Addr} {n : Nat} {l : List Gv} (h : RG w A n l) : RG w.drew A n l := h.below (below_drew (Below.refl _ _))
theorem RG.store {w : World} {g n : Nat} {l : List Gv} (h : RG w (some ⟨g, 0, none⟩) n l) {i : Nat} {y y' : Gv} {j : Nat} {v : Value} (hy : l[i]? = some y) (hj : j < 7) (hc : y'.cells = y.cells.set j v) :
    RG (w.setCell ⟨g, i * 7 + j, none⟩ v) (some ⟨g, 0, none⟩) n (l.set i y') :=
  ⟨by rw [List.length_set]; exact h.len, h.bd, fun hn => by
    obtain ⟨g', cur, e, h2, h3, h4, h5⟩ := h.row hn
    cases e
    refine ⟨g, cur.setIfInBounds (i * 7 + j) v, rfl, by rw [size_set]; exact h2, blk_set v h3, by simpa using h4, fun k z hz q hq => ?_⟩
    have hi := (List.getElem?_eq_some_iff.1 hy).1
    have h7 : y.cells.length = 7 := rfl
    by_cases hk : k = i
    · subst hk
      rw [List.getElem?_set_self hi] at hz
      cases hz
      have e1 := h5 k y hy q hq
      rw [hc]
      by_cases hqj : q = j
      · subst hqj
        rw [List.getElem?_set_self (by omega), Array.getElem?_setIfInBounds_self]
        rw [if_pos]
        have : k * 7 + q < cur.size := by
          have := h.len
          omega
        exact this
      · rw [List.getElem?_set_ne (by omega), Array.getElem?_setIfInBounds_ne (by omega)]
        exact e1
    · rw [List.getElem?_set_ne (by omega)] at hz
      rw [Array.getElem?_setIfInBounds_ne (by omega)]
      exact h5 k z hz q hq⟩
theorem RG.kept {w w' : World} {g n : Nat} {l : List Gv} {r : Option Nat} (h : RG w (some ⟨g, 0, none⟩) n l) (hg : w.grownBy w' r) (hr : some g ≠ r) : RG w' (some ⟨g, 0, none⟩) n l :=
  ⟨h.len, h.bd, fun hn => by
    obtain ⟨g', cur, e, h2, h3, h4, h5⟩ := h.row hn
    cases e
    exact ⟨g, cur, rfl, Nat.lt_of_lt_of_le h2 hg.size, (hg.block g h2 hr).trans h3, h4, h5⟩⟩
/-- An owned row of ints is as it was behind a store to a row of groups. -/
theorem Own.far {w : World} {base g k : Nat} {v u : Value} {xs : List Int} {cur : Array Value} {T : TypeId} (h : Own w base v xs) (hb : w.heap[g]? = some (.cells cur T (0, 0))) (hT : T ≠ 3) : Own (w.setCell ⟨g, k, none⟩ u) base v xs := by
  refine Own.kept h (grown_set (World.grownBy.refl w (some g)) k u) (.inl fun e => ?_)
  unfold Own at h
  rcases h.2 with ⟨rfl, _⟩ | ⟨g', cap, cur', rfl, _, hh, _⟩
  · simp [Value.ownBlock] at e
  · simp [Value.ownBlock] at e
    subst e
    rw [hh] at hb
    cases hb
    exact hT rfl
theorem Fresh.far {w : World} {base g k : Nat} {u : Value} {cur : Array Value} {T : TypeId} {x : Gv} (h : Fresh w base x) (hb : w.heap[g]? = some (.cells cur T (0, 0))) (hT : T ≠ 3) : Fresh (w.setCell ⟨g, k, none⟩ u) base x :=
  ⟨h.m.far hb hT, h.o.far hb hT, h.t.far hb hT, h.mo, h.mt, h.ot⟩
theorem RG.blk {w : World} {g n : Nat} {l : List Gv} (h : RG w (some ⟨g, 0, none⟩) n l) (hn : 0 < n) : ∃ cur, w.heap[g]? = some (.cells cur 51 (0, 0)) := by
  obtain ⟨_, cur, e, _, h3, _⟩ := h.row hn
  cases e
  exact ⟨cur, h3⟩

theorem Fresh.kt {B C base : Nat} {w w' : World} {x : Gv} (h : Fresh w base x) (hk : Kt B C w w') (h1 : B < base) (h2 : C < base) : Fresh w' base x := ⟨h.m.kt hk h1 h2, h.o.kt hk h1 h2, h.t.kt hk h1 h2, h.mo, h.mt, h.ot⟩
theorem Fresh.relax {w : World} {base base' : Nat} {x : Gv} (h : Fresh w base x) (hb : base' ≤ base) : Fresh w base' x := ⟨h.m.relax hb, h.o.relax hb, h.t.relax hb, h.mo, h.mt, h.ot⟩
/-- The seven stores of a group into its place. -/
def put7 (w : World) (g i : Nat) (x : Gv) : World :=
  ((((((w.setCell ⟨g, i * 7, none⟩ (.string x.x.name)).setCell ⟨g, i * 7 + 1, none⟩ (.int .i64 x.x.sub)).setCell ⟨g, i * 7 + 2, none⟩ (.int .i64 x.x.term)).setCell ⟨g, i * 7 + 3, none⟩ (.int .i64 x.x.next)).setCell
    ⟨g, i * 7 + 4, none⟩ (.slice x.mA x.x.mem.length x.mc)).setCell ⟨g, i * 7 + 5, none⟩ (.slice x.oA x.x.own.length x.oc)).setCell ⟨g, i * 7 + 6, none⟩ (.slice x.tA x.x.att.length x.tc)
theorem put7_kt (w : World) (g i : Nat) (x : Gv) : Kt g g w (put7 w g i x) :=
  (((((((Kt.refl g g w).set (.inl rfl) _ _).set (.inl rfl) _ _).set (.inl rfl) _ _).set (.inl rfl) _ _).set (.inl rfl) _ _).set (.inl rfl) _ _).set (.inl rfl) _ _
theorem RG.copy {w : World} {g n : Nat} {l : List Gv} (h : RG w (some ⟨g, 0, none⟩) n l) {i : Nat} {x : Gv} (hx : l[i]? = some x) (E1 E2 E3 : Option Addr) (d1 d2 d3 : Nat) :
    RG (put7 w g i ⟨x.x, E1, d1, E2, d2, E3, d3⟩) (some ⟨g, 0, none⟩) n (l.set i ⟨x.x, E1, d1, E2, d2, E3, d3⟩) := by
  have hi := (List.getElem?_eq_some_iff.1 hx).1
  have e : ∀ y, (l.set i y)[i]? = some y := fun y => List.getElem?_set_self hi
  have s0 := h.store (j := 0) (y' := x) (v := .string x.x.name) hx (by omega) rfl
  have s1 := s0.store (j := 1) (y' := x) (v := .int .i64 x.x.sub) (e _) (by omega) rfl
  rw [List.set_set] at s1
  have s2 := s1.store (j := 2) (y' := x) (v := .int .i64 x.x.term) (e _) (by omega) rfl
  rw [List.set_set] at s2
  have s3 := s2.store (j := 3) (y' := x) (v := .int .i64 x.x.next) (e _) (by omega) rfl
  rw [List.set_set] at s3
  have s4 := s3.store (j := 4) (y' := ⟨x.x, E1, d1, x.oA, x.oc, x.tA, x.tc⟩) (v := .slice E1 x.x.mem.length d1) (e _) (by omega) rfl
  rw [List.set_set] at s4
  have s5 := s4.store (j := 5) (y' := ⟨x.x, E1, d1, E2, d2, x.tA, x.tc⟩) (v := .slice E2 x.x.own.length d2) (e _) (by omega) rfl
  rw [List.set_set] at s5
  have s6 := s5.store (j := 6) (y' := ⟨x.x, E1, d1, E2, d2, E3, d3⟩) (v := .slice E3 x.x.att.length d3) (e _) (by omega) rfl
  rw [List.set_set] at s6
  exact s6

set_option maxHeartbeats 4000000 in
theorem own_any {w : World} {p : Nat} {A : Option Addr} {c : Nat} {l : List Gv} (h : Gs w p A c l) (i : Nat) (x : Gv) (hi : l[i]? = some x) : Calls Try.prog 73 #[.pointer (some ⟨p, 0, none⟩), .int .i64 i] w fun e w' =>
    ∃ g c' x', e = .returned (.pointer (some ⟨g, i * 7, none⟩)) ∧ Ow w w' p l i g c' x' ∧ x'.x = x.x ∧ Fresh w' w.heap.size x' := by
  have hp0 := h.c0
  have hlt := h.lt
  have hil : i < l.length := (List.getElem?_eq_some_iff.1 hi).1
  have hi0 : (0 : Int) ≤ ↑i := by omega
  have hi1 : (↑i : Int) < ↑l.length := by omega
  have hbd := h.row.bd
  have HG := Kp.mk h
  have HI := Kp.mk hi
  have CL := Kp.mk (cloneg_any A l.length c l w h.row h.nil)
  clear h hi
  go_enter Try.func73, Try.ntmps73
  go_wp2_with (go_at_call 72; refine CL.it.mono ?_; rintro e w1 ⟨v1, rfl, ho1, hb1⟩; obtain ⟨A1, c1, rfl, hnn, hr1⟩ := OwnG.form ho1 (by omega); have O1 := Kp.mk ho1; have R1 := Kp.mk hr1; have B1 := Kp.mk hb1; clear ho1 hr1 hb1 hnn; have G1 := Kp.mk (HG.it.below B1.it); have q1 := G1.it.c0; have f1 : w1.frozen? ⟨p, 0, none⟩ = false := blk_free G1.it.cell)
  rename_i K hK
  obtain ⟨g, _, rfl, hg1, _⟩ := R1.it.row (by omega)
  have hbg : w.heap.size ≤ g := O1.it.base_le g rfl
  have hgp : ¬ g = p := by omega
  have hpg : ¬ p = g := by omega
  obtain ⟨W, hW⟩ : ∃ W, W = w1.setCell ⟨p, 0, none⟩ (.slice (some ⟨g, 0, none⟩) l.length c1) := ⟨_, rfl⟩
  have P2 : Kp (W.heap[p]? = some (.cells #[.slice (some ⟨g, 0, none⟩) l.length c1, .bool true] 68 (0, 0))) := ⟨by rw [hW]; exact blk_set _ G1.it.cell⟩
  have T2 : Kp (w.grownBy W (some p)) := ⟨by rw [hW]; exact grown_set ⟨B1.it.os, B1.it.tape, B1.it.output, B1.it.size, fun k hk _ => B1.it.block k hk⟩ 0 _⟩
  have R2 : Kp (RG W (some ⟨g, 0, none⟩) l.length l) := ⟨by rw [hW]; exact R1.it.kept (grown_set (World.grownBy.refl w1 (some p)) 0 _) (by simpa using hgp)⟩
  have K2 : Kp (GOk W x) := ⟨(HG.it.ok x (List.mem_of_getElem? HI.it)).past HG.it.cell T2.it⟩
  have hgW : g < W.heap.size := by rw [hW, size_set]; exact hg1
  have hsW : w.heap.size ≤ W.heap.size := T2.it.size
  rw [← hW]
  clear hW q1 f1
  have z0 := blk_cell P2.it (show (#[Value.slice (some ⟨g, 0, none⟩) l.length c1, .bool true])[0]? = some _ from rfl)
  obtain ⟨_, b0, b1, b2, b3, b4, b5, b6, e0, e1, e2, e3, e4, e5, e6⟩ := R2.it.cells HI.it
  have HK : ∀ (W5 : World) (E1 E2 E3 : Option Addr) (d1 d2 d3 : Nat), Ow w W5 p l i g c1 ⟨x.x, E1, d1, E2, d2, E3, d3⟩ → Fresh W5 w.heap.size ⟨x.x, E1, d1, E2, d2, E3, d3⟩ →
      K { tmps := #[.pointer (some ⟨p, 0, none⟩), .int .i64 i, undef, undef, .pointer none, .pointer (some ⟨p, 0, none⟩), .pointer (some ⟨p, 0, none⟩), .pointer (some ⟨p, 0, none⟩), .pointer (some ⟨p, 0, none⟩), .slice A l.length c, .slice (some ⟨g, 0, none⟩) l.length c1,
        .pointer (some ⟨p, 0, none⟩), .pointer (some ⟨p, 0, none⟩), .pointer (some ⟨p, 0, none⟩), .pointer (some ⟨p, 0, none⟩), .pointer (some ⟨p, 0, none⟩), .slice (some ⟨g, 0, none⟩) l.length c1, .int .i64 i,
        .pointer (some ⟨p, 0, none⟩), .pointer (some ⟨p, 0, none⟩), .pointer (some ⟨p, 0, none⟩), .slice (some ⟨g, 0, none⟩) l.length c1, .int .i64 i, .pointer (some ⟨g, i * 7, none⟩),
        .agg #[.string x.x.name, .int .i64 x.x.sub, .int .i64 x.x.term, .int .i64 x.x.next, .slice x.mA x.x.mem.length x.mc, .slice x.oA x.x.own.length x.oc, .slice x.tA x.x.att.length x.tc],
        .agg #[.string x.x.name, .int .i64 x.x.sub, .int .i64 x.x.term, .int .i64 x.x.next, .slice E1 x.x.mem.length d1, .slice E2 x.x.own.length d2, .slice E3 x.x.att.length d3],
        .pointer (some ⟨g, i * 7, none⟩), undef, undef, undef, undef, undef, undef], defers := [] } W5 := by
    intro W5 E1 E2 E3 d1 d2 d3 hOw hFr
    have z5 := blk_cell hOw.hp (show (#[Value.slice (some ⟨g, 0, none⟩) l.length c1, .bool true])[0]? = some _ from rfl)
    have HO := Kp.mk hOw
    have HF := Kp.mk hFr
    clear hOw hFr
    refine hK _ _ ?_
    go_wp2
    go_ret
    exact ⟨g, c1, _, rfl, HO.it, rfl, HF.it⟩
  go_region_with (first
    | (go_at_call 67; refine (copied_any x _ K2.it.drew).mono ?_; rintro e w3 ⟨E1, d1, E2, d2, E3, d3, rfl, o1, o2, o3, j1, j2, j3, hb3⟩; have F3 : Kp (Fresh w3 W.heap.size ⟨x.x, E1, d1, E2, d2, E3, d3⟩) := ⟨⟨o1, o2, o3, j1, j2, j3⟩⟩; have B3 := Kp.mk hb3; clear o1 o2 o3 j1 j2 j3 hb3;
       have P3 : Kp (w3.heap[p]? = some (.cells #[.slice (some ⟨g, 0, none⟩) l.length c1, .bool true] 68 (0, 0))) := ⟨(B3.it.block p (show p < W.heap.size by omega)).trans P2.it⟩
       have R3 : Kp (RG w3 (some ⟨g, 0, none⟩) l.length l) := ⟨R2.it.drew.below B3.it⟩
       have y0 := blk_cell P3.it (show (#[Value.slice (some ⟨g, 0, none⟩) l.length c1, .bool true])[0]? = some _ from rfl)
       obtain ⟨_, m0, m1, m2, m3, m4, m5, m6, n0, n1, n2, n3, n4, n5, n6⟩ := R3.it.cells HI.it))
  all_goals
    have k7 := put7_kt w3 g i ⟨x.x, E1, d1, E2, d2, E3, d3⟩
    exact HK _ E1 E2 E3 d1 d2 d3 ⟨(k7.2.2.2.2 p hpg hpg).trans P3.it, R3.it.copy HI.it E1 E2 E3 d1 d2 d3,
      (T2.it.andThen (row' := none) (b' := W) ⟨B3.it.os, B3.it.tape, B3.it.output, B3.it.size, fun k hk _ => B3.it.block k hk⟩ (fun j hj => by cases hj)).andThen (row' := some g) ⟨k7.1, k7.2.1, k7.2.2.1, Nat.le_of_eq k7.2.2.2.1.symm, fun k hk hne => k7.2.2.2.2 k (by rintro rfl; exact hne rfl) (by rintro rfl; exact hne rfl)⟩ (fun j hj => by cases hj; exact .inl hbg), hbg⟩
      ((F3.it.kt k7 hgW hgW).relax hsW)
