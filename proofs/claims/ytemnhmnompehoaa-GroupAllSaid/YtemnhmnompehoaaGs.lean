/-
  Groups in memory: what is read of them, where a group is found.
-/
import Derived.Test.YtemnhmnompehoaaGrp
import Derived.Deep.DrawnRows
namespace Go.Proofs.Ytemnhmnompehoaa
open Go Go.RowKit
attribute [local go_sem ↓] Go.wp_at_zero Go.wp_at_succ

structure GOk (w : World) (g : Gv) : Prop where
  m : Rd w g.mA g.x.mem.length g.x.mem
  o : Rd w g.oA g.x.own.length g.x.own
  t : Rd w g.tA g.x.att.length g.x.att
  nm : g.mA = none → g.mc = 0
  no : g.oA = none → g.oc = 0
  nt : g.tA = none → g.tc = 0
  lm : g.x.mem.length ≤ g.mc
  lo : g.x.own.length ≤ g.oc
  lt : g.x.att.length ≤ g.tc
theorem GOk.below {w w' : World} {g : Gv} (h : GOk w g) (hb : Below w.heap.size w w') : GOk w' g := ⟨h.m.below hb, h.o.below hb, h.t.below hb, h.nm, h.no, h.nt, h.lm, h.lo, h.lt⟩

/-- Groups at p: their row lies at A. -/
structure Gs (w : World) (p : Nat) (A : Option Addr) (c : Nat) (l : List Gv) : Prop where
  cell : w.heap[p]? = some (.cells #[.slice A l.length c, .bool true] 68 (0, 0))
  row : RG w A l.length l
  nil : A = none → c = 0
  ok : ∀ x ∈ l, GOk w x
theorem Gs.lt {w : World} {p : Nat} {A : Option Addr} {c : Nat} {l : List Gv} (h : Gs w p A c l) : p < w.heap.size := (Array.getElem?_eq_some_iff.1 h.cell).1
theorem Gs.below {w w' : World} {p : Nat} {A : Option Addr} {c : Nat} {l : List Gv} (h : Gs w p A c l) (hb : Below w.heap.size w w') : Gs w' p A c l :=
  ⟨(hb.block p h.lt).trans h.cell, h.row.below hb, h.nil, fun x hx => (h.ok x hx).below hb⟩
theorem Gs.c0 {w : World} {p : Nat} {A : Option Addr} {c : Nat} {l : List Gv} (h : Gs w p A c l) : w.cell? ⟨p, 0, none⟩ = some (.slice A l.length c) := blk_cell h.cell rfl
theorem Gs.c1 {w : World} {p : Nat} {A : Option Addr} {c : Nat} {l : List Gv} (h : Gs w p A c l) : w.cell? ⟨p, 1, none⟩ = some (.bool true) := blk_cell h.cell rfl

theorem dead_no {w : World} {p : Nat} {A : Option Addr} {c : Nat} {l : List Gv} (h : Gs w p A c l) : Calls Try.prog 66 #[.pointer (some ⟨p, 0, none⟩)] w fun e w' => e = .returned (.bool false) ∧ w = w' := by
  have h1 := h.c1
  have h2 := h.lt
  clear h
  go_enter Try.func66, Try.ntmps66
  go_wp2
  go_ret
  exact ⟨rfl, rfl⟩

set_option maxHeartbeats 1000000 in
theorem find_no {w : World} {p : Nat} {A : Option Addr} {c : Nat} {l : List Gv} (h : Gs w p A c l) (s : ByteArray) (hn : whereN s.toList l = -1) : Calls Try.prog 64 #[.pointer (some ⟨p, 0, none⟩), .string s] w fun e w' =>
    e = .returned (.tuple #[.int .i64 0, .int .i64 220]) ∧ Below w.heap.size w w' := by
  have HG := Kp.mk h
  have h0 := h.c0
  have h2 := h.lt
  have HN := Kp.mk hn
  clear h hn
  go_enter Try.func64, Try.ntmps64
  go_wp2_with (go_at_call 66; refine (dead_no (HG.it.below ((Below.refl _ w).alloc (Nat.le_refl _) _))).mono ?_; rintro e w1 ⟨rfl, rfl⟩)
  go_wp2_with (go_at_call 96; refine (idx97 _ _ _ l s w.heap.size _ (blk_new _ _) (HG.it.below ((Below.refl _ w).alloc (Nat.le_refl _) _)).row).mono ?_; rintro e w1 ⟨rfl, hb1⟩; rw [HN.it])
  go_ret2
  exact ⟨rfl, ((Below.refl _ w).alloc (Nat.le_refl _) _).trans (hb1.mono (by simp))⟩
set_option maxHeartbeats 1000000 in
theorem find_at {w : World} {p : Nat} {A : Option Addr} {c : Nat} {l : List Gv} (h : Gs w p A c l) (s : ByteArray) (k : Nat) (hn : whereN s.toList l = k) : Calls Try.prog 64 #[.pointer (some ⟨p, 0, none⟩), .string s] w fun e w' =>
    e = .returned (.tuple #[.int .i64 k, .int .i64 0]) ∧ Below w.heap.size w w' := by
  have HG := Kp.mk h
  have h0 := h.c0
  have h2 := h.lt
  have HN := Kp.mk hn
  clear h hn
  go_enter Try.func64, Try.ntmps64
  go_wp2_with (go_at_call 66; refine (dead_no (HG.it.below ((Below.refl _ w).alloc (Nat.le_refl _) _))).mono ?_; rintro e w1 ⟨rfl, rfl⟩)
  go_wp2_with (go_at_call 96; refine (idx97 _ _ _ l s w.heap.size _ (blk_new _ _) (HG.it.below ((Below.refl _ w).alloc (Nat.le_refl _) _)).row).mono ?_; rintro e w1 ⟨rfl, hb1⟩; rw [HN.it])
  go_ret2
  exact ⟨rfl, ((Below.refl _ w).alloc (Nat.le_refl _) _).trans (hb1.mono (by simp))⟩

/-- Block B is one group: these cells. -/
def Bx (w : World) (B : Nat) (a : ByteArray) (s t n : Int) (m o p : Value) : Prop := w.heap[B]? = some (.cells #[.string a, .int .i64 s, .int .i64 t, .int .i64 n, m, o, p] 51 (0, 0))
theorem Bx.kept {w w' : World} {B C : Nat} {a : ByteArray} {s t n : Int} {m o p : Value} (h : Bx w B a s t n m o p) (hb : Below C w w') (hlt : B < C) : Bx w' B a s t n m o p := (hb.block B hlt).trans h
theorem Bx.drew {w : World} {B : Nat} {a : ByteArray} {s t n : Int} {m o p : Value} (h : Bx w B a s t n m o p) : Bx w.drew B a s t n m o p := h
theorem below_drew {B : Nat} {w W : World} (h : Below B w W) : Below B w W.drew := ⟨h.os, h.tape, h.output, h.size, h.block⟩
theorem Bx.store {w : World} {B : Nat} {a : ByteArray} {s t n : Int} {m o p : Value} (h : Bx w B a s t n m o p) : (∀ v, Bx (w.setCell ⟨B, 4, none⟩ v) B a s t n v o p) ∧ (∀ v, Bx (w.setCell ⟨B, 5, none⟩ v) B a s t n m v p) ∧ (∀ v, Bx (w.setCell ⟨B, 6, none⟩ v) B a s t n m o v) :=
  ⟨fun v => blk_set v h, fun v => blk_set v h, fun v => blk_set v h⟩
theorem Bx.cells {w : World} {B : Nat} {a : ByteArray} {s t n : Int} {m o p : Value} (h : Bx w B a s t n m o p) :
    w.cell? ⟨B, 0, none⟩ = some (.string a) ∧ w.cell? ⟨B, 1, none⟩ = some (.int .i64 s) ∧ w.cell? ⟨B, 2, none⟩ = some (.int .i64 t) ∧ w.cell? ⟨B, 3, none⟩ = some (.int .i64 n) ∧ w.cell? ⟨B, 4, none⟩ = some m ∧ w.cell? ⟨B, 5, none⟩ = some o ∧ w.cell? ⟨B, 6, none⟩ = some p ∧
      w.frozen? ⟨B, 0, none⟩ = false ∧ w.frozen? ⟨B, 1, none⟩ = false ∧ w.frozen? ⟨B, 2, none⟩ = false ∧ w.frozen? ⟨B, 3, none⟩ = false ∧ w.frozen? ⟨B, 4, none⟩ = false ∧ w.frozen? ⟨B, 5, none⟩ = false ∧ w.frozen? ⟨B, 6, none⟩ = false :=
  ⟨blk_cell h rfl, blk_cell h rfl, blk_cell h rfl, blk_cell h rfl, blk_cell h rfl, blk_cell h rfl, blk_cell h rfl, blk_free h, blk_free h, blk_free h, blk_free h, blk_free h, blk_free h, blk_free h⟩

/-- Nothing was written but blocks B and C. -/
def Kt (B C : Nat) (w w' : World) : Prop := w'.os = w.os ∧ w'.tape = w.tape ∧ w'.output = w.output ∧ w'.heap.size = w.heap.size ∧ ∀ i, i ≠ B → i ≠ C → w'.heap[i]? = w.heap[i]?
theorem Kt.refl (B C : Nat) (w : World) : Kt B C w w := ⟨rfl, rfl, rfl, rfl, fun _ _ _ => rfl⟩
theorem Kt.set {B C : Nat} {w w' : World} (h : Kt B C w w') {b : Nat} (hb : b = B ∨ b = C) (o : Nat) (v : Value) : Kt B C w (w'.setCell ⟨b, o, none⟩ v) :=
  ⟨h.1, h.2.1, h.2.2.1, by rw [size_set]; exact h.2.2.2.1, fun i h1 h2 => by
    rw [other_block _ _ _ (by rcases hb with rfl | rfl <;> assumption)]
    exact h.2.2.2.2 i h1 h2⟩
theorem Kt.below {B C : Nat} {w w' : World} (h : Kt B C w w') {D : Nat} (h1 : D ≤ B) (h2 : D ≤ C) : Below D w w' := ⟨h.1, h.2.1, h.2.2.1, Nat.le_of_eq h.2.2.2.1.symm, fun k hk => h.2.2.2.2 k (by omega) (by omega)⟩
theorem Own.kt {B C base : Nat} {w w' : World} {v : Value} {xs : List Int} (h : Own w base v xs) (hk : Kt B C w w') (h1 : B < base) (h2 : C < base) : Own w' base v xs := by
  unfold Own World.ownsRow at h ⊢
  refine ⟨h.1, ?_⟩
  rcases h.2 with h | ⟨g, cap, cur, r1, r2, r3, r4⟩
  · exact .inl h
  · exact .inr ⟨g, cap, cur, r1, r2, (hk.2.2.2.2 g (by omega) (by omega)).trans r3, r4⟩
theorem res67 (W : World) (B : Nat) (a : ByteArray) (s t n : Int) (m o p : Value) (tmps : Array Value) (hB : Bx W B a s t n m o p) (h2 : tmps[2]? = some (.pointer (some ⟨B, 0, none⟩))) :
    (results Try.f67 tmps).run Try.prog W = .ok (.agg #[.string a, .int .i64 s, .int .i64 t, .int .i64 n, m, o, p]) W := by
  obtain ⟨z0, z1, z2, z3, z4, z5, z6, _⟩ := hB.cells
  simp [results, Try.results67, go_sem, h2, z0, z1, z2, z3, z4, z5, z6]

theorem dj_of {W1 W2 : World} {b1 b2 : Nat} {u v : Value} {xs ys : List Int} (h1 : Own W1 b1 u xs) (h2 : Own W2 b2 v ys) (h : W1.heap.size ≤ b2) : Dj u v := by
  cases hu : u.ownBlock with
  | none => exact .inl hu
  | some a => cases hv : v.ownBlock with
    | none => exact .inr (.inl hv)
    | some b =>
      have := h1.lt a hu
      have := h2.base_le b hv
      exact .inr (.inr (by rw [hu, hv]; intro e; cases e; omega))
set_option maxHeartbeats 8000000 in
theorem copied_any (g : Gv) (w : World) (h : GOk w g) : Calls Try.prog 67 #[.agg #[.string g.x.name, .int .i64 g.x.sub, .int .i64 g.x.term, .int .i64 g.x.next, .slice g.mA g.x.mem.length g.mc, .slice g.oA g.x.own.length g.oc, .slice g.tA g.x.att.length g.tc]] w fun e w' =>
    ∃ E1 d1 E2 d2 E3 d3, e = .returned (.agg #[.string g.x.name, .int .i64 g.x.sub, .int .i64 g.x.term, .int .i64 g.x.next, .slice E1 g.x.mem.length d1, .slice E2 g.x.own.length d2, .slice E3 g.x.att.length d3]) ∧
      Own w' w.heap.size (.slice E1 g.x.mem.length d1) g.x.mem ∧ Own w' w.heap.size (.slice E2 g.x.own.length d2) g.x.own ∧ Own w' w.heap.size (.slice E3 g.x.att.length d3) g.x.att ∧
      Dj (.slice E1 g.x.mem.length d1) (.slice E2 g.x.own.length d2) ∧ Dj (.slice E1 g.x.mem.length d1) (.slice E3 g.x.att.length d3) ∧ Dj (.slice E2 g.x.own.length d2) (.slice E3 g.x.att.length d3) ∧ Below w.heap.size w w' := by
  obtain ⟨r1, r2, r3, n1, n2, n3, l1, l2, l3⟩ := h
  obtain ⟨x, A1, c1, A2, c2, A3, c3⟩ := g
  obtain ⟨g, hg⟩ : ∃ g : Gv, g.x = x := ⟨⟨x, none, 0, none, 0, none, 0⟩, rfl⟩
  subst hg
  dsimp only at r1 r2 r3 n1 n2 n3 l1 l2 l3 ⊢
  have R1 := Kp.mk r1
  have R2 := Kp.mk r2
  have R3 := Kp.mk r3
  have N1 := Kp.mk n1
  have N2 := Kp.mk n2
  have N3 := Kp.mk n3
  clear r1 r2 r3 n1 n2 n3 l1 l2 l3
  go_enter Try.func67, Try.ntmps67
  go_wp2
  rename_i K hK
  obtain ⟨W, hW⟩ : ∃ W, W = ((w.alloc (Obj.cells #[Value.string g.x.name, Value.int IntKind.i64 g.x.sub, Value.int IntKind.i64 g.x.term, Value.int IntKind.i64 g.x.next, Value.slice A1 g.x.mem.length c1, Value.slice A2 g.x.own.length c2, Value.slice A3 g.x.att.length c3] 51)).alloc
            (Obj.cells #[Value.string { data := #[] }, Value.int IntKind.i64 0, Value.int IntKind.i64 0, Value.int IntKind.i64 0, Value.slice none 0 0, Value.slice none 0 0, Value.slice none 0 0] 51)) := ⟨_, rfl⟩
  have hs : W.heap.size = w.heap.size + 2 := by rw [hW]; simp
  have HB : Kp (Below w.heap.size w W) := ⟨by rw [hW]; exact ((Below.refl _ w).alloc (Nat.le_refl _) _).alloc (by simp) _⟩
  have HX : Kp (Bx W w.heap.size g.x.name g.x.sub g.x.term g.x.next (.slice A1 g.x.mem.length c1) (.slice A2 g.x.own.length c2) (.slice A3 g.x.att.length c3)) := ⟨by rw [hW]; exact blk_old _ (blk_new _ _)⟩
  have HY : Kp (Bx W (w.heap.size + 1) ⟨#[]⟩ 0 0 0 (.slice none 0 0) (.slice none 0 0) (.slice none 0 0)) := ⟨by rw [hW]; exact blk_new1 _ _ _⟩
  rw [← hW]
  clear hW
  obtain ⟨B, hB⟩ : ∃ B, B = w.heap.size := ⟨_, rfl⟩
  have S1 : Kp (Below w.heap.size w W.drew) := ⟨below_drew HB.it⟩
  rw [← hB] at hs HX HY ⊢
  have HQ := Kp.mk hB
  clear hB
  obtain ⟨_, _, _, _, q4, q5, q6, _⟩ := HX.it.drew.cells
  have HK : ∀ (W' : World) (E1 E2 E3 : Option Addr) (d1 d2 d3 : Nat), Bx W' B g.x.name g.x.sub g.x.term g.x.next (.slice E1 g.x.mem.length d1) (.slice E2 g.x.own.length d2) (.slice E3 g.x.att.length d3) →
      Bx W' (B + 1) ⟨#[]⟩ 0 0 0 (.slice none 0 0) (.slice none 0 0) (.slice none 0 0) → Own W' (B + 2) (.slice E1 g.x.mem.length d1) g.x.mem → Own W' (B + 2) (.slice E2 g.x.own.length d2) g.x.own → Own W' (B + 2) (.slice E3 g.x.att.length d3) g.x.att →
      Dj (.slice E1 g.x.mem.length d1) (.slice E2 g.x.own.length d2) → Dj (.slice E1 g.x.mem.length d1) (.slice E3 g.x.att.length d3) → Dj (.slice E2 g.x.own.length d2) (.slice E3 g.x.att.length d3) →
      Below w.heap.size w W' → B + 2 ≤ W'.heap.size →
      K { tmps := #[.agg #[.string g.x.name, .int .i64 g.x.sub, .int .i64 g.x.term, .int .i64 g.x.next, .slice A1 g.x.mem.length c1, .slice A2 g.x.own.length c2, .slice A3 g.x.att.length c3],
          .pointer (some ⟨B, 0, none⟩), .pointer (some ⟨B + 1, 0, none⟩), .pointer (some ⟨B, 4, none⟩), .slice A1 g.x.mem.length c1, .slice E1 g.x.mem.length d1, .pointer (some ⟨B, 5, none⟩), .slice A2 g.x.own.length c2, .slice E2 g.x.own.length d2,
          .pointer (some ⟨B, 6, none⟩), .slice A3 g.x.att.length c3, .slice E3 g.x.att.length d3, .pointer (some ⟨B, 4, none⟩), .pointer (some ⟨B, 5, none⟩), .pointer (some ⟨B, 6, none⟩), undef], defers := [] } W' := by
    intro W' E1 E2 E3 d1 d2 d3 X Y O1 O2 O3 j1 j2 j3 hb hsz
    have J1 := Kp.mk j1
    have J2 := Kp.mk j2
    have J3 := Kp.mk j3
    have O1 := Kp.mk O1
    have O2 := Kp.mk O2
    have O3 := Kp.mk O3
    have HW := Kp.mk hb
    obtain ⟨q30, q31, q32, q33, q34, q35, q36, f30, f31, f32, f33, f34, f35, f36⟩ := X.cells
    obtain ⟨y30, y31, y32, y33, y34, y35, y36, g30, g31, g32, g33, g34, g35, g36⟩ := Y.cells
    have HY := Kp.mk Y
    clear X Y hb j1 j2 j3
    refine hK _ _ ?_
    go_wp2
    refine bodyPost_ret (res67 _ (B + 1) _ _ _ _ _ _ _ _ (blk_set _ (blk_set _ (blk_set _ (blk_set _ (blk_set _ (blk_set _ (blk_set _ HY.it))))))) rfl) rfl ?_
    have K3 := (((((((Kt.refl B (B + 1) W').set (.inr rfl) 0 (.string g.x.name)).set (.inr rfl) 1 (.int .i64 g.x.sub)).set (.inr rfl) 2 (.int .i64 g.x.term)).set (.inr rfl) 3 (.int .i64 g.x.next)).set (.inr rfl) 4 (Value.slice E1 g.x.mem.length d1)).set (.inr rfl) 5 (Value.slice E2 g.x.own.length d2)).set (.inr rfl) 6 (Value.slice E3 g.x.att.length d3)
    have hQ := HQ.it
    exact ⟨_, _, _, _, _, _, rfl, (O1.it.kt K3 (by omega) (by omega)).relax (by omega), (O2.it.kt K3 (by omega) (by omega)).relax (by omega), (O3.it.kt K3 (by omega) (by omega)).relax (by omega), J1.it, J2.it, J3.it, HW.it.trans (K3.below (by omega) (by omega))⟩
  have C1 := Kp.mk (clone_any A1 _ c1 g.x.mem _ (R1.it.below S1.it) N1.it)
  go_region_with (first
    | (go_at_call_of 14 (Value.slice A1 g.x.mem.length c1); refine C1.it.mono ?_; rintro e w1 ⟨v1, rfl, ho1, hb1⟩; obtain ⟨E1, d1, rfl, _⟩ := ho1.form; have P1 := Kp.mk ho1; have T1 := Kp.mk hb1; clear ho1 hb1;
       have S2 : Kp (Below w.heap.size w w1) := ⟨S1.it.trans (T1.it.mono (by rw [← HQ.it]; simp; omega))⟩
       have X1 : Kp (Bx w1 B g.x.name g.x.sub g.x.term g.x.next (.slice A1 g.x.mem.length c1) (.slice A2 g.x.own.length c2) (.slice A3 g.x.att.length c3)) := ⟨HX.it.drew.kept T1.it (by simp; omega)⟩
       have Y1 : Kp (Bx w1 (B + 1) ⟨#[]⟩ 0 0 0 (.slice none 0 0) (.slice none 0 0) (.slice none 0 0)) := ⟨HY.it.drew.kept T1.it (by simp; omega)⟩
       have s1 : B + 2 ≤ w1.heap.size := by have := T1.it.size; simp at this; omega
       obtain ⟨_, _, _, _, q14, q15, q16, _⟩ := X1.it.cells)
    | (go_at_call_of 14 (Value.slice A2 g.x.own.length c2); refine (clone_any A2 _ c2 g.x.own w1 (R2.it.below S2.it) N2.it).mono ?_; rintro e w2 ⟨v2, rfl, ho2, hb2⟩; obtain ⟨E2, d2, rfl, _⟩ := ho2.form; have P2 := Kp.mk ho2; have T2 := Kp.mk hb2; clear ho2 hb2;
       have S3 : Kp (Below w.heap.size w w2) := ⟨S2.it.trans (T2.it.mono (by rw [← HQ.it]; omega))⟩
       have X2 : Kp (Bx w2 B g.x.name g.x.sub g.x.term g.x.next (.slice A1 g.x.mem.length c1) (.slice A2 g.x.own.length c2) (.slice A3 g.x.att.length c3)) := ⟨X1.it.kept T2.it (by omega)⟩
       have Y2 : Kp (Bx w2 (B + 1) ⟨#[]⟩ 0 0 0 (.slice none 0 0) (.slice none 0 0) (.slice none 0 0)) := ⟨Y1.it.kept T2.it (by omega)⟩
       have s2 : B + 2 ≤ w2.heap.size := by have := T2.it.size; omega
       obtain ⟨_, _, _, _, q24, q25, q26, _⟩ := X2.it.cells)
    | (go_at_call_of 14 (Value.slice A3 g.x.att.length c3); refine (clone_any A3 _ c3 g.x.att w2 (R3.it.below S3.it) N3.it).mono ?_; rintro e w3 ⟨v3, rfl, ho3, hb3⟩; obtain ⟨E3, d3, rfl, _⟩ := ho3.form; have P3 := Kp.mk ho3; have T3 := Kp.mk hb3; clear ho3 hb3;
       have S4 : Kp (Below w.heap.size w w3) := ⟨S3.it.trans (T3.it.mono (by rw [← HQ.it]; omega))⟩
       have X3 : Kp (Bx w3 B g.x.name g.x.sub g.x.term g.x.next (.slice A1 g.x.mem.length c1) (.slice A2 g.x.own.length c2) (.slice A3 g.x.att.length c3)) := ⟨X2.it.kept T3.it (by omega)⟩
       have Y3 : Kp (Bx w3 (B + 1) ⟨#[]⟩ 0 0 0 (.slice none 0 0) (.slice none 0 0) (.slice none 0 0)) := ⟨Y2.it.kept T3.it (by omega)⟩
       have s3 : B + 2 ≤ w3.heap.size := by have := T3.it.size; omega
       obtain ⟨q30, q31, q32, q33, q34, q35, q36, f30, f31, f32, f33, f34, f35, f36⟩ := X3.it.cells
       obtain ⟨y30, y31, y32, y33, y34, y35, y36, g30, g31, g32, g33, g34, g35, g36⟩ := Y3.it.cells))
  all_goals
    have hQ := HQ.it
    exact HK _ E1 E2 E3 d1 d2 d3 ((blk_set _ (blk_set _ (blk_set _ X3.it))))
      ((other_block _ _ _ (by simp)).trans ((other_block _ _ _ (by simp)).trans ((other_block _ _ _ (by simp)).trans Y3.it)))
      (((P1.it.below (T2.it.mono (Nat.le_refl _))).below (T3.it.mono (Nat.le_refl _))).kt ((((Kt.refl B (B + 1) w3).set (.inl rfl) 4 _).set (.inl rfl) 5 _).set (.inl rfl) 6 _) (by simp; omega) (by simp; omega) |>.relax (by simp; omega))
      ((P2.it.below T3.it).kt ((((Kt.refl B (B + 1) w3).set (.inl rfl) 4 _).set (.inl rfl) 5 _).set (.inl rfl) 6 _) (by omega) (by omega) |>.relax (by omega))
      (P3.it.kt ((((Kt.refl B (B + 1) w3).set (.inl rfl) 4 _).set (.inl rfl) 5 _).set (.inl rfl) 6 _) (by omega) (by omega) |>.relax (by omega))
      (dj_of P1.it P2.it (Nat.le_refl _)) (dj_of P1.it P3.it T2.it.size) (dj_of P2.it P3.it (Nat.le_refl _))
      (S4.it.trans (Kt.below ((((Kt.refl B (B + 1) w3).set (.inl rfl) 4 _).set (.inl rfl) 5 _).set (.inl rfl) 6 _) (by omega) (by omega)))
      (by rw [size_set, size_set, size_set]; omega)
