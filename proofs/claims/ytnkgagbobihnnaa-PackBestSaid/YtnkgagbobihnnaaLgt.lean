/-
  How long codes are, by weights: the program's Lengths.
-/
import Derived.Test.YtnkgagbobihnnaaLgp
import Derived.Test.YtnkgagbobihnnaaCat
namespace Go.Proofs.Ytnkgagbobihnnaa
open Go Go.RowKit
attribute [local go_sem ↓] Go.wp_at_zero Go.wp_at_succ

def ks (l : List Kt) : List Knot := l.map Kt.k
theorem ks_len (l : List Kt) : (ks l).length = l.length := by simp [ks]
theorem ks_wts (l : List Kt) : (ks l).map Prod.fst = wts l := by unfold ks wts; rw [List.map_map]; rfl
theorem ks_app (a b : List Kt) : ks (a ++ b) = ks a ++ ks b := by unfold ks; rw [List.map_append]
theorem own_one (W : World) (x : Int) : Own (W.alloc (.cells #[.int .i64 x] 3)) W.heap.size (.slice (some ⟨W.heap.size, 0, none⟩) 1 1) [x] :=
  ⟨rfl, .inr ⟨_, 1, _, rfl, Nat.le_refl _, blk_new W _, by simp, by unfold maxLen; omega, by simp, by simp⟩⟩
theorem sum_mem : ∀ {l : List Knot} {k : Knot}, k ∈ l → k.1 ≤ wsum l
  | a :: l, k, h => by
    have e : wsum (a :: l) = a.1 + wsum l := by simp [wsum]
    rcases List.mem_cons.1 h with rfl | h
    · omega
    · have := sum_mem h; omega
theorem sg_app {w : World} {B : Nat} {l m : List Kt} (h : Sg w B l) (h2 : Sg w B m) : Sg w B (l ++ m) := fun k hk => by
  rcases List.mem_append.1 hk with hk | hk
  · exact h k hk
  · exact h2 k hk
theorem Own.ownK {W W' : World} {B base : Nat} {v u : Value} {xs : List Int} {l : List Kt} (h : Own W B v xs) (hg : W.grownBy W' u.ownBlock) (hu : OwnK W base u l) : Own W' B v xs := by
  refine h.grow hg ?_
  cases h1 : v.ownBlock with
  | none => exact .inl h1
  | some a =>
    cases h2 : u.ownBlock with
    | none => exact .inr (.inl h2)
    | some b =>
      right; right
      rw [h1, h2]
      intro e
      injection e with e
      subst e
      obtain ⟨c1, e1⟩ := h.blk a h1
      obtain ⟨c2, e2⟩ := hu.blk a h2
      rw [e1] at e2
      cases e2
theorem Sg.own {W W' : World} {B base : Nat} {u : Value} {l m : List Kt} (h : Sg W B m) (hg : W.grownBy W' u.ownBlock) (hu : OwnK W base u l) : Sg W' B m := fun k hk => (h k hk).ownK hg hu
theorem sg_one {W : World} {B : Nat} {k : Kt} (h : Own W B k.v (ints k.ns)) : Sg W B [k] := fun x hx => by rw [List.mem_singleton.1 hx]; exact h
/-- What all stays while knots are put together. -/
structure LInv (w0 : World) (ws : List Int) (G : Nat) (wr : World) (u : Value) (l : List Kt) : Prop where
  row : OwnK wr (G + 1) u l
  sg : Sg wr (G + 1) l
  out : Blk wr G (List.replicate ws.length 0)
  bel : Below w0.heap.size w0 wr
theorem LInv.size {w0 : World} {ws : List Int} {G : Nat} {wr : World} {u : Value} {l : List Kt} (h : LInv w0 ws G wr u l) : G + 1 ≤ wr.heap.size := h.out.lt

theorem knots_flat (ws : List Int) : ∀ k, (flat (knots ws k)).length = (knots ws k).length
  | 0 => rfl
  | k + 1 => by
    have ih := knots_flat ws k
    unfold knots
    split
    · rw [flat_app, List.length_append, List.length_append, ih]; rfl
    · exact ih
theorem ints_app (a b : List Nat) : ints (a ++ b) = ints a ++ ints b := by unfold ints; rw [List.map_append]
theorem ints_rd {b : List Nat} {j : Nat} (h : j < b.length) : rd (ints b) j = (b.getD j 0 : Nat) := by
  rw [rd_lt (by rw [ints_len]; exact h), List.getD_eq_getElem?_getD, List.getElem?_eq_getElem h]
  simp [ints]
/-- A state of the putting together, in memory. -/
structure RS (w0 : World) (n G N : Nat) (wr : World) (u : Value) (l m : List Kt) (o : Nat → Nat) (a0 a1 b0 b1 : Value) : Prop where
  row : OwnK wr (G + 1) u l
  sg : Sg wr (G + 1) m
  out : Blk wr G (tab n o)
  bel : Below w0.heap.size w0 wr
  bN : wr.heap[N]? = some (.cells #[a0, a1] 46 (0, 0))
  bM : wr.heap[N + 1]? = some (.cells #[b0, b1] 46 (0, 0))
  un : u.ownBlock ≠ some N ∧ u.ownBlock ≠ some (N + 1)
theorem RS.below {w0 : World} {n G N : Nat} {wr w1 : World} {u : Value} {l m : List Kt} {o : Nat → Nat} {a0 a1 b0 b1 : Value} (h : RS w0 n G N wr u l m o a0 a1 b0 b1) (hb : Below wr.heap.size wr w1) : RS w0 n G N w1 u l m o a0 a1 b0 b1 :=
  ⟨h.row.below hb, h.sg.below hb, (hb.block G h.out.lt).trans h.out, h.bel.trans (hb.mono h.bel.size), (hb.block N (Array.getElem?_eq_some_iff.1 h.bN).1).trans h.bN, (hb.block (N + 1) (Array.getElem?_eq_some_iff.1 h.bM).1).trans h.bM, h.un⟩
theorem sg_set {W : World} {B : Nat} {m : List Kt} (h : Sg W B m) {N : Nat} {cur : Array Value} (hN : W.heap[N]? = some (.cells cur 46 (0, 0))) (j : Nat) (v : Value) : Sg (W.setCell ⟨N, j, none⟩ v) B m :=
  h.kept (grown_set (World.grownBy.refl W (some N)) j v) hN
theorem RS.storeN {w0 : World} {n G N : Nat} {wr : World} {u : Value} {l m : List Kt} {o : Nat → Nat} {a0 a1 b0 b1 : Value} (h : RS w0 n G N wr u l m o a0 a1 b0 b1) (hG : G < N) (h0 : w0.heap.size ≤ G) (x y : Value) :
    RS w0 n G N ((wr.setCell ⟨N, 0, none⟩ x).setCell ⟨N, 1, none⟩ y) u l m o x y b0 b1 := by
  have hg : wr.grownBy ((wr.setCell ⟨N, 0, none⟩ x).setCell ⟨N, 1, none⟩ y) (some N) := grown_set (grown_set (World.grownBy.refl _ _) _ _) _ _
  exact ⟨h.row.kept hg (.inl h.un.1), h.sg.kept hg h.bN, h.out.kept hg (by intro e; injection e with e; omega), h.bel.grown hg h.bel.size (fun k hk => by cases hk; omega), leastEnd h.bN x y, (hg.block (N + 1) (Array.getElem?_eq_some_iff.1 h.bM).1 (by intro e; injection e with e; omega)).trans h.bM, h.un⟩
theorem RS.storeM {w0 : World} {n G N : Nat} {wr : World} {u : Value} {l m : List Kt} {o : Nat → Nat} {a0 a1 b0 b1 : Value} (h : RS w0 n G N wr u l m o a0 a1 b0 b1) (hG : G < N) (h0 : w0.heap.size ≤ G) (x y : Value) :
    RS w0 n G N ((wr.setCell ⟨N + 1, 0, none⟩ x).setCell ⟨N + 1, 1, none⟩ y) u l m o a0 a1 x y := by
  have hg : wr.grownBy ((wr.setCell ⟨N + 1, 0, none⟩ x).setCell ⟨N + 1, 1, none⟩ y) (some (N + 1)) := grown_set (grown_set (World.grownBy.refl _ _) _ _) _ _
  exact ⟨h.row.kept hg (.inl h.un.2), h.sg.kept hg h.bM, h.out.kept hg (by intro e; injection e with e; omega), h.bel.grown hg h.bel.size (fun k hk => by cases hk; omega), (hg.block N (Array.getElem?_eq_some_iff.1 h.bN).1 (by intro e; injection e with e; omega)).trans h.bN, leastEnd h.bM x y, h.un⟩
theorem RS.least {w0 : World} {n G N : Nat} {wr w1 : World} {u u' : Value} {l l' m : List Kt} {o : Nat → Nat} {a0 a1 b0 b1 : Value} {g : Nat} (h : RS w0 n G N wr u l m o a0 a1 b0 b1) (hu : u.ownBlock = some g) (hu' : u'.ownBlock = some g) (hg : wr.grownBy w1 (some g)) (ho : OwnK w1 (G + 1) u' l') (h0 : w0.heap.size ≤ G) :
    RS w0 n G N w1 u' l' m o a0 a1 b0 b1 := by
  have hGg := h.row.base_le g hu
  obtain ⟨cur, hc⟩ := h.row.blk g hu
  have h1 := h.un.1
  have h2 := h.un.2
  rw [hu] at h1 h2
  exact ⟨ho, h.sg.kept hg hc, h.out.kept hg (by intro e; injection e with e; omega), h.bel.grown hg h.bel.size (fun k hk => by cases hk; omega), (hg.block N (Array.getElem?_eq_some_iff.1 h.bN).1 (fun e => h1 e.symm)).trans h.bN, (hg.block (N + 1) (Array.getElem?_eq_some_iff.1 h.bM).1 (fun e => h2 e.symm)).trans h.bM, by rw [hu']; exact ⟨h1, h2⟩⟩
theorem RS.bump {w0 : World} {n G N : Nat} {wr : World} {u : Value} {l m : List Kt} {o o' : Nat → Nat} {a0 a1 b0 b1 : Value} (h : RS w0 n G N wr u l m o a0 a1 b0 b1) (hG : G < N) (h0 : w0.heap.size ≤ G) (i v : Nat) (hv : o' i = v) (ho : ∀ j, j ≠ i → o' j = o j) :
    RS w0 n G N (wr.setCell ⟨G, i, none⟩ (.int .i64 (v : Int))) u l m o' a0 a1 b0 b1 := by
  have hg : wr.grownBy (wr.setCell ⟨G, i, none⟩ (.int .i64 (v : Int))) (some G) := grown_set (World.grownBy.refl _ _) _ _
  have hs := h.out.store i (v : Int)
  rw [tab_set _ o' i v hv ho] at hs
  exact ⟨h.row.kept hg (.inl fun e => by have := h.row.base_le G e; omega), h.sg.past hg (Nat.lt_succ_self _), hs, h.bel.setCell h0 _, (hg.block N (Array.getElem?_eq_some_iff.1 h.bN).1 (by intro e; injection e with e; omega)).trans h.bN, (hg.block (N + 1) (Array.getElem?_eq_some_iff.1 h.bM).1 (by intro e; injection e with e; omega)).trans h.bM, h.un⟩
/-- The same ahead of a round. -/
structure LS (w0 : World) (n G : Nat) (wr : World) (u : Value) (l : List Kt) (o : Nat → Nat) : Prop where
  row : OwnK wr (G + 1) u l
  sg : Sg wr (G + 1) l
  out : Blk wr G (tab n o)
  bel : Below w0.heap.size w0 wr
theorem LS.start {w0 : World} {n G : Nat} {wr : World} {u : Value} {l : List Kt} {o : Nat → Nat} (h : LS w0 n G wr u l o) (a0 a1 b0 b1 : Value) :
    RS w0 n G wr.heap.size ((wr.alloc (.cells #[a0, a1] 46)).alloc (.cells #[b0, b1] 46)) u l l o a0 a1 b0 b1 := by
  have hb : Below wr.heap.size wr ((wr.alloc (.cells #[a0, a1] 46)).alloc (.cells #[b0, b1] 46)) := ((Below.refl _ _).alloc (Nat.le_refl _) _).alloc (by simp) _
  refine ⟨h.row.below hb, h.sg.below hb, (hb.block G h.out.lt).trans h.out, h.bel.trans (hb.mono h.bel.size), blk_old _ (blk_new _ _), blk_new1 _ _ _, ?_, ?_⟩
  · intro e; have := h.row.lt _ e; omega
  · intro e; have := h.row.lt _ e; omega
/-- Plainly. -/
structure PS (ws : List Int) (l : List Kt) (o : Nat → Nat) : Prop where
  grown : grow (l.length - 1) (ks l) o = growN (knots ws ws.length)
  nd : (flat (ks l)).Nodup
  lt : ∀ i, i ∈ flat (ks l) → i < ws.length
  sum : wsum (ks l) ≤ 1099511627776
  bd : ∀ i, o i + l.length ≤ ws.length + 1
  fl : (flat (ks l)).length ≤ ws.length
theorem ks_get {l : List Kt} {i : Nat} {x : Kt} (h : l[i]? = some x) : (ks l).getD i (0, []) = x.k := by
  unfold ks
  rw [List.getD_eq_getElem?_getD, List.getElem?_map, h]
  rfl
theorem map_erase {α β : Type} (f : α → β) : ∀ (l : List α) (i : Nat), (l.map f).eraseIdx i = (l.eraseIdx i).map f
  | [], _ => rfl
  | _ :: _, 0 => rfl
  | x :: l, i + 1 => by show f x :: (l.map f).eraseIdx i = f x :: (l.eraseIdx i).map f; rw [map_erase f l i]
theorem stepK_ks {l : List Kt} {x y : Kt} (hx : l[lm l]? = some x) (hy : (l.eraseIdx (lm l))[lm (l.eraseIdx (lm l))]? = some y) (A : Option Addr) (c : Nat) :
    stepK (ks l) = (ks ((l.eraseIdx (lm l)).eraseIdx (lm (l.eraseIdx (lm l))) ++ [⟨x.wt + y.wt, x.ns ++ y.ns, A, c⟩]), x.ns ++ y.ns) := by
  have e1 : minAt ((ks l).map Prod.fst) = lm l := by rw [ks_wts]; rfl
  have e2 : (ks l).eraseIdx (lm l) = ks (l.eraseIdx (lm l)) := map_erase _ _ _
  have e3 : minAt ((ks (l.eraseIdx (lm l))).map Prod.fst) = lm (l.eraseIdx (lm l)) := by rw [ks_wts]; rfl
  have e4 : (ks (l.eraseIdx (lm l))).eraseIdx (lm (l.eraseIdx (lm l))) = ks ((l.eraseIdx (lm l)).eraseIdx (lm (l.eraseIdx (lm l)))) := map_erase _ _ _
  unfold stepK
  simp only [e1, e2, e3, e4, ks_get hx, ks_get hy]
  rw [ks_app]
  rfl
theorem PS.step {ws : List Int} {l l' : List Kt} {o : Nat → Nat} (h : PS ws l o) (h2 : 2 ≤ l.length) {b : List Nat} (hs : stepK (ks l) = (ks l', b)) : PS ws l' (more o b) ∧ b.Nodup ∧ (∀ i, i ∈ b → i < ws.length) ∧ b.length ≤ ws.length ∧ l'.length + 1 = l.length := by
  have hk : 2 ≤ (ks l).length := by rw [ks_len]; exact h2
  obtain ⟨f1, f2, r, f3⟩ := stepK_flat hk
  have hlen := stepK_len (ks l) hk
  rw [hs] at f1 f2 f3 hlen
  simp only at f1 f2 f3 hlen
  rw [ks_len, ks_len] at hlen
  have hnd := f3.nodup_iff.1 h.nd
  refine ⟨⟨?_, f1.nodup_iff.2 h.nd, fun i hi => h.lt i (f1.mem_iff.1 hi), by rw [f2]; exact h.sum, fun i => ?_, by rw [f1.length_eq]; exact h.fl⟩, (List.nodup_append.1 hnd).1, fun i hi => h.lt i (f3.mem_iff.2 (List.mem_append_left _ hi)), ?_, hlen⟩
  · rw [← h.grown, show l.length - 1 = (l'.length - 1) + 1 by omega]
    show _ = grow (l'.length - 1) (stepK (ks l)).1 (more o (stepK (ks l)).2)
    rw [hs]
  · have := more_le (o := o) (m := ws.length + 1 - l.length) (fun i => by have := h.bd i; omega) b i
    have := h.bd i
    omega
  · have := f3.length_eq
    rw [List.length_append] at this
    have := h.fl
    omega

theorem Sg.rd {w : World} {B : Nat} {l : List Kt} (h : Sg w B l) {x : Kt} (hx : x ∈ l) (hl : x.ns.length ≤ 1000000) : Rd w x.A x.ns.length (ints x.ns) ∧ (x.A = none → x.c = 0) := by
  obtain ⟨A, c, e, h0, _, _, hr⟩ := (h x hx).form3 (by rw [ints_len]; omega)
  unfold Kt.v at e
  rw [ints_len] at e hr
  injection e with e1 e2 e3
  rw [e1, e3]
  exact ⟨hr, h0⟩
theorem more_zero (o : Nat → Nat) (b : List Nat) : more o (b.take 0) = o := by funext i; simp [more]
theorem any_hit {xs : List Int} {k : Nat} (hk : k < xs.length) (h : 31 < rd xs k) : xs.any (fun x => decide (31 < x)) = true := by
  rw [List.any_eq_true]
  exact ⟨xs[k], List.getElem_mem _, by rw [← rd_lt hk]; simpa using h⟩
theorem any_miss {xs : List Int} (h : ∀ k, k < xs.length → rd xs k ≤ 31) : xs.any (fun x => decide (31 < x)) = false := by
  rw [List.any_eq_false]
  intro x hx
  obtain ⟨k, hk, rfl⟩ := List.getElem_of_mem hx
  have := h k hk
  rw [rd_lt hk] at this
  simp; omega
/-- One round, plainly. -/
structure RF (ws : List Int) (l : List Kt) (o : Nat → Nat) (x y : Kt) (l1 l2 : List Kt) : Prop where
  e1 : l1 = l.eraseIdx (lm l)
  e2 : l2 = l1.eraseIdx (lm l1)
  hx : l[lm l]? = some x
  hy : l1[lm l1]? = some y
  n1 : l1.length + 1 = l.length
  n2 : l2.length + 2 = l.length
  mx : x ∈ l
  my : y ∈ l
  m2 : ∀ k, k ∈ l2 → k ∈ l
  w0 : ∀ k, k ∈ l → k.wt ≤ 1099511627776
  w1 : ∀ k, k ∈ l1 → k.wt ≤ 1099511627776
  wxy : x.wt + y.wt ≤ 1099511627776
  ps : ∀ A c, PS ws (l2 ++ [⟨x.wt + y.wt, x.ns ++ y.ns, A, c⟩]) (more o (x.ns ++ y.ns))
  nd : (x.ns ++ y.ns).Nodup
  lt : ∀ i, i ∈ x.ns ++ y.ns → i < ws.length
  len : (x.ns ++ y.ns).length ≤ ws.length
theorem PS.round {ws : List Int} {l : List Kt} {o : Nat → Nat} (h : PS ws l o) (h2 : 2 ≤ l.length) : ∃ x y l1 l2, RF ws l o x y l1 l2 := by
  obtain ⟨x, hx⟩ : ∃ x, l[lm l]? = some x := ⟨_, List.getElem?_eq_getElem (lm_lt (by omega))⟩
  have hl1n : (l.eraseIdx (lm l)).length = l.length - 1 := by rw [List.length_eraseIdx, if_pos (lm_lt (by omega))]
  obtain ⟨y, hy⟩ : ∃ y, (l.eraseIdx (lm l))[lm (l.eraseIdx (lm l))]? = some y := ⟨_, List.getElem?_eq_getElem (lm_lt (by omega))⟩
  have hl2n : ((l.eraseIdx (lm l)).eraseIdx (lm (l.eraseIdx (lm l)))).length = l.length - 2 := by rw [List.length_eraseIdx, if_pos (lm_lt (by omega)), hl1n]; omega
  have hw1 : ∀ k, k ∈ l → k.wt ≤ 1099511627776 := fun k hk => by
    have h9 : k.k.1 ≤ wsum (ks l) := sum_mem (List.mem_map.2 ⟨k, hk, rfl⟩)
    exact Nat.le_trans h9 h.sum
  have hN := fun A c => h.step h2 (stepK_ks hx hy A c)
  obtain ⟨p0, p1, p2, p3, _⟩ := hN none 0
  refine ⟨x, y, _, _, rfl, rfl, hx, hy, by omega, by omega, List.mem_of_getElem? hx, List.mem_of_mem_eraseIdx (List.mem_of_getElem? hy), fun k hk => List.mem_of_mem_eraseIdx (List.mem_of_mem_eraseIdx hk), hw1, fun k hk => hw1 k (List.mem_of_mem_eraseIdx hk), ?_, fun A c => (hN A c).1, p1, p2, p3⟩
  have h8 := p0.sum
  rw [ks_app, wsum_app] at h8
  have e : wsum (ks [(⟨x.wt + y.wt, x.ns ++ y.ns, none, 0⟩ : Kt)]) = x.wt + y.wt := by simp [wsum, ks, Kt.k]
  omega
def Rel2 (w : World) (n G : Nat) (ws : List Int) (u : Value) (wr : World) : Prop := ∃ (l : List Kt) (o : Nat → Nat) (uA : Option Addr) (ln uc : Nat), u = .slice uA ln uc ∧ ln ≤ 10000 ∧ Kp (ln = l.length) ∧ Kp (PS ws l o) ∧ Kp (LS w n G wr (.slice uA ln uc) l o)

set_option maxRecDepth 100000 in
set_option maxHeartbeats 8000000 in
theorem lengths_any (A : Option Addr) (n c : Nat) (ws : List Int) (w : World) (h : Rd w A n ws) (hn : n ≤ 10000) :
    Calls Try.prog 19 #[.slice A n c] w fun e w' => ∃ v, e = .returned (.tuple #[v, .int .i64 (lengthsP ws).1]) ∧ Own w' w.heap.size v (lengthsP ws).2 ∧ Below w.heap.size w w' := by
  have hmk := make_ints n (by omega)
  have H := Kp.mk h
  have HL := Kp.mk h.len
  have I0 : Kp (LInv w ws w.heap.size (w.alloc (.cells (zrow n) 3)) (.slice none 0 0) []) := ⟨OwnK.nil _ _, (fun k hk => by cases hk), by rw [h.len]; exact blk_zrow w n, (Below.refl _ _).alloc (Nat.le_refl _) _⟩
  obtain ⟨G, hG⟩ : ∃ G, G = w.heap.size := ⟨_, rfl⟩
  have HG := Kp.mk hG
  clear h
  go_enter Try.func19, Try.ntmps19
  go_wp2_with fail
  rw [← hG]
  rw [← hG] at I0
  clear hG
  go_wp2
  go_loopw [5, 6, 21] (fun u s i wr => ∃ (k S : Nat) (l : List Kt) (uA : Option Addr) (ln uc : Nat), k ≤ n ∧ i = .int .i64 k ∧ s = .int .i64 S ∧ S ≤ 1099511627776 ∧ u = .slice uA ln uc ∧ ln ≤ 10000 ∧ Kp (ln = l.length) ∧ Kp (sumOK ws k = some S) ∧ Kp (ks l = knots ws k) ∧ Kp (LInv w ws G wr (.slice uA ln uc) l)) (fun _ _ i _ => n - (intOf i).toNat)
  case atStart => exact ⟨0, 0, [], none, 0, 0, by omega, rfl, rfl, by omega, rfl, by omega, ⟨rfl⟩, ⟨rfl⟩, ⟨rfl⟩, I0⟩
  case round =>
    obtain ⟨k, S, l, uA, ln, uc, hk, rfl, rfl, hSb, rfl, hln, HLN, HS, HK, HI⟩ := hrel
    by_cases hkn : k < n
    · have hd : decide ((k : Int) < (n : Int)) = true := by simp; omega
      obtain ⟨b, o, hA, hlt, hc0⟩ := H.it.get hkn
      have hcell := (HI.it.bel.cell (p := ⟨b, o + k, none⟩) hlt).trans hc0
      cases hA
      clear hc0 hlt
      have HS1 : Kp (sumOK ws (k + 1) = if rd ws k < 0 ∨ 1099511627776 < rd ws k ∨ 1099511627776 - rd ws k < (S : Int) then none else some (S + (rd ws k).toNat)) := ⟨by
        show (match sumOK ws k with | none => none | some s => _) = _
        rw [HS.it]⟩
      have HK1 : Kp (knots ws (k + 1) = if 0 < rd ws k then knots ws k ++ [((rd ws k).toNat, [k])] else knots ws k) := ⟨rfl⟩
      obtain ⟨v, hv⟩ : ∃ v, v = rd ws k := ⟨_, rfl⟩
      rw [← hv] at hcell HS1 HK1
      clear hv
      by_cases hbad : v < 0 ∨ 1099511627776 < v ∨ 1099511627776 - v < (S : Int)
      · rw [if_pos hbad] at HS1
        have HE : Kp (lengthsP ws = (5, [])) := ⟨by unfold lengthsP; rw [sumOK_none HS1.it _ (by rw [HL.it]; omega)]⟩
        have HIB : Kp (Below w.heap.size w wr) := ⟨HI.it.bel⟩
        clear HK HK1 HS HS1 HI
        by_cases h1 : v < 0
        · have hq1 : decide (v < 0) = true := by simpa using h1
          clear hbad h1
          go_wp2
          go_ret2
          rw [HE.it]
          exact ⟨_, rfl, Own.nil _ _, HIB.it⟩
        have hq1 : decide (v < 0) = false := by simpa using h1
        by_cases h2 : 1099511627776 < v
        · have hq2 : decide (v > 1099511627776) = true := by simpa using h2
          clear hbad h1 h2
          go_wp2
          go_ret2
          rw [HE.it]
          exact ⟨_, rfl, Own.nil _ _, HIB.it⟩
        have hq2 : decide (v > 1099511627776) = false := by simpa using h2
        have h3 : 1099511627776 - v < (S : Int) := by omega
        have hq3 : decide ((S : Int) > 1099511627776 - v) = true := by simpa using h3
        have hv0 : 0 ≤ v := by omega
        have hv1 : v ≤ 1099511627776 := by omega
        clear hbad h1 h2 h3
        go_wp2
        go_ret2
        rw [HE.it]
        exact ⟨_, rfl, Own.nil _ _, HIB.it⟩
      · rw [if_neg hbad] at HS1
        obtain ⟨V, rfl⟩ : ∃ V : Nat, v = (V : Int) := ⟨v.toNat, by omega⟩
        rw [Int.toNat_natCast] at HS1 HK1
        have hV : V ≤ 1099511627776 := by omega
        have hVS : S + V ≤ 1099511627776 := by omega
        have hq1 : decide ((V : Int) < 0) = false := by simp
        have hq2 : decide ((V : Int) > 1099511627776) = false := by simp; omega
        have hq3 : decide ((S : Int) > 1099511627776 - (V : Int)) = false := by simp; omega
        clear hbad
        rcases Nat.eq_zero_or_pos V with hV0 | hV0
        · subst hV0
          have hq4 : decide (((0 : Nat) : Int) > 0) = false := by decide
          rw [if_neg (by decide)] at HK1
          have HK2 : Kp (ks l = knots ws (k + 1)) := ⟨by rw [HK1.it]; exact HK.it⟩
          clear HK HK1 HS
          go_wp2
          go_roundw
          case rel => exact ⟨k + 1, S, l, uA, ln, uc, by omega, by go_num, by go_num, by omega, rfl, hln, HLN, HS1, HK2, HI⟩
          case measure => simp [intOf]; omega
        · have hq4 : decide ((V : Int) > 0) = true := by simp; omega
          rw [if_pos (by omega)] at HK1
          have HLL : Kp (l.length + 1 ≤ 100000) := ⟨by have := knots_len ws k; rw [← HK.it, ks_len] at this; omega⟩
          have O1 : Kp (Own (wr.alloc (.cells #[.int .i64 (k : Int)] 3)) wr.heap.size (.slice (some ⟨wr.heap.size, 0, none⟩) 1 1) [(k : Int)]) := ⟨own_one wr _⟩
          have R1 : Kp (OwnK (wr.alloc (.cells #[.int .i64 (k : Int)] 3)) (G + 1) (.slice uA ln uc) l) := ⟨HI.it.row.below ((Below.refl _ _).alloc (Nat.le_refl _) _)⟩
          have G1 : Kp (Sg (wr.alloc (.cells #[.int .i64 (k : Int)] 3)) (G + 1) l) := ⟨HI.it.sg.below ((Below.refl _ _).alloc (Nat.le_refl _) _)⟩
          have B1 : Kp (Below w.heap.size w (wr.alloc (.cells #[.int .i64 (k : Int)] 3))) := ⟨HI.it.bel.alloc HI.it.bel.size _⟩
          have Z1 : Kp (G + 1 ≤ (wr.alloc (.cells #[.int .i64 (k : Int)] 3)).heap.size) := ⟨by simp; have := HI.it.size; omega⟩
          have T1 : Kp (Blk (wr.alloc (.cells #[.int .i64 (k : Int)] 3)) G (List.replicate ws.length 0)) := ⟨blk_old _ HI.it.out⟩
          have S1 : Kp (G + 1 ≤ wr.heap.size) := ⟨HI.it.size⟩
          have HKN : Kp (ln < n) := ⟨by have := knots_len ws k; rw [← HK.it, ks_len] at this; rw [HLN.it]; omega⟩
          have HWN : Kp (wr.alloc (.cells #[.int .i64 (k : Int)] 3) = wr.alloc (.cells #[.int .i64 (k : Int)] 3)) := ⟨rfl⟩
          clear HI
          go_wp2_with (refine app_k1 rfl (.tmp 43) (.tmp 48) rfl (G + 1) (.slice uA ln uc) l ⟨V, [k], some ⟨wr.heap.size, 0, none⟩, 1⟩ (wr.heap.size + 1) (World.size_alloc _ _).symm rfl rfl R1.it Z1.it HLL.it ?_
                       intro v1 w1 hn1 hg1
                       obtain ⟨A1, c1, hv1, _, _⟩ := hn1.form
                       rw [List.length_append, List.length_singleton, ← HLN.it] at hv1
                       subst hv1
                       have R2 := Kp.mk hn1
                       have B2 : Kp (Below w.heap.size w w1) := ⟨B1.it.grown hg1 B1.it.size (fun k hk => by have := R1.it.base_le k hk; have := HG.it; omega)⟩
                       have G2 : Kp (Sg w1 (G + 1) (l ++ [⟨V, [k], some ⟨wr.heap.size, 0, none⟩, 1⟩])) := ⟨sg_app (G1.it.own hg1 R1.it) (sg_one ((O1.it.relax S1.it).ownK hg1 R1.it))⟩
                       have T2 : Kp (Blk w1 G (List.replicate ws.length 0)) := ⟨T1.it.kept hg1 (fun h9 => by have := R1.it.base_le G h9.symm; omega)⟩
                       clear hn1 hg1)
          go_roundw
          case rel => exact ⟨k + 1, S + V, _, A1, ln + 1, c1, by omega, by go_num, by go_num, by omega, rfl, by have := HKN.it; omega, ⟨by rw [List.length_append, List.length_singleton, HLN.it]⟩, HS1, ⟨by rw [HK1.it, ks_app, HK.it]; rfl⟩, ⟨⟨R2.it, G2.it, T2.it, B2.it⟩⟩⟩
          case measure => simp [intOf]; omega
    obtain rfl : n = k := by omega
    have hd : decide ((n : Int) < (n : Int)) = false := by simp
    have HLE : Kp (lengthsP ws = if (lengthsN ws).any (fun x => decide (31 < x)) then (4, []) else (0, lengthsN ws)) := ⟨by unfold lengthsP; rw [HL.it, HS.it]⟩
    have PS0 : Kp (ln ≠ 1 → PS ws l (fun _ => 0)) := ⟨fun h1 => ⟨by
        unfold growN
        rw [HL.it, ← HK.it, ks_len, ← HLN.it, if_neg h1], by rw [HK.it]; exact knots_nodup _ _, by rw [HK.it, HL.it]; exact knots_lt _ _, by rw [HK.it, knots_sum HS.it]; exact hSb, fun i => by rw [HL.it, ← HLN.it]; have := knots_len ws n; rw [← HK.it, ks_len, ← HLN.it] at this; omega, by rw [HK.it, knots_flat, HL.it]; exact knots_len _ _⟩⟩
    have PS1 : Kp (ln = 1 → PS ws l (fun i => if i ∈ flat (ks l) then 1 else 0)) := ⟨fun h1 => ⟨by
        unfold growN
        rw [HL.it, ← HK.it, ks_len, ← HLN.it, if_pos h1, h1]
        rfl, by rw [HK.it]; exact knots_nodup _ _, by rw [HK.it, HL.it]; exact knots_lt _ _, by rw [HK.it, knots_sum HS.it]; exact hSb, fun i => by
          have := knots_len ws n
          rw [← HK.it, ks_len, ← HLN.it] at this
          rw [HL.it, ← HLN.it]
          show (if i ∈ flat (ks l) then 1 else 0) + ln ≤ n + 1
          split <;> omega, by rw [HK.it, knots_flat, HL.it]; exact knots_len _ _⟩⟩
    have HL0 : Kp (LS w n G wr (.slice uA ln uc) l (fun _ => 0)) := ⟨⟨HI.it.row, HI.it.sg, by rw [tab_zero n _ (fun _ => rfl), ← HL.it]; exact HI.it.out, HI.it.bel⟩⟩
    have HGW : Kp (w.heap.size ≤ G) := ⟨by rw [HG.it]; exact Nat.le_refl _⟩
    by_cases h1 : ln = 1
    · subst h1
      obtain ⟨x, hx⟩ : ∃ x, l = [x] := List.length_eq_one_iff.1 HLN.it.symm
      obtain ⟨g, c5, e5, hg5, hg6, _⟩ := HI.it.row.atl (by rw [← HLN.it]; omega)
      rw [← HLN.it] at e5
      cases e5
      have hx0 : l[0]? = some x := by rw [hx]; rfl
      obtain ⟨z0, z1⟩ := HI.it.row.cells hx0
      have hxo := HI.it.sg x (by rw [hx]; exact List.mem_singleton.2 rfl)
      have hfl : (flat (ks l)).length = 1 := by rw [HK.it, knots_flat, ← HK.it, ks_len, ← HLN.it]
      have hfx : flat (ks l) = x.ns := by rw [hx]; simp [ks, flat, Kt.k]
      obtain ⟨i, hi⟩ : ∃ i, x.ns = [i] := List.length_eq_one_iff.1 (by rw [← hfx]; exact hfl)
      have hin : i < n := by rw [← HL.it]; exact (PS1.it rfl).lt i (by rw [hfx, hi]; exact List.mem_singleton.2 rfl)
      obtain ⟨xA, xc, hxv, hxr⟩ := hxo.form
      rw [ints_len, hi] at hxv hxr
      obtain ⟨b9, o9, e9, hb9, hc9⟩ := (hxr (by simp)).get (k := 0) (by simp)
      have z1' : wr.cell? ⟨g, 0 * 2 + 1, none⟩ = some (.slice (some ⟨b9, o9, none⟩) 1 xc) := by rw [z1, hxv, e9]; rfl
      have hc9' : wr.cell? ⟨b9, o9, none⟩ = some (.int .i64 (i : Int)) := by
        have := hc9
        rw [Nat.add_zero] at this
        rw [this]; rfl
      have hcg := HI.it.out.cell (j := i) (by rw [List.length_replicate, HL.it]; exact hin)
      have hfz := HI.it.out.free i
      generalize rd (List.replicate ws.length 0) i = old at hcg
      have HL1 : Kp (LS w n G (wr.setCell ⟨G, i, none⟩ (.int .i64 1)) (.slice (some ⟨g, 0, none⟩) 1 uc) l (fun i => if i ∈ flat (ks l) then 1 else 0)) := ⟨by
        have hg : wr.grownBy (wr.setCell ⟨G, i, none⟩ (.int .i64 1)) (some G) := grown_set (World.grownBy.refl _ _) _ _
        have hs := HL0.it.out.store i ((1 : Nat) : Int)
        rw [tab_set _ (fun i => if i ∈ flat (ks l) then 1 else 0) i 1 (by rw [hfx, hi]; simp) (fun y hy => by rw [hfx, hi]; simp [hy])] at hs
        exact ⟨HI.it.row.kept hg (.inl fun e => by have := HI.it.row.base_le G e; omega), HI.it.sg.past hg (Nat.lt_succ_self _), hs, HI.it.bel.setCell HGW.it _⟩⟩
      have HPS := Kp.mk (PS1.it rfl)
      have HA : Kp (Rel2 w n G ws (.slice (some ⟨g, 0, none⟩) 1 uc) (wr.setCell ⟨G, i, none⟩ (.int .i64 1))) := ⟨l, _, _, _, _, rfl, by omega, HLN, HPS, HL1⟩
      have z1'' : wr.cell? ⟨g, 1, none⟩ = some (.slice (some ⟨b9, o9, none⟩) 1 xc) := z1'
      have hin2 : (i : Int) < (n : Int) := by omega
      clear hx hx0 z0 z1 z1' hxo hfl hfx hi hxv hxr e9 hc9 HL0 PS0 PS1 HK HS HI HL1 HPS HLN
      go_wp2
      go_loopw [5] (fun u wr => Rel2 w n G ws u wr) (fun u _ => match u with | .slice _ m _ => m | _ => 0)
      case atStart => exact HA.it
      case round =>
        clear HA
        obtain ⟨l, o, uA, ln, uc, rfl, hlnb, HLN, HPS, HLS⟩ := hrel
        by_cases h2 : 2 ≤ ln
        · have hd : decide ((ln : Int) > 1) = true := by simp; omega
          obtain ⟨g, c5, e5, hg5, hg6, _⟩ := HLS.it.row.atl (by rw [← HLN.it]; omega)
          rw [← HLN.it] at e5
          cases e5
          obtain ⟨m, rfl⟩ : ∃ m, ln = m + 2 := ⟨ln - 2, by omega⟩
          obtain ⟨x, y, l1, l2, hRF⟩ := HPS.it.round (by rw [← HLN.it]; exact h2)
          have HRF := Kp.mk hRF
          clear hRF
          have RS0 : Kp (RS w n G wr.heap.size ((wr.alloc (.cells #[.int .i64 0, .slice none 0 0] 46)).alloc (.cells #[.int .i64 0, .slice none 0 0] 46)) (.slice (some ⟨g, 0, none⟩) (m + 2) uc) l l o (.int .i64 0) (.slice none 0 0) (.int .i64 0) (.slice none 0 0)) := ⟨HLS.it.start _ _ _ _⟩
          have HG1 : Kp (G < wr.heap.size) := ⟨HLS.it.out.lt⟩
          obtain ⟨N, hN⟩ : ∃ N, N = wr.heap.size := ⟨_, rfl⟩
          go_wp2_with fail
          rw [← hN]
          rw [← hN] at RS0 HG1
          generalize hW2 : (wr.alloc (.cells #[.int .i64 0, .slice none 0 0] 46)).alloc (.cells #[.int .i64 0, .slice none 0 0] 46) = W2 at RS0 ⊢
          have HHN : Kp (N = wr.heap.size ∧ (wr.alloc (.cells #[.int .i64 0, .slice none 0 0] 46)).alloc (.cells #[.int .i64 0, .slice none 0 0] 46) = W2) := ⟨hN, hW2⟩
          clear hN hW2
          have HC1 : Kp (Calls Try.prog 41 #[.slice (some ⟨g, 0, none⟩) (m + 2) uc] W2 fun e w' => e = .returned (.tuple #[.agg #[.int .i64 (x.wt : Int), .slice x.A x.ns.length x.c], .slice (some ⟨g, 0, none⟩) (m + 1) uc]) ∧ OwnK w' (G + 1) (.slice (some ⟨g, 0, none⟩) (m + 1) uc) l1 ∧ W2.grownBy w' (some g)) := ⟨by
            have h9 := RS0.it.row
            have e9 : m + 1 = l.length - 1 := by have := HLN.it; omega
            rw [e9, HRF.it.e1]
            have h7 := HLN.it
            rw [h7] at h9 hlnb ⊢
            exact least_any h9 (by omega) (by omega) HRF.it.hx HRF.it.w0⟩
          refine HC1.it.mono ?_
          rintro e w3 ⟨rfl, ho3, hg3⟩
          have RS1 : Kp (RS w n G N w3 (.slice (some ⟨g, 0, none⟩) (m + 1) uc) l1 l o (.int .i64 0) (.slice none 0 0) (.int .i64 0) (.slice none 0 0)) := ⟨RS0.it.least (g := g) rfl rfl hg3 ho3 HGW.it⟩
          clear ho3 hg3 HC1 RS0
          have RS2 : Kp (RS w n G N ((w3.setCell ⟨N, 0, none⟩ (.int .i64 (x.wt : Int))).setCell ⟨N, 1, none⟩ (.slice x.A x.ns.length x.c)) (.slice (some ⟨g, 0, none⟩) (m + 1) uc) l1 l o (.int .i64 (x.wt : Int)) (.slice x.A x.ns.length x.c) (.int .i64 0) (.slice none 0 0)) := ⟨RS1.it.storeN HG1.it HGW.it _ _⟩
          have c0 := blk_cell (o := 0) RS1.it.bN rfl
          have c1 := blk_cell (o := 1) RS1.it.bN rfl
          have f0 : w3.frozen? ⟨N, 0, none⟩ = false := blk_free RS1.it.bN
          have f1 : w3.frozen? ⟨N, 1, none⟩ = false := blk_free RS1.it.bN
          go_wp2_with fail
          generalize hW4 : (w3.setCell ⟨N, 0, none⟩ (.int .i64 (x.wt : Int))).setCell ⟨N, 1, none⟩ (.slice x.A x.ns.length x.c) = w4 at RS2 ⊢
          clear hW4 RS1 c0 c1 f0 f1
          have HC2 : Kp (Calls Try.prog 41 #[.slice (some ⟨g, 0, none⟩) (m + 1) uc] w4 fun e w' => e = .returned (.tuple #[.agg #[.int .i64 (y.wt : Int), .slice y.A y.ns.length y.c], .slice (some ⟨g, 0, none⟩) m uc]) ∧ OwnK w' (G + 1) (.slice (some ⟨g, 0, none⟩) m uc) l2 ∧ w4.grownBy w' (some g)) := ⟨by
            have h9 := RS2.it.row
            have h7 : m + 1 = l1.length := by have := HLN.it; have := HRF.it.n1; omega
            have e9 : m = l1.length - 1 := by omega
            rw [e9, HRF.it.e2]
            rw [h7] at h9
            rw [show l1.length - 1 + 1 = l1.length by omega]
            exact least_any h9 (by omega) (by omega) HRF.it.hy HRF.it.w1⟩
          refine HC2.it.mono ?_
          rintro e w5 ⟨rfl, ho5, hg5'⟩
          have RS3 : Kp (RS w n G N w5 (.slice (some ⟨g, 0, none⟩) m uc) l2 l o (.int .i64 (x.wt : Int)) (.slice x.A x.ns.length x.c) (.int .i64 0) (.slice none 0 0)) := ⟨RS2.it.least (g := g) rfl rfl hg5' ho5 HGW.it⟩
          clear ho5 hg5' HC2 RS2
          have RS4 : Kp (RS w n G N ((w5.setCell ⟨N + 1, 0, none⟩ (.int .i64 (y.wt : Int))).setCell ⟨N + 1, 1, none⟩ (.slice y.A y.ns.length y.c)) (.slice (some ⟨g, 0, none⟩) m uc) l2 l o (.int .i64 (x.wt : Int)) (.slice x.A x.ns.length x.c) (.int .i64 (y.wt : Int)) (.slice y.A y.ns.length y.c)) := ⟨RS3.it.storeM HG1.it HGW.it _ _⟩
          have c0 := blk_cell (o := 0) RS3.it.bM rfl
          have c1 := blk_cell (o := 1) RS3.it.bM rfl
          have f0 : w5.frozen? ⟨N + 1, 0, none⟩ = false := blk_free RS3.it.bM
          have f1 : w5.frozen? ⟨N + 1, 1, none⟩ = false := blk_free RS3.it.bM
          have d1 := blk_cell (o := 1) RS4.it.bN rfl
          have d2 := blk_cell (o := 1) RS4.it.bM rfl
          go_wp2_with fail
          have hsz : w5.heap.size = ((w5.setCell ⟨N + 1, 0, none⟩ (.int .i64 (y.wt : Int))).setCell ⟨N + 1, 1, none⟩ (.slice y.A y.ns.length y.c)).heap.size := by rw [size_set, size_set]
          rw [hsz]
          generalize hW6 : (w5.setCell ⟨N + 1, 0, none⟩ (.int .i64 (y.wt : Int))).setCell ⟨N + 1, 1, none⟩ (.slice y.A y.ns.length y.c) = w6 at RS4 d1 d2 ⊢
          clear hsz hW6 RS3 c0 c1 f0 f1 d1 d2
          have HLB : Kp (x.ns.length + y.ns.length ≤ 10000) := ⟨by have := HRF.it.len; rw [List.length_append, HL.it] at this; omega⟩
          have HC3 : Kp (Calls Try.prog 42 #[.slice (some ⟨w6.heap.size, 0, none⟩) 2 2] (w6.alloc (.cells #[.slice x.A x.ns.length x.c, .slice y.A y.ns.length y.c] 22)) fun e w' => ∃ v, e = .returned v ∧ Own w' (w6.alloc (.cells #[.slice x.A x.ns.length x.c, .slice y.A y.ns.length y.c] 22)).heap.size v (ints x.ns ++ ints y.ns) ∧ Below (w6.alloc (.cells #[.slice x.A x.ns.length x.c, .slice y.A y.ns.length y.c] 22)).heap.size (w6.alloc (.cells #[.slice x.A x.ns.length x.c, .slice y.A y.ns.length y.c] 22)) w') := ⟨by
            have hb6 : Below w6.heap.size w6 (w6.alloc (.cells #[.slice x.A x.ns.length x.c, .slice y.A y.ns.length y.c] 22)) := (Below.refl _ _).alloc (Nat.le_refl _) _
            obtain ⟨r1, e1⟩ := RS4.it.sg.rd HRF.it.mx (by have := HLB.it; omega)
            obtain ⟨r2, e2⟩ := RS4.it.sg.rd HRF.it.my (by have := HLB.it; omega)
            exact concat_any _ 2 x.A y.A _ x.c _ y.c _ _ _ (by simp) (blk_cell (blk_new _ _) rfl) (blk_cell (blk_new _ _) rfl) (r1.below hb6) (r2.below hb6) e1 e2 (by have := HLB.it; omega)⟩
          refine HC3.it.mono ?_
          rintro e w7 ⟨v7, rfl, ho7, hb7⟩
          have RS5 : Kp (RS w n G N w7 (.slice (some ⟨g, 0, none⟩) m uc) l2 l o (.int .i64 (x.wt : Int)) (.slice x.A x.ns.length x.c) (.int .i64 (y.wt : Int)) (.slice y.A y.ns.length y.c)) := ⟨(RS4.it.below ((Below.refl _ _).alloc (Nat.le_refl _) _)).below hb7⟩
          obtain ⟨bt, hbt⟩ : ∃ bt, bt = x.ns ++ y.ns := ⟨_, rfl⟩
          have O7 : Kp (Own w7 (G + 1) v7 (ints bt)) := ⟨by rw [hbt, ints_app]; exact ho7.relax (by have := RS4.it.out.lt; simp; omega)⟩
          have HBT := Kp.mk hbt
          obtain ⟨A7, c7, hv7, hn7, _⟩ := O7.it.form3 (by rw [hbt, ints_len, List.length_append]; have := HLB.it; omega)
          rw [ints_len] at hv7
          obtain ⟨n7, hn7e⟩ : ∃ n7, n7 = bt.length := ⟨_, rfl⟩
          rw [← hn7e] at hv7
          have HN7 := Kp.mk hn7e
          have HN7B : n7 ≤ 10000 := by rw [hn7e, hbt, List.length_append]; exact HLB.it
          subst hv7
          clear ho7 hb7 HC3 RS4 hbt hn7e hn7
          obtain ⟨xw, hxw⟩ : ∃ a, a = x.wt := ⟨_, rfl⟩
          obtain ⟨yw, hyw⟩ : ∃ a, a = y.wt := ⟨_, rfl⟩
          have HXW := Kp.mk hxw
          have HYW := Kp.mk hyw
          rw [← hxw, ← hyw] at RS5
          have hwb : xw + yw ≤ 1099511627776 := by rw [hxw, hyw]; exact HRF.it.wxy
          clear hxw hyw
          have HND : Kp (bt.Nodup) := ⟨by rw [HBT.it]; exact HRF.it.nd⟩
          have HLT : Kp (∀ j, j < n7 → bt.getD j 0 < n) := ⟨fun j hj => by
            have h9 := HRF.it.lt (bt.getD j 0) (by rw [← HBT.it, List.getD_eq_getElem?_getD, List.getElem?_eq_getElem (by rw [← HN7.it]; exact hj)]; exact List.getElem_mem _)
            rwa [HL.it] at h9⟩
          go_wp2
          go_loopw [83] (fun i wz => ∃ j : Nat, j ≤ n7 ∧ i = .int .i64 j ∧ Kp (RS w n G N wz (.slice (some ⟨g, 0, none⟩) m uc) l2 l (more o (bt.take j)) (.int .i64 (xw : Int)) (.slice x.A x.ns.length x.c) (.int .i64 (yw : Int)) (.slice y.A y.ns.length y.c)) ∧ Kp (Own wz (G + 1) (.slice A7 n7 c7) (ints bt))) (fun i _ => n7 - (intOf i).toNat)
          case atStart => exact ⟨0, by omega, rfl, ⟨by rw [more_zero]; exact RS5.it⟩, O7⟩
          case round =>
            clear RS5 O7
            obtain ⟨j, hj, rfl, RS6, O8⟩ := hrel
            by_cases hjn : j < n7
            · have hd3 : decide ((j : Int) < (n7 : Int)) = true := by simp; omega
              obtain ⟨i, hi⟩ : ∃ i, i = bt.getD j 0 := ⟨_, rfl⟩
              have hin : i < n := by rw [hi]; exact HLT.it j hjn
              have hrd8 : Rd wr A7 n7 (ints bt) := by
                obtain ⟨A8, c8, e8, _, _, _, r8⟩ := O8.it.form3 (by rw [ints_len, ← HN7.it]; omega)
                rw [ints_len, ← HN7.it] at e8 r8
                injection e8 with q1 q2 q3
                rw [q1]; exact r8
              obtain ⟨b8, o8, e8, hb8, hc8⟩ := hrd8.get hjn
              rw [ints_rd (by rw [← HN7.it]; exact hjn), ← hi] at hc8
              cases e8
              have hcg := RS6.it.out.cell (j := i) (by rw [tab_len]; exact hin)
              rw [tab_rd _ hin] at hcg
              have hfz := RS6.it.out.free i
              have hob : more o (bt.take j) i ≤ 20000 := by
                have := more_le (o := o) (m := n + 1) (fun q => by have := HPS.it.bd q; rw [HL.it] at this; omega) (bt.take j) i
                omega
              have HMT := Kp.mk (more_take (o := o) (j := j) (by rw [← HN7.it]; exact hjn) HND.it)
              rw [← hi] at HMT
              have RS7 : Kp (RS w n G N (wr.setCell ⟨G, i, none⟩ (.int .i64 ((more o (bt.take j) i + 1 : Nat) : Int))) (.slice (some ⟨g, 0, none⟩) m uc) l2 l (more o (bt.take (j + 1))) (.int .i64 (xw : Int)) (.slice x.A x.ns.length x.c) (.int .i64 (yw : Int)) (.slice y.A y.ns.length y.c)) := ⟨RS6.it.bump HG1.it HGW.it i _ (by rw [HMT.it, if_pos rfl]) (fun q hq => by rw [HMT.it, if_neg hq])⟩
              have O9 : Kp (Own (wr.setCell ⟨G, i, none⟩ (.int .i64 ((more o (bt.take j) i + 1 : Nat) : Int))) (G + 1) (.slice (some ⟨b8, o8, none⟩) n7 c7) (ints bt)) := ⟨O8.it.cellset (Nat.lt_succ_self _)⟩
              obtain ⟨q, hq⟩ : ∃ q, q = more o (bt.take j) i := ⟨_, rfl⟩
              rw [← hq] at hcg hob RS7 O9
              rw [show ((q + 1 : Nat) : Int) = (q : Int) + 1 by omega] at RS7 O9
              clear hi hq hb8 hrd8
              go_wp2
              go_roundw
              case rel => exact ⟨j + 1, by omega, by go_num, RS7, O9⟩
              case measure => simp [intOf]; omega
            · obtain rfl : n7 = j := by omega
              have hd3 : decide ((n7 : Int) < (n7 : Int)) = false := by simp
              have e0 := blk_cell (o := 0) RS6.it.bN rfl
              have e1 := blk_cell (o := 0) RS6.it.bM rfl
              obtain ⟨hn7⟩ := HN7
              subst hn7
              have HLL : Kp (l2.length + 1 ≤ 100000) := ⟨by have := HRF.it.n2; have := HLN.it; omega⟩
              have Z8 : Kp (G + 1 ≤ wr.heap.size) := ⟨RS6.it.out.lt⟩
              go_wp2_with (refine app_k1 rfl (.tmp 94) (.tmp 102) rfl (G + 1) _ l2 ⟨xw + yw, bt, A7, c7⟩ wr.heap.size rfl rfl rfl RS6.it.row Z8.it HLL.it ?_
                           intro v1 w1 hn1 hg1
                           obtain ⟨A1, c1, hv1, _, _⟩ := hn1.form
                           rw [List.length_append, List.length_singleton] at hv1
                           have hl2 : l2.length = m := by have := HRF.it.n2; have := HLN.it; omega
                           rw [hl2] at hv1
                           subst hv1
                           have LS1 : Kp (LS w n G w1 (.slice A1 (m + 1) c1) (l2 ++ [⟨xw + yw, bt, A7, c7⟩]) (more o bt)) := ⟨⟨hn1, sg_app ((RS6.it.sg.sub HRF.it.m2).own hg1 RS6.it.row) (sg_one (O8.it.ownK hg1 RS6.it.row)), by have h9 := RS6.it.out.kept hg1 (fun h9 => by have := RS6.it.row.base_le G h9.symm; omega); rwa [List.take_length] at h9, RS6.it.bel.grown hg1 RS6.it.bel.size (fun k hk => by have := RS6.it.row.base_le k hk; have := HG.it; omega)⟩⟩
                           clear hn1 hg1)
              have PS1 : Kp (PS ws (l2 ++ [⟨xw + yw, bt, A7, c7⟩]) (more o bt)) := ⟨by have h9 := HRF.it.ps A7 c7; rw [← HBT.it, ← HXW.it, ← HYW.it] at h9; exact h9⟩
              refine ⟨⟨_, _, A1, m + 1, c1, rfl, by omega, ⟨by rw [List.length_append, List.length_singleton, hl2]⟩, PS1, LS1⟩, ?_⟩
              show m + 1 < m + 2
              omega
        · have hd2 : decide ((ln : Int) > 1) = false := by simp; omega
          have HOE : Kp (Blk wr G (lengthsN ws)) := ⟨by
            have h9 := HPS.it.grown
            rw [← HLN.it, show ln - 1 = 0 by omega] at h9
            have h8 := HLS.it.out
            unfold lengthsN
            rw [← h9, HL.it]
            exact h8⟩
          have HBE : Kp (Below w.heap.size w wr) := ⟨HLS.it.bel⟩
          have HEL : Kp ((lengthsN ws).length = n) := ⟨by unfold lengthsN; rw [tab_len, HL.it]⟩
          clear HPS HLS HLN
          go_wp2
          go_loop [106] (fun i => ∃ k : Nat, k ≤ n ∧ i = .int .i64 k ∧ Kp (∀ j, j < k → rd (lengthsN ws) j ≤ 31)) (fun i => n - (intOf i).toNat)
          case atStart => exact ⟨0, by omega, rfl, ⟨fun j hj => by omega⟩⟩
          case round =>
            obtain ⟨k, hk, rfl, HK4⟩ := hrel
            by_cases hkn : k < n
            · have hd4 : decide ((k : Int) < (n : Int)) = true := by simp; omega
              have hce := HOE.it.cell (j := k) (by rw [HEL.it]; exact hkn)
              obtain ⟨X, hX⟩ : ∃ X, X = rd (lengthsN ws) k := ⟨_, rfl⟩
              rw [← hX] at hce
              have HX := Kp.mk hX
              clear hX
              by_cases hX31 : 31 < X
              · have hq4 : decide (X > 31) = true := by simpa using hX31
                have HE4 : Kp (lengthsP ws = (4, [])) := ⟨by rw [HLE.it, if_pos (any_hit (by rw [HEL.it]; exact hkn) (by rw [← HX.it]; exact hX31))]⟩
                clear hX31
                go_wp2
                go_ret2
                rw [HE4.it]
                exact ⟨_, rfl, Own.nil _ _, HBE.it⟩
              · have hq4 : decide (X > 31) = false := by simpa using hX31
                have HK5 : Kp (∀ j, j < k + 1 → rd (lengthsN ws) j ≤ 31) := ⟨fun j hj => by
                  rcases Nat.lt_or_ge j k with h9 | h9
                  · exact HK4.it j h9
                  · obtain rfl : j = k := by omega
                    rw [← HX.it]; omega⟩
                clear hX31
                go_wp2
                go_round
                case rel => exact ⟨k + 1, by omega, by go_num, HK5⟩
                case measure => simp [intOf]; omega
            · obtain rfl : n = k := by omega
              have hd4 : decide ((n : Int) < (n : Int)) = false := by simp
              have HE4 : Kp (lengthsP ws = (0, lengthsN ws)) := ⟨by rw [HLE.it, any_miss (fun k hk => HK4.it k (by rw [← HEL.it]; exact hk))]; rfl⟩
              go_wp2
              go_ret2
              rw [HE4.it]
              refine ⟨_, rfl, ?_, HBE.it⟩
              have h9 := HOE.it.own (base := w.heap.size) (by rw [HG.it]; exact Nat.le_refl _) (by rw [HEL.it]; omega)
              rw [HEL.it] at h9
              exact h9
    · have hq : ((ln : Int) == 1) = false := by simp; omega
      have HPS := Kp.mk (PS0.it h1)
      have HA : Kp (Rel2 w n G ws (.slice uA ln uc) wr) := ⟨l, _, _, _, _, rfl, hln, HLN, HPS, HL0⟩
      clear h1 PS0 PS1 HK HS HI HL0 HPS HLN
      go_wp2
      go_loopw [5] (fun u wr => Rel2 w n G ws u wr) (fun u _ => match u with | .slice _ m _ => m | _ => 0)
      case atStart => exact HA.it
      case round =>
        clear HA
        obtain ⟨l, o, uA, ln, uc, rfl, hlnb, HLN, HPS, HLS⟩ := hrel
        by_cases h2 : 2 ≤ ln
        · have hd : decide ((ln : Int) > 1) = true := by simp; omega
          obtain ⟨g, c5, e5, hg5, hg6, _⟩ := HLS.it.row.atl (by rw [← HLN.it]; omega)
          rw [← HLN.it] at e5
          cases e5
          obtain ⟨m, rfl⟩ : ∃ m, ln = m + 2 := ⟨ln - 2, by omega⟩
          obtain ⟨x, y, l1, l2, hRF⟩ := HPS.it.round (by rw [← HLN.it]; exact h2)
          have HRF := Kp.mk hRF
          clear hRF
          have RS0 : Kp (RS w n G wr.heap.size ((wr.alloc (.cells #[.int .i64 0, .slice none 0 0] 46)).alloc (.cells #[.int .i64 0, .slice none 0 0] 46)) (.slice (some ⟨g, 0, none⟩) (m + 2) uc) l l o (.int .i64 0) (.slice none 0 0) (.int .i64 0) (.slice none 0 0)) := ⟨HLS.it.start _ _ _ _⟩
          have HG1 : Kp (G < wr.heap.size) := ⟨HLS.it.out.lt⟩
          obtain ⟨N, hN⟩ : ∃ N, N = wr.heap.size := ⟨_, rfl⟩
          go_wp2_with fail
          rw [← hN]
          rw [← hN] at RS0 HG1
          generalize hW2 : (wr.alloc (.cells #[.int .i64 0, .slice none 0 0] 46)).alloc (.cells #[.int .i64 0, .slice none 0 0] 46) = W2 at RS0 ⊢
          have HHN : Kp (N = wr.heap.size ∧ (wr.alloc (.cells #[.int .i64 0, .slice none 0 0] 46)).alloc (.cells #[.int .i64 0, .slice none 0 0] 46) = W2) := ⟨hN, hW2⟩
          clear hN hW2
          have HC1 : Kp (Calls Try.prog 41 #[.slice (some ⟨g, 0, none⟩) (m + 2) uc] W2 fun e w' => e = .returned (.tuple #[.agg #[.int .i64 (x.wt : Int), .slice x.A x.ns.length x.c], .slice (some ⟨g, 0, none⟩) (m + 1) uc]) ∧ OwnK w' (G + 1) (.slice (some ⟨g, 0, none⟩) (m + 1) uc) l1 ∧ W2.grownBy w' (some g)) := ⟨by
            have h9 := RS0.it.row
            have e9 : m + 1 = l.length - 1 := by have := HLN.it; omega
            rw [e9, HRF.it.e1]
            have h7 := HLN.it
            rw [h7] at h9 hlnb ⊢
            exact least_any h9 (by omega) (by omega) HRF.it.hx HRF.it.w0⟩
          refine HC1.it.mono ?_
          rintro e w3 ⟨rfl, ho3, hg3⟩
          have RS1 : Kp (RS w n G N w3 (.slice (some ⟨g, 0, none⟩) (m + 1) uc) l1 l o (.int .i64 0) (.slice none 0 0) (.int .i64 0) (.slice none 0 0)) := ⟨RS0.it.least (g := g) rfl rfl hg3 ho3 HGW.it⟩
          clear ho3 hg3 HC1 RS0
          have RS2 : Kp (RS w n G N ((w3.setCell ⟨N, 0, none⟩ (.int .i64 (x.wt : Int))).setCell ⟨N, 1, none⟩ (.slice x.A x.ns.length x.c)) (.slice (some ⟨g, 0, none⟩) (m + 1) uc) l1 l o (.int .i64 (x.wt : Int)) (.slice x.A x.ns.length x.c) (.int .i64 0) (.slice none 0 0)) := ⟨RS1.it.storeN HG1.it HGW.it _ _⟩
          have c0 := blk_cell (o := 0) RS1.it.bN rfl
          have c1 := blk_cell (o := 1) RS1.it.bN rfl
          have f0 : w3.frozen? ⟨N, 0, none⟩ = false := blk_free RS1.it.bN
          have f1 : w3.frozen? ⟨N, 1, none⟩ = false := blk_free RS1.it.bN
          go_wp2_with fail
          generalize hW4 : (w3.setCell ⟨N, 0, none⟩ (.int .i64 (x.wt : Int))).setCell ⟨N, 1, none⟩ (.slice x.A x.ns.length x.c) = w4 at RS2 ⊢
          clear hW4 RS1 c0 c1 f0 f1
          have HC2 : Kp (Calls Try.prog 41 #[.slice (some ⟨g, 0, none⟩) (m + 1) uc] w4 fun e w' => e = .returned (.tuple #[.agg #[.int .i64 (y.wt : Int), .slice y.A y.ns.length y.c], .slice (some ⟨g, 0, none⟩) m uc]) ∧ OwnK w' (G + 1) (.slice (some ⟨g, 0, none⟩) m uc) l2 ∧ w4.grownBy w' (some g)) := ⟨by
            have h9 := RS2.it.row
            have h7 : m + 1 = l1.length := by have := HLN.it; have := HRF.it.n1; omega
            have e9 : m = l1.length - 1 := by omega
            rw [e9, HRF.it.e2]
            rw [h7] at h9
            rw [show l1.length - 1 + 1 = l1.length by omega]
            exact least_any h9 (by omega) (by omega) HRF.it.hy HRF.it.w1⟩
          refine HC2.it.mono ?_
          rintro e w5 ⟨rfl, ho5, hg5'⟩
          have RS3 : Kp (RS w n G N w5 (.slice (some ⟨g, 0, none⟩) m uc) l2 l o (.int .i64 (x.wt : Int)) (.slice x.A x.ns.length x.c) (.int .i64 0) (.slice none 0 0)) := ⟨RS2.it.least (g := g) rfl rfl hg5' ho5 HGW.it⟩
          clear ho5 hg5' HC2 RS2
          have RS4 : Kp (RS w n G N ((w5.setCell ⟨N + 1, 0, none⟩ (.int .i64 (y.wt : Int))).setCell ⟨N + 1, 1, none⟩ (.slice y.A y.ns.length y.c)) (.slice (some ⟨g, 0, none⟩) m uc) l2 l o (.int .i64 (x.wt : Int)) (.slice x.A x.ns.length x.c) (.int .i64 (y.wt : Int)) (.slice y.A y.ns.length y.c)) := ⟨RS3.it.storeM HG1.it HGW.it _ _⟩
          have c0 := blk_cell (o := 0) RS3.it.bM rfl
          have c1 := blk_cell (o := 1) RS3.it.bM rfl
          have f0 : w5.frozen? ⟨N + 1, 0, none⟩ = false := blk_free RS3.it.bM
          have f1 : w5.frozen? ⟨N + 1, 1, none⟩ = false := blk_free RS3.it.bM
          have d1 := blk_cell (o := 1) RS4.it.bN rfl
          have d2 := blk_cell (o := 1) RS4.it.bM rfl
          go_wp2_with fail
          have hsz : w5.heap.size = ((w5.setCell ⟨N + 1, 0, none⟩ (.int .i64 (y.wt : Int))).setCell ⟨N + 1, 1, none⟩ (.slice y.A y.ns.length y.c)).heap.size := by rw [size_set, size_set]
          rw [hsz]
          generalize hW6 : (w5.setCell ⟨N + 1, 0, none⟩ (.int .i64 (y.wt : Int))).setCell ⟨N + 1, 1, none⟩ (.slice y.A y.ns.length y.c) = w6 at RS4 d1 d2 ⊢
          clear hsz hW6 RS3 c0 c1 f0 f1 d1 d2
          have HLB : Kp (x.ns.length + y.ns.length ≤ 10000) := ⟨by have := HRF.it.len; rw [List.length_append, HL.it] at this; omega⟩
          have HC3 : Kp (Calls Try.prog 42 #[.slice (some ⟨w6.heap.size, 0, none⟩) 2 2] (w6.alloc (.cells #[.slice x.A x.ns.length x.c, .slice y.A y.ns.length y.c] 22)) fun e w' => ∃ v, e = .returned v ∧ Own w' (w6.alloc (.cells #[.slice x.A x.ns.length x.c, .slice y.A y.ns.length y.c] 22)).heap.size v (ints x.ns ++ ints y.ns) ∧ Below (w6.alloc (.cells #[.slice x.A x.ns.length x.c, .slice y.A y.ns.length y.c] 22)).heap.size (w6.alloc (.cells #[.slice x.A x.ns.length x.c, .slice y.A y.ns.length y.c] 22)) w') := ⟨by
            have hb6 : Below w6.heap.size w6 (w6.alloc (.cells #[.slice x.A x.ns.length x.c, .slice y.A y.ns.length y.c] 22)) := (Below.refl _ _).alloc (Nat.le_refl _) _
            obtain ⟨r1, e1⟩ := RS4.it.sg.rd HRF.it.mx (by have := HLB.it; omega)
            obtain ⟨r2, e2⟩ := RS4.it.sg.rd HRF.it.my (by have := HLB.it; omega)
            exact concat_any _ 2 x.A y.A _ x.c _ y.c _ _ _ (by simp) (blk_cell (blk_new _ _) rfl) (blk_cell (blk_new _ _) rfl) (r1.below hb6) (r2.below hb6) e1 e2 (by have := HLB.it; omega)⟩
          refine HC3.it.mono ?_
          rintro e w7 ⟨v7, rfl, ho7, hb7⟩
          have RS5 : Kp (RS w n G N w7 (.slice (some ⟨g, 0, none⟩) m uc) l2 l o (.int .i64 (x.wt : Int)) (.slice x.A x.ns.length x.c) (.int .i64 (y.wt : Int)) (.slice y.A y.ns.length y.c)) := ⟨(RS4.it.below ((Below.refl _ _).alloc (Nat.le_refl _) _)).below hb7⟩
          obtain ⟨bt, hbt⟩ : ∃ bt, bt = x.ns ++ y.ns := ⟨_, rfl⟩
          have O7 : Kp (Own w7 (G + 1) v7 (ints bt)) := ⟨by rw [hbt, ints_app]; exact ho7.relax (by have := RS4.it.out.lt; simp; omega)⟩
          have HBT := Kp.mk hbt
          obtain ⟨A7, c7, hv7, hn7, _⟩ := O7.it.form3 (by rw [hbt, ints_len, List.length_append]; have := HLB.it; omega)
          rw [ints_len] at hv7
          obtain ⟨n7, hn7e⟩ : ∃ n7, n7 = bt.length := ⟨_, rfl⟩
          rw [← hn7e] at hv7
          have HN7 := Kp.mk hn7e
          have HN7B : n7 ≤ 10000 := by rw [hn7e, hbt, List.length_append]; exact HLB.it
          subst hv7
          clear ho7 hb7 HC3 RS4 hbt hn7e hn7
          obtain ⟨xw, hxw⟩ : ∃ a, a = x.wt := ⟨_, rfl⟩
          obtain ⟨yw, hyw⟩ : ∃ a, a = y.wt := ⟨_, rfl⟩
          have HXW := Kp.mk hxw
          have HYW := Kp.mk hyw
          rw [← hxw, ← hyw] at RS5
          have hwb : xw + yw ≤ 1099511627776 := by rw [hxw, hyw]; exact HRF.it.wxy
          clear hxw hyw
          have HND : Kp (bt.Nodup) := ⟨by rw [HBT.it]; exact HRF.it.nd⟩
          have HLT : Kp (∀ j, j < n7 → bt.getD j 0 < n) := ⟨fun j hj => by
            have h9 := HRF.it.lt (bt.getD j 0) (by rw [← HBT.it, List.getD_eq_getElem?_getD, List.getElem?_eq_getElem (by rw [← HN7.it]; exact hj)]; exact List.getElem_mem _)
            rwa [HL.it] at h9⟩
          go_wp2
          go_loopw [83] (fun i wz => ∃ j : Nat, j ≤ n7 ∧ i = .int .i64 j ∧ Kp (RS w n G N wz (.slice (some ⟨g, 0, none⟩) m uc) l2 l (more o (bt.take j)) (.int .i64 (xw : Int)) (.slice x.A x.ns.length x.c) (.int .i64 (yw : Int)) (.slice y.A y.ns.length y.c)) ∧ Kp (Own wz (G + 1) (.slice A7 n7 c7) (ints bt))) (fun i _ => n7 - (intOf i).toNat)
          case atStart => exact ⟨0, by omega, rfl, ⟨by rw [more_zero]; exact RS5.it⟩, O7⟩
          case round =>
            clear RS5 O7
            obtain ⟨j, hj, rfl, RS6, O8⟩ := hrel
            by_cases hjn : j < n7
            · have hd3 : decide ((j : Int) < (n7 : Int)) = true := by simp; omega
              obtain ⟨i, hi⟩ : ∃ i, i = bt.getD j 0 := ⟨_, rfl⟩
              have hin : i < n := by rw [hi]; exact HLT.it j hjn
              have hrd8 : Rd wr A7 n7 (ints bt) := by
                obtain ⟨A8, c8, e8, _, _, _, r8⟩ := O8.it.form3 (by rw [ints_len, ← HN7.it]; omega)
                rw [ints_len, ← HN7.it] at e8 r8
                injection e8 with q1 q2 q3
                rw [q1]; exact r8
              obtain ⟨b8, o8, e8, hb8, hc8⟩ := hrd8.get hjn
              rw [ints_rd (by rw [← HN7.it]; exact hjn), ← hi] at hc8
              cases e8
              have hcg := RS6.it.out.cell (j := i) (by rw [tab_len]; exact hin)
              rw [tab_rd _ hin] at hcg
              have hfz := RS6.it.out.free i
              have hob : more o (bt.take j) i ≤ 20000 := by
                have := more_le (o := o) (m := n + 1) (fun q => by have := HPS.it.bd q; rw [HL.it] at this; omega) (bt.take j) i
                omega
              have HMT := Kp.mk (more_take (o := o) (j := j) (by rw [← HN7.it]; exact hjn) HND.it)
              rw [← hi] at HMT
              have RS7 : Kp (RS w n G N (wr.setCell ⟨G, i, none⟩ (.int .i64 ((more o (bt.take j) i + 1 : Nat) : Int))) (.slice (some ⟨g, 0, none⟩) m uc) l2 l (more o (bt.take (j + 1))) (.int .i64 (xw : Int)) (.slice x.A x.ns.length x.c) (.int .i64 (yw : Int)) (.slice y.A y.ns.length y.c)) := ⟨RS6.it.bump HG1.it HGW.it i _ (by rw [HMT.it, if_pos rfl]) (fun q hq => by rw [HMT.it, if_neg hq])⟩
              have O9 : Kp (Own (wr.setCell ⟨G, i, none⟩ (.int .i64 ((more o (bt.take j) i + 1 : Nat) : Int))) (G + 1) (.slice (some ⟨b8, o8, none⟩) n7 c7) (ints bt)) := ⟨O8.it.cellset (Nat.lt_succ_self _)⟩
              obtain ⟨q, hq⟩ : ∃ q, q = more o (bt.take j) i := ⟨_, rfl⟩
              rw [← hq] at hcg hob RS7 O9
              rw [show ((q + 1 : Nat) : Int) = (q : Int) + 1 by omega] at RS7 O9
              clear hi hq hb8 hrd8
              go_wp2
              go_roundw
              case rel => exact ⟨j + 1, by omega, by go_num, RS7, O9⟩
              case measure => simp [intOf]; omega
            · obtain rfl : n7 = j := by omega
              have hd3 : decide ((n7 : Int) < (n7 : Int)) = false := by simp
              have e0 := blk_cell (o := 0) RS6.it.bN rfl
              have e1 := blk_cell (o := 0) RS6.it.bM rfl
              obtain ⟨hn7⟩ := HN7
              subst hn7
              have HLL : Kp (l2.length + 1 ≤ 100000) := ⟨by have := HRF.it.n2; have := HLN.it; omega⟩
              have Z8 : Kp (G + 1 ≤ wr.heap.size) := ⟨RS6.it.out.lt⟩
              go_wp2_with (refine app_k1 rfl (.tmp 94) (.tmp 102) rfl (G + 1) _ l2 ⟨xw + yw, bt, A7, c7⟩ wr.heap.size rfl rfl rfl RS6.it.row Z8.it HLL.it ?_
                           intro v1 w1 hn1 hg1
                           obtain ⟨A1, c1, hv1, _, _⟩ := hn1.form
                           rw [List.length_append, List.length_singleton] at hv1
                           have hl2 : l2.length = m := by have := HRF.it.n2; have := HLN.it; omega
                           rw [hl2] at hv1
                           subst hv1
                           have LS1 : Kp (LS w n G w1 (.slice A1 (m + 1) c1) (l2 ++ [⟨xw + yw, bt, A7, c7⟩]) (more o bt)) := ⟨⟨hn1, sg_app ((RS6.it.sg.sub HRF.it.m2).own hg1 RS6.it.row) (sg_one (O8.it.ownK hg1 RS6.it.row)), by have h9 := RS6.it.out.kept hg1 (fun h9 => by have := RS6.it.row.base_le G h9.symm; omega); rwa [List.take_length] at h9, RS6.it.bel.grown hg1 RS6.it.bel.size (fun k hk => by have := RS6.it.row.base_le k hk; have := HG.it; omega)⟩⟩
                           clear hn1 hg1)
              have PS1 : Kp (PS ws (l2 ++ [⟨xw + yw, bt, A7, c7⟩]) (more o bt)) := ⟨by have h9 := HRF.it.ps A7 c7; rw [← HBT.it, ← HXW.it, ← HYW.it] at h9; exact h9⟩
              refine ⟨⟨_, _, A1, m + 1, c1, rfl, by omega, ⟨by rw [List.length_append, List.length_singleton, hl2]⟩, PS1, LS1⟩, ?_⟩
              show m + 1 < m + 2
              omega
        · have hd2 : decide ((ln : Int) > 1) = false := by simp; omega
          have HOE : Kp (Blk wr G (lengthsN ws)) := ⟨by
            have h9 := HPS.it.grown
            rw [← HLN.it, show ln - 1 = 0 by omega] at h9
            have h8 := HLS.it.out
            unfold lengthsN
            rw [← h9, HL.it]
            exact h8⟩
          have HBE : Kp (Below w.heap.size w wr) := ⟨HLS.it.bel⟩
          have HEL : Kp ((lengthsN ws).length = n) := ⟨by unfold lengthsN; rw [tab_len, HL.it]⟩
          clear HPS HLS HLN
          go_wp2
          go_loop [106] (fun i => ∃ k : Nat, k ≤ n ∧ i = .int .i64 k ∧ Kp (∀ j, j < k → rd (lengthsN ws) j ≤ 31)) (fun i => n - (intOf i).toNat)
          case atStart => exact ⟨0, by omega, rfl, ⟨fun j hj => by omega⟩⟩
          case round =>
            obtain ⟨k, hk, rfl, HK4⟩ := hrel
            by_cases hkn : k < n
            · have hd4 : decide ((k : Int) < (n : Int)) = true := by simp; omega
              have hce := HOE.it.cell (j := k) (by rw [HEL.it]; exact hkn)
              obtain ⟨X, hX⟩ : ∃ X, X = rd (lengthsN ws) k := ⟨_, rfl⟩
              rw [← hX] at hce
              have HX := Kp.mk hX
              clear hX
              by_cases hX31 : 31 < X
              · have hq4 : decide (X > 31) = true := by simpa using hX31
                have HE4 : Kp (lengthsP ws = (4, [])) := ⟨by rw [HLE.it, if_pos (any_hit (by rw [HEL.it]; exact hkn) (by rw [← HX.it]; exact hX31))]⟩
                clear hX31
                go_wp2
                go_ret2
                rw [HE4.it]
                exact ⟨_, rfl, Own.nil _ _, HBE.it⟩
              · have hq4 : decide (X > 31) = false := by simpa using hX31
                have HK5 : Kp (∀ j, j < k + 1 → rd (lengthsN ws) j ≤ 31) := ⟨fun j hj => by
                  rcases Nat.lt_or_ge j k with h9 | h9
                  · exact HK4.it j h9
                  · obtain rfl : j = k := by omega
                    rw [← HX.it]; omega⟩
                clear hX31
                go_wp2
                go_round
                case rel => exact ⟨k + 1, by omega, by go_num, HK5⟩
                case measure => simp [intOf]; omega
            · obtain rfl : n = k := by omega
              have hd4 : decide ((n : Int) < (n : Int)) = false := by simp
              have HE4 : Kp (lengthsP ws = (0, lengthsN ws)) := ⟨by rw [HLE.it, any_miss (fun k hk => HK4.it k (by rw [← HEL.it]; exact hk))]; rfl⟩
              go_wp2
              go_ret2
              rw [HE4.it]
              refine ⟨_, rfl, ?_, HBE.it⟩
              have h9 := HOE.it.own (base := w.heap.size) (by rw [HG.it]; exact Nat.le_refl _) (by rw [HEL.it]; omega)
              rw [HEL.it] at h9
              exact h9
end Go.Proofs.Ytnkgagbobihnnaa
