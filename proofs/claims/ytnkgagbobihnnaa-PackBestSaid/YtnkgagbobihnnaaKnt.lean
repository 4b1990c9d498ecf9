/-
  Knots in memory: rows of knots, append, slices.Delete of one.
-/
import Derived.Test.YtnkgagbobihnnaaRun
import Derived.Test.YtnkgagbobihnnaaGrw
import Derived.Deep.RegionLaw
namespace Go.Proofs.Ytnkgagbobihnnaa
open Go Go.RowKit
attribute [local go_sem ↓] Go.wp_at_zero Go.wp_at_succ

theorem Try.info46' : (Try.prog.info? 46).map (fun i => (i.zero, i.size, i.bytes)) = some (some (.agg #[.int .i64 0, .slice none 0 0]), 2, 32) := by kernel_rfl
theorem Try.info22' : (Try.prog.info? 22).map (fun i => (i.zero, i.size, i.bytes)) = some (some (.slice none 0 0), 1, 24) := by kernel_rfl
/-- A knot: its weight, its signs, and where these lie. -/
structure Kt where
  wt : Nat
  ns : List Nat
  A : Option Addr
  c : Nat
def ints (ns : List Nat) : List Int := ns.map fun (n : Nat) => (n : Int)
theorem ints_len (ns : List Nat) : (ints ns).length = ns.length := by simp [ints]
def Kt.v (k : Kt) : Value := .slice k.A k.ns.length k.c
def Kt.cells (k : Kt) : List Value := [.int .i64 (k.wt : Int), k.v]
def Kt.k (k : Kt) : Knot := (k.wt, k.ns)
def flatK (l : List Kt) : List Value := l.flatMap Kt.cells
theorem flatK_app (a b : List Kt) : flatK (a ++ b) = flatK a ++ flatK b := by unfold flatK; rw [List.flatMap_append]
theorem flatK_len (l : List Kt) : (flatK l).length = l.length * 2 := by
  induction l with
  | nil => rfl
  | cons x l ih =>
    show (x.cells ++ flatK l).length = _
    rw [List.length_append, ih, List.length_cons]
    show 2 + _ = _
    omega
theorem flatK_one (l : List Kt) : ∀ u ∈ flatK l, u.oneCell' = true := by
  intro u hu
  obtain ⟨x, _, hx⟩ := List.mem_flatMap.1 hu
  unfold Kt.cells at hx
  simp at hx
  rcases hx with rfl | rfl <;> rfl
theorem flatK_get {l : List Kt} {i : Nat} {x : Kt} (h : l[i]? = some x) : (flatK l)[i * 2]? = some (.int .i64 (x.wt : Int)) ∧ (flatK l)[i * 2 + 1]? = some x.v := by
  induction l generalizing i with
  | nil => cases h
  | cons y l ih =>
    cases i with
    | zero =>
      rw [List.getElem?_cons_zero] at h
      cases h
      exact ⟨rfl, rfl⟩
    | succ i =>
      rw [List.getElem?_cons_succ] at h
      have := ih h
      have e : flatK (y :: l) = Value.int .i64 (y.wt : Int) :: y.v :: flatK l := rfl
      rw [e, show (i + 1) * 2 = i * 2 + 1 + 1 by omega, List.getElem?_cons_succ, List.getElem?_cons_succ, List.getElem?_cons_succ, List.getElem?_cons_succ]
      exact this
/-- The signs of each lie in rows of the call's own. -/
def Sg (w : World) (B : Nat) (l : List Kt) : Prop := ∀ k, k ∈ l → Own w B k.v (ints k.ns)
def OwnK (w : World) (base : Nat) (v : Value) (l : List Kt) : Prop := w.ownsRow base 46 2 v l.length (flatK l)
theorem OwnK.nil (W : World) (base : Nat) : OwnK W base (.slice none 0 0) [] := World.ownsRow_nil _ _ _ _
theorem OwnK.base_le {W : World} {base : Nat} {v : Value} {l : List Kt} (h : OwnK W base v l) (k : Nat) (hk : v.ownBlock = some k) : base ≤ k := by
  unfold OwnK at h
  exact (h.lt k hk).1
theorem OwnK.blk {W : World} {base : Nat} {v : Value} {l : List Kt} (h : OwnK W base v l) (k : Nat) (hk : v.ownBlock = some k) : ∃ cur, W.heap[k]? = some (.cells cur 46 (0, 0)) := by
  unfold OwnK at h
  rcases h.2 with ⟨rfl, _⟩ | ⟨g, cap, cur, rfl, hb, hh, _⟩
  · simp [Value.ownBlock] at hk
  · have : g = k := by simpa [Value.ownBlock] using hk
    subst this
    exact ⟨cur, hh⟩
theorem Own.blk {W : World} {base : Nat} {v : Value} {xs : List Int} (h : Own W base v xs) (k : Nat) (hk : v.ownBlock = some k) : ∃ cur, W.heap[k]? = some (.cells cur 3 (0, 0)) := by
  unfold Own at h
  rcases h.2 with ⟨rfl, _⟩ | ⟨g, cap, cur, rfl, hb, hh, _⟩
  · simp [Value.ownBlock] at hk
  · have : g = k := by simpa [Value.ownBlock] using hk
    subst this
    exact ⟨cur, hh⟩
theorem OwnK.kept {W W' : World} {base : Nat} {v : Value} {l : List Kt} {r : Option Nat} (h : OwnK W base v l) (hg : W.grownBy W' r) (hr : v.ownBlock ≠ r ∨ v.ownBlock = none) : OwnK W' base v l := by
  refine World.ownsRow.kept h hg ?_
  rcases hr with hr | hr
  · cases r with
    | none => cases hv : v.ownBlock <;> simp
    | some k => cases hv : v.ownBlock with
      | none => simp
      | some b => simp; rintro rfl; exact hr hv
  · rw [hr]; simp
theorem OwnK.below {W W' : World} {base : Nat} {v : Value} {l : List Kt} (h : OwnK W base v l) (hb : Below W.heap.size W W') : OwnK W' base v l :=
  World.ownsRow.kept h (⟨hb.os, hb.tape, hb.output, hb.size, fun i hi _ => hb.block i hi⟩ : W.grownBy W' none) (by cases v.ownBlock <;> simp)
theorem OwnK.form {W : World} {base : Nat} {v : Value} {l : List Kt} (h : OwnK W base v l) : ∃ A c, v = .slice A l.length c ∧ (A = none → c = 0) ∧ l.length ≤ c := by
  unfold OwnK at h
  rcases h.2 with ⟨rfl, h0⟩ | ⟨g, cap, cur, rfl, hb, hh, h1, h2, h3, h4⟩
  · obtain rfl : l = [] := List.eq_nil_of_length_eq_zero h0
    exact ⟨none, 0, rfl, fun _ => rfl, Nat.le_refl _⟩
  · exact ⟨_, cap, rfl, (fun h => by cases h), h1⟩
theorem OwnK.atl {W : World} {base : Nat} {v : Value} {l : List Kt} (h : OwnK W base v l) (hl : 0 < l.length) : ∃ g c, v = .slice (some ⟨g, 0, none⟩) l.length c ∧ base ≤ g ∧ g < W.heap.size ∧ l.length ≤ c := by
  unfold OwnK at h
  rcases h.2 with ⟨rfl, h0⟩ | ⟨g, cap, cur, rfl, hb, hh, h1, h2, h3, h4⟩
  · omega
  · exact ⟨g, cap, rfl, hb, (Array.getElem?_eq_some_iff.1 hh).1, h1⟩
theorem OwnK.cells {w : World} {base g n c : Nat} {l : List Kt} (h : OwnK w base (.slice (some ⟨g, 0, none⟩) n c) l) {i : Nat} {x : Kt} (hi : l[i]? = some x) :
    w.cell? ⟨g, i * 2, none⟩ = some (.int .i64 (x.wt : Int)) ∧ w.cell? ⟨g, i * 2 + 1, none⟩ = some x.v := by
  unfold OwnK at h
  rcases h.2 with ⟨e, _⟩ | ⟨g', c', cur, e, hb, hh, hnc, hcm, hcs, hct⟩
  · cases e
  cases e
  have hil := (List.getElem?_eq_some_iff.1 hi).1
  have hcur : ∀ q, q < l.length * 2 → cur[q]? = (flatK l)[q]? := fun q hq => by rw [← hct, List.getElem?_take, if_pos hq]; simp
  obtain ⟨h1, h2⟩ := flatK_get hi
  exact ⟨blk_cell hh (by rw [hcur _ (by omega)]; exact h1), blk_cell hh (by rw [hcur _ (by omega)]; exact h2)⟩
theorem Sg.kept {w w' : World} {B : Nat} {l : List Kt} (h : Sg w B l) {g : Nat} {cur : Array Value} (hg : w.grownBy w' (some g)) (hb : w.heap[g]? = some (.cells cur 46 (0, 0))) : Sg w' B l := fun k hk =>
  (h k hk).kept hg (by
    left
    intro e
    obtain ⟨c2, h2⟩ := (h k hk).blk g e
    rw [hb] at h2
    cases h2)
theorem Sg.below {w w' : World} {B : Nat} {l : List Kt} (h : Sg w B l) (hb : Below w.heap.size w w') : Sg w' B l := fun k hk => (h k hk).below hb
theorem Sg.past {w w' : World} {B g : Nat} {l : List Kt} (h : Sg w B l) (hg : w.grownBy w' (some g)) (hlt : g < B) : Sg w' B l := fun k hk => (h k hk).kept hg (.inl ((h k hk).past hlt))
theorem Sg.sub {w : World} {B : Nat} {l m : List Kt} (h : Sg w B l) (hs : ∀ k, k ∈ m → k ∈ l) : Sg w B m := fun k hk => h k (hs k hk)
theorem grows_below {B : Nat} {w w' : World} (h : Below B w w') (hB : w.heap.size ≤ B) (r : Option Nat) : w.grownBy w' r := ⟨h.os, h.tape, h.output, h.size, fun k hk _ => h.block k (by omega)⟩

section
variable {ops : Array Oper} {rest : List Oper} {o : Oper} {a : Act} {Q : Exit → Act → World → Prop} {W : World}
theorem new_kt (y : Kt) : ∀ j u, ([.int .i64 (y.wt : Int), y.v] : List Value)[j]? = some u → (W.alloc (.cells #[.int .i64 (y.wt : Int), y.v] 46)).cell? ((⟨W.heap.size, 0, none⟩ : Addr).add j) = some u := by
  intro j u hj
  rw [add_plain, Nat.zero_add]
  exact blk_cell (blk_new W _) (by simpa using hj)
theorem app_k1 (hgd : o.guard = none) (s x : Operand)
    (ho : o.op = .call { callee := .builtin .append, args := #[s, x], argTypes := #[44, 44] })
    (base : Nat) (v : Value) (l : List Kt) (y : Kt) (N : Nat) (hN : N = W.heap.size) (hs : a.eval s = v) (hx : a.eval x = .slice (some ⟨N, 0, none⟩) 1 1)
    (HO : OwnK W base v l) (hbase : base ≤ W.heap.size) (hl : l.length + 1 ≤ 100000)
    (h : ∀ v1 w1, OwnK w1 base v1 (l ++ [y]) → W.grownBy w1 v.ownBlock → wpList Try.prog ops Q rest (a.put o.dst v1) w1) :
    wpList Try.prog ops Q (o :: rest) a (W.alloc (.cells #[.int .i64 (y.wt : Int), y.v] 46)) := by
  subst hN
  obtain ⟨i0, hi, hz0, hz1, hz2⟩ := info_parts Try.info46'
  refine wpList_append_own_at (W.alloc (.cells #[.int .i64 (y.wt : Int), y.v] 46)) hgd s x 44 ho base 46 i0 _ 2 32 Try.underlying44 hi hz0 hz1 hz2 rfl (by omega) v l.length _ hs (World.ownsRow.alloc HO _) ⟨W.heap.size, 0, none⟩ 1 1 [.int .i64 (y.wt : Int), y.v] hx rfl
    (new_kt y) (by intro u hu; simp at hu; rcases hu with rfl | rfl <;> rfl) (by unfold maxLen; omega) (by omega) (by simp; omega) ?_
  intro v1 w1 hown hg _ _
  refine h v1 w1 ?_ (World.grownBy.trans (World.grownBy_alloc W _ _) hg)
  unfold OwnK
  rw [List.length_append, flatK_app]
  exact hown
end

theorem block_at {g : Nat} {t : TypeId} (vs : List Value) : ∀ {wr : World} {cur : Array Value} (o : Nat), wr.heap[g]? = some (.cells cur t (0, 0)) → o + vs.length ≤ cur.size →
    ∃ cur', (wr.setCells g o vs).heap[g]? = some (.cells cur' t (0, 0)) ∧ cur'.size = cur.size ∧ (∀ q, q < o ∨ o + vs.length ≤ q → cur'[q]? = cur[q]?) ∧ ∀ j, j < vs.length → cur'[o + j]? = vs[j]? := by
  induction vs with
  | nil => intro wr cur o h _; exact ⟨cur, h, rfl, fun _ _ => rfl, fun j hj => by simp at hj⟩
  | cons v vs ih =>
    intro wr cur o h hl
    rw [List.length_cons] at hl
    obtain ⟨c', h1, h2, h3, h4⟩ := ih (o + 1) (blk_set (o := o) v h) (by simp; omega)
    refine ⟨c', h1, by rw [h2]; simp, fun q hq => ?_, fun j hj => ?_⟩
    · rw [List.length_cons] at hq
      rw [h3 q (by omega), Array.getElem?_setIfInBounds, if_neg (by omega)]
    · cases j with
      | zero => rw [Nat.add_zero, h3 o (by omega), Array.getElem?_setIfInBounds_self, if_pos (by omega)]; rfl
      | succ j =>
        rw [List.length_cons] at hj
        have := h4 j (by omega)
        rw [show o + (j + 1) = o + 1 + j by omega, this]
        rfl
theorem run_clear_one {P : Program} (w : World) (t e ty : TypeId) (z : Value) (zs : List Value) (ht : P.underlying t = some (.slice e)) (hv : ∀ w, (zeroValue e).run P w = .ok z w) (hz : (Builtin.zeroCells z.cells 1).toList = zs) (h1 : ∀ v ∈ zs, v.oneCell' = true) (b o c : Nat)
    (hc : ∀ j, j < zs.length → (w.cell? ⟨b, o + j, none⟩).isSome = true) (hf : ∀ j, j < zs.length → w.frozen? ⟨b, o + j, none⟩ = false) :
    (Builtin.clear_ #[t] ty #[.slice (some ⟨b, o, none⟩) 1 c]).run P w = .ok (.tuple #[]) (w.setCells b o zs) := by
  have hst := run_storeCells_cells (P := P) b o zs 0 w (by simpa using hc) (by simpa using hf) h1
  simp only [Nat.add_zero] at hst
  simp [Builtin.clear_, run_underlying ht, hv, hz, hst]
abbrev zk : List Value := [.int .i64 0, .slice none 0 0]
theorem flatK_erase (l : List Kt) (i : Nat) : flatK (l.eraseIdx i) = flatK (l.take i) ++ flatK (l.drop (i + 1)) := by rw [List.eraseIdx_eq_take_drop_succ, flatK_app]
theorem delk_fin {w : World} {g c base i n : Nat} {l : List Kt} {cur : Array Value} (hn : n = l.length) (hi : i < n) (hnc : n ≤ c) (hcm : c ≤ 9223372036854775807) (hb : base ≤ g) (hh : w.heap[g]? = some (.cells cur 46 (0, 0))) (hcs : cur.size = c * 2) (hct : cur.toList.take (n * 2) = flatK l) :
    ∃ cur1, (w.drew.setCells g (i * 2) (flatK (l.drop (i + 1)))).heap[g]? = some (.cells cur1 46 (0, 0)) ∧ cur1.size = c * 2 ∧
      OwnK ((w.drew.setCells g (i * 2) (flatK (l.drop (i + 1)))).setCells g ((n - 1) * 2) zk) base (.slice (some ⟨g, 0, none⟩) (n - 1) c) (l.eraseIdx i) ∧
      w.grownBy ((w.drew.setCells g (i * 2) (flatK (l.drop (i + 1)))).setCells g ((n - 1) * 2) zk) (some g) := by
  have hl1 : (flatK (l.drop (i + 1))).length = (n - (i + 1)) * 2 := by rw [flatK_len, List.length_drop, ← hn]
  obtain ⟨cur1, k1, k2, k3, k4⟩ := block_at (wr := w.drew) (flatK (l.drop (i + 1))) (i * 2) hh (by rw [hcs, hl1]; omega)
  obtain ⟨cur2, m1, m2, m3, _⟩ := block_at zk ((n - 1) * 2) k1 (by rw [k2, hcs]; simp; omega)
  refine ⟨cur1, k1, by rw [k2, hcs], ?_, grown_sets _ _ (grown_sets _ _ (grows_below (below_drew (Below.refl _ _)) (Nat.le_refl _) _))⟩
  have hlen : (l.eraseIdx i).length = n - 1 := by rw [List.length_eraseIdx, if_pos (by omega), hn]
  have hcur : ∀ q, q < n * 2 → cur[q]? = (flatK l)[q]? := fun q hq => by rw [← hct, List.getElem?_take, if_pos hq]; simp
  unfold OwnK
  refine ⟨by rw [flatK_len], .inr ⟨g, c, cur2, by rw [hlen], hb, m1, by omega, by unfold maxLen; omega, by rw [m2, k2, hcs], ?_⟩⟩
  apply List.ext_getElem?
  intro q
  rw [hlen, List.getElem?_take]
  by_cases hq : q < (n - 1) * 2
  · rw [if_pos hq, flatK_erase]
    have e1 : cur2.toList[q]? = cur1[q]? := by rw [← m3 q (.inl hq)]; simp
    rw [e1]
    by_cases hq1 : q < i * 2
    · rw [k3 q (.inl (by omega)), hcur q (by omega), List.getElem?_append_left (by rw [flatK_len, List.length_take]; omega)]
      have e2 : flatK l = flatK (l.take i) ++ flatK (l.drop i) := by rw [← flatK_app, List.take_append_drop]
      rw [e2, List.getElem?_append_left (by rw [flatK_len, List.length_take]; omega)]
    · have := k4 (q - i * 2) (by rw [hl1]; omega)
      rw [show i * 2 + (q - i * 2) = q by omega] at this
      rw [this, List.getElem?_append_right (by rw [flatK_len, List.length_take]; omega), flatK_len, List.length_take, Nat.min_eq_left (by omega)]
  · rw [if_neg hq, List.getElem?_eq_none (by rw [flatK_len, hlen]; omega)]
theorem zero46 (w : World) : (zeroValue 46).run Try.prog w = .ok (.agg #[.int .i64 0, .slice none 0 0]) w := by kernel_rfl
set_option maxHeartbeats 4000000 in
theorem del_k {w : World} {g c base i : Nat} {l : List Kt} (h : OwnK w base (.slice (some ⟨g, 0, none⟩) l.length c) l) (hi : i < l.length) (hl : l.length ≤ 100000) :
    Calls Try.prog 73 #[.slice (some ⟨g, 0, none⟩) l.length c, .int .i64 i, .int .i64 ((i : Int) + 1)] w fun e w' => e = .returned (.slice (some ⟨g, 0, none⟩) (l.length - 1) c) ∧ OwnK w' base (.slice (some ⟨g, 0, none⟩) (l.length - 1) c) (l.eraseIdx i) ∧ w.grownBy w' (some g) := by
  obtain ⟨n, hn⟩ : ∃ n, n = l.length := ⟨_, rfl⟩
  unfold OwnK at h
  rw [← hn] at h hi hl ⊢
  obtain ⟨m, rfl⟩ : ∃ m, n = m + 1 := ⟨n - 1, by omega⟩
  rw [Nat.add_sub_cancel]
  rcases h.2 with ⟨e, _⟩ | ⟨g', c', cur, e, hb, hh, hnc, hcm, hcs, hct⟩
  · cases e
  cases e
  unfold maxLen at hcm
  have hi0 : (0 : Int) ≤ ↑i := by omega
  have hi1 : (↑i : Int) < (↑m + 1) := by omega
  have hne : ((i : Int) == (i : Int) + 1) = false := by rw [beq_eq_false_iff_ne]; omega
  have hnc' : ((↑m + 1) : Int) ≤ ↑c := by omega
  obtain ⟨i0, hi0', hz0, hz1, hz2⟩ := info_parts Try.info46'
  have HF : Kp (flatK l = cur.toList.take ((m + 1) * 2)) := ⟨hct.symm⟩
  have HN := Kp.mk hn
  have HH := Kp.mk hh
  have HCS := Kp.mk hcs
  have hlt : g < w.heap.size := (Array.getElem?_eq_some_iff.1 hh).1
  obtain ⟨news, hnews⟩ : ∃ news, news = flatK (l.drop (i + 1)) := ⟨_, rfl⟩
  have hnl : news.length = (m - i) * 2 := by rw [hnews, flatK_len, List.length_drop, ← hn]; omega
  have hcell : ∀ j u, (flatK l)[j]? = some u → w.cell? ⟨g, j, none⟩ = some u := fun j u hj => by
    have : cur[j]? = some u := by
      rw [HF.it, List.getElem?_take] at hj
      split at hj
      · simpa using hj
      · cases hj
    exact blk_cell HH.it this
  have HNW : Kp (∀ j u, news[j]? = some u → (flatK l)[(i + 1) * 2 + j]? = some u) := ⟨fun j u hj => by
    have : flatK l = flatK (l.take (i + 1)) ++ news := by rw [hnews, ← flatK_app, List.take_append_drop]
    rw [this, List.getElem?_append_right (by rw [flatK_len, List.length_take]; omega), flatK_len, List.length_take, Nat.min_eq_left (by omega), Nat.add_sub_cancel_left]
    exact hj⟩
  have H1C : Kp (∀ u ∈ news, u.oneCell' = true) := ⟨by rw [hnews]; exact flatK_one _⟩
  have HC := Kp.mk hcell
  obtain ⟨cur1, k1, k2, k3, k4⟩ := delk_fin hn hi hnc hcm hb hh hcs hct
  rw [← hnews] at k1 k3 k4
  rw [Nat.add_sub_cancel] at k3 k4
  have hic : i ≤ c := by omega
  have hi2 : (↑i : Int) + 1 ≤ (↑m + 1) := by omega
  have hi3 : (0 : Int) ≤ ↑i + 1 := by omega
  have hi4 : (↑i : Int) ≤ ↑i + 1 := by omega
  have hic1 : i + 1 ≤ c := by omega
  have hin1 : i + 1 ≤ m + 1 := by omega
  have hsum : i + (m - i) = m := by omega
  have HSP : Kp (∀ j, j < news.length → (w.drew.cell? ⟨g, 0 + i * 2 + j, none⟩).isSome = true ∧ w.drew.frozen? ⟨g, 0 + i * 2 + j, none⟩ = false) := ⟨fun j hj => by
    have hlt : i * 2 + j < cur.size := by rw [HCS.it]; omega
    have : w.cell? ⟨g, 0 + i * 2 + j, none⟩ = some cur[i * 2 + j] := by rw [Nat.zero_add]; exact blk_cell HH.it (Array.getElem?_eq_getElem hlt)
    exact ⟨by show (w.cell? _).isSome = true; rw [this]; rfl, blk_free HH.it⟩⟩
  have K1 := Kp.mk k1
  have K2 := Kp.mk k2
  have K3 := Kp.mk k3
  have K4 := Kp.mk k4
  clear hn hct hh hcs hnews hcell k1 k2 k3 k4
  by_cases hc1 : c = i + 1
  · have hn1 : i = m := by omega
    have hnil : news = [] := List.eq_nil_of_length_eq_zero (by rw [hnl]; omega)
    subst hnil
    subst hn1
    subst hc1
    clear hnl hsum HSP HNW
    go_enter Try.func73, Try.ntmps73
    go_wp2_with fail
    go_region_law (refine step_append_room (w := w.drew) rfl (.tmp 22) (.tmp 25) 44 rfl 46 i0 2 Try.underlying44 hi0' hz1 g 0 i (i + 1) rfl ⟨g, 0, none⟩ 0 0 [] rfl rfl (fun j u hj => by cases hj) (fun u hu => by cases hu) (by omega) (fun j hj => by cases hj) ?_)
    all_goals
      obtain ⟨W1, hW1⟩ : ∃ W1, W1 = w.drew.setCells g (i * 2) [] := ⟨_, rfl⟩
      rw [← hW1] at K1 K3 K4
      rw [← hW1]
      have hcl : ∀ ty, (Builtin.clear_ #[44] ty #[.slice (some ⟨g, i * 2, none⟩) 1 (1)]).run Try.prog W1 = .ok (.tuple #[]) (W1.setCells g (i * 2) zk) := fun ty =>
        run_clear_one W1 44 46 ty _ zk Try.underlying44 zero46 (by kernel_rfl) (by intro v hv; simp at hv; rcases hv with rfl | rfl <;> rfl) g (i * 2) (1) (fun j hj => by
          have hj7 : j < 2 := hj
          rw [blk_cell K1.it (Array.getElem?_eq_getElem (by rw [K2.it]; omega))]; rfl) (fun j hj => blk_free K1.it)
      clear hW1
      go_wp2
      go_ret
      exact ⟨rfl, K3.it, K4.it⟩
  · go_enter Try.func73, Try.ntmps73
    go_wp2_with fail
    go_region_law (refine step_append_room (w := w.drew) rfl (.tmp 22) (.tmp 25) 44 rfl 46 i0 2 Try.underlying44 hi0' hz1 g 0 i c rfl ⟨g, (i + 1) * 2, none⟩ (m - i) (c - (i + 1)) news rfl hnl (fun j u hj => by rw [add_plain]; exact HC.it _ _ (HNW.it j u hj)) H1C.it (by omega) HSP.it ?_)
    all_goals
      obtain ⟨W1, hW1⟩ : ∃ W1, W1 = w.drew.setCells g (i * 2) news := ⟨_, rfl⟩
      rw [← hW1] at K1 K3 K4
      rw [← hW1]
      have hcl : ∀ ty, (Builtin.clear_ #[44] ty #[.slice (some ⟨g, m * 2, none⟩) 1 (c - m)]).run Try.prog W1 = .ok (.tuple #[]) (W1.setCells g (m * 2) zk) := fun ty =>
        run_clear_one W1 44 46 ty _ zk Try.underlying44 zero46 (by kernel_rfl) (by intro v hv; simp at hv; rcases hv with rfl | rfl <;> rfl) g (m * 2) (c - m) (fun j hj => by
          have hj7 : j < 2 := hj
          rw [blk_cell K1.it (Array.getElem?_eq_getElem (by rw [K2.it]; omega))]; rfl) (fun j hj => blk_free K1.it)
      clear hW1
      clear hsum hnl
      go_wp2
      go_ret
      exact ⟨rfl, K3.it, K4.it⟩
end Go.Proofs.Ytnkgagbobihnnaa
