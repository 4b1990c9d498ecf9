/-
  New, Add.
-/
import Derived.Test.YtemnhmnompehoaaReg
namespace Go.Proofs.Ytemnhmnompehoaa
open Go Go.RowKit
attribute [local go_sem ↓] Go.wp_at_zero Go.wp_at_succ

theorem gs_new (w : World) : Gs (w.alloc (.cells #[.slice none 0 0, .bool true] 68)) w.heap.size none 0 [] :=
  ⟨blk_new _ _, ⟨rfl, by simp, fun h => absurd h (by simp)⟩, fun _ => rfl, fun x hx => by simp at hx⟩
theorem new_any (w : World) : Calls Try.prog 22 #[] w fun e w' => e = .returned (.pointer (some ⟨w.heap.size, 0, none⟩)) ∧ w' = w.alloc (.cells #[.slice none 0 0, .bool true] 68) := by
  go_enter Try.func22, Try.ntmps22
  go_wp2
  go_ret
  exact ⟨rfl, rfl⟩

theorem step_appg {ops : Array Oper} {o : Oper} {a : Act} {K : Act → World → Prop} {Q : Exit → Act → World → Prop} {E : Prop} {W : World} (hgd : o.guard = none) (s x : Operand)
    (ho : o.op = .call { callee := .builtin .append, args := #[s, x], argTypes := #[36, 36] })
    (base : Nat) (v : Value) (xs : List Gv) (ad : Addr) (y : Gv) (hs : a.eval s = v) (hx : a.eval x = .slice (some ad) 1 1)
    (HO : OwnG W base v xs) (HR : RG W (some ad) 1 [y]) (hbase : base ≤ W.heap.size) (hl : xs.length + 1 ≤ 1000)
    (h : ∀ g cap w1, OwnG w1 base (.slice (some ⟨g, 0, none⟩) (xs.length + 1) cap) (xs ++ [y]) → W.grownBy w1 v.ownBlock → (v.ownBlock = some g ∨ g = W.heap.size) → K (a.put o.dst (.slice (some ⟨g, 0, none⟩) (xs.length + 1) cap)) w1) :
    if Region.wanted o (yielded ops a.tmps) = true then Oper.wp Try.prog o a W K Q else E := by
  obtain ⟨i0, hi, hz0, hz1, hz2⟩ := info_parts Try.info51'
  refine step_append_lies W hgd s x 36 ho base 51 i0 _ 7 112 Try.underlying36 hi hz0 hz1 hz2 rfl (by omega) v xs.length _ hs HO ad 1 1 (flat [y]) hx (by rw [flat_len]; rfl) HR.news (flat_one [y]) (by omega) (by unfold maxLen; omega) (by omega) hbase W.heap.size rfl ?_
  intro g cap w1 hown hg hat _
  refine h g cap w1 ?_ hg hat
  unfold OwnG
  rw [List.length_append, flat_append]
  exact hown

theorem below_cells {B : Nat} {w w' : World} (h : Below B w w') (b o : Nat) (hb : b < B) : w'.cell? ⟨b, o, none⟩ = w.cell? ⟨b, o, none⟩ := h.cell (p := ⟨b, o, none⟩) hb
theorem below_frozen {B : Nat} {w w' : World} (h : Below B w w') (b o : Nat) (hb : b < B) : w'.frozen? ⟨b, o, none⟩ = w.frozen? ⟨b, o, none⟩ := World.frozen?_of_block (h.block b hb)
theorem World.size_alloc (w : World) (o : Obj) : (w.alloc o).heap.size = w.heap.size + 1 := by simp
theorem World.size_drew (w : World) : w.drew.heap.size = w.heap.size := rfl
theorem Own.kt51 {X base : Nat} {w w' : World} {v : Value} {xs : List Int} {cur : Array Value} {T : TypeId} (h : Own w base v xs) (hk : Kt X X w w') (hX : w.heap[X]? = some (.cells cur T (0, 0))) (hT : T ≠ 3) : Own w' base v xs := by
  unfold Own World.ownsRow at h ⊢
  refine ⟨h.1, ?_⟩
  rcases h.2 with h | ⟨g, cap, c2, r1, r2, r3, r4⟩
  · exact .inl h
  · have hne : g ≠ X := by rintro rfl; rw [r3] at hX; cases hX; exact hT rfl
    exact .inr ⟨g, cap, c2, r1, r2, (hk.2.2.2.2 g hne hne).trans r3, r4⟩
theorem row1 (W : World) (y : Gv) : RG (W.alloc (.cells y.cells.toArray 51)) (some ⟨W.heap.size, 0, none⟩) 1 [y] :=
  ⟨rfl, by omega, fun _ => ⟨W.heap.size, y.cells.toArray, rfl, by simp, blk_new _ _, by simp [Gv.cells], fun i x hx j hj => by
    match i, hx with
    | 0, hx =>
      simp at hx
      subst hx
      rw [List.getElem?_toArray]
      congr 1
      omega⟩⟩
theorem OwnG.relax {W : World} {base base' : Nat} {v : Value} {l : List Gv} (h : OwnG W base v l) (hb : base' ≤ base) : OwnG W base' v l := by
  unfold OwnG World.ownsRow at h ⊢
  refine ⟨h.1, ?_⟩
  rcases h.2 with h | ⟨g, cap, c2, r1, r2, r3⟩
  · exact .inl h
  · exact .inr ⟨g, cap, c2, r1, by omega, r3⟩
theorem gs_push {w4 w6 : World} {p c base g5 c6 : Nat} {A : Option Addr} {l : List Gv} {y : Gv} (G4 : Gs w4 p A c l) (GY : GOk w4 y) (hB : Below w4.heap.size w4 w6) (ho : OwnG w6 base (.slice (some ⟨g5, 0, none⟩) (l.length + 1) c6) (l ++ [y])) (hb : w4.heap.size ≤ base) (hl : l.length + 1 ≤ 1000) :
    Gs (w6.setCell ⟨p, 0, none⟩ (.slice (some ⟨g5, 0, none⟩) (l.length + 1) c6)) p (some ⟨g5, 0, none⟩) c6 (l ++ [y]) := by
  have hlen : (l ++ [y]).length = l.length + 1 := by simp
  have hp6 := (hB.block p G4.lt).trans G4.cell
  have hg : base ≤ g5 := ho.base_le g5 rfl
  have hpl := G4.lt
  have hgs := grown_set (World.grownBy.refl w6 (some p)) 0 (.slice (some ⟨g5, 0, none⟩) (l.length + 1) c6)
  obtain ⟨A', c', e, _, hr⟩ := ho.form (by omega)
  rw [hlen] at e
  cases e
  refine ⟨?_, ?_, (fun h => by cases h), fun x hx => ?_⟩
  · rw [blk_set _ hp6, hlen]; rfl
  · exact hr.kept hgs (by simp; omega)
  · rcases List.mem_append.1 hx with hx | hx
    · exact ((G4.ok x hx).below hB).past hp6 hgs
    · simp at hx; subst hx; exact (GY.below hB).past hp6 hgs
theorem step_call {ops : Array Oper} {o : Oper} {a : Act} {K : Act → World → Prop} {Q : Exit → Act → World → Prop} {E : Prop} {W : World} (hgd : o.guard = none) (f : FuncId) (args : Array Value)
    (hrun : (execOp a.eval o).run Try.prog W = .ok (.enter f args) W) (hc : Calls Try.prog f args W fun e w' => ∃ v, e = .returned v ∧ K (a.put o.dst v) w') : if Region.wanted o (yielded ops a.tmps) = true then Oper.wp Try.prog o a W K Q else E := by
  have hw : Region.wanted o (yielded ops a.tmps) = true := by simp [Region.wanted, hgd]
  rw [if_pos hw]
  unfold Oper.wp
  rw [hrun]
  refine hc.mono ?_
  rintro e w1 ⟨v, rfl, h⟩
  exact h
/-- The cells of a group that is nothing. -/
abbrev zc : Array Value := #[.string ⟨#[]⟩, .int .i64 0, .int .i64 0, .int .i64 0, .slice none 0 0, .slice none 0 0, .slice none 0 0]
/-- What each operation of Add's literal gives. -/
theorem s7_alloc {W : World} {o : Obj} {X : Nat} {a0 a1 a2 a3 a4 a5 a6 : Value} (h : W.cell? ⟨X, 0, none⟩ = some a0 ∧ W.cell? ⟨X, 1, none⟩ = some a1 ∧ W.cell? ⟨X, 2, none⟩ = some a2 ∧ W.cell? ⟨X, 3, none⟩ = some a3 ∧ W.cell? ⟨X, 4, none⟩ = some a4 ∧ W.cell? ⟨X, 5, none⟩ = some a5 ∧ W.cell? ⟨X, 6, none⟩ = some a6) :
    (W.alloc o).cell? ⟨X, 0, none⟩ = some a0 ∧ (W.alloc o).cell? ⟨X, 1, none⟩ = some a1 ∧ (W.alloc o).cell? ⟨X, 2, none⟩ = some a2 ∧ (W.alloc o).cell? ⟨X, 3, none⟩ = some a3 ∧ (W.alloc o).cell? ⟨X, 4, none⟩ = some a4 ∧ (W.alloc o).cell? ⟨X, 5, none⟩ = some a5 ∧ (W.alloc o).cell? ⟨X, 6, none⟩ = some a6 := by
  have hb : X < W.heap.size := by
    rcases Nat.lt_or_ge X W.heap.size with h1 | h1
    · exact h1
    · have := h.1; simp [World.cell?, Array.getElem?_eq_none h1] at this
  have k : ∀ o', (W.alloc o).cell? ⟨X, o', none⟩ = W.cell? ⟨X, o', none⟩ := fun o' => ((Below.refl W.heap.size W).alloc (Nat.le_refl _) o).cell (p := ⟨X, o', none⟩) hb
  rw [k, k, k, k, k, k, k]
  exact h
theorem s7_set {W : World} {u : Value} {X p : Nat} {a0 a1 a2 a3 a4 a5 a6 : Value} (h : W.cell? ⟨X, 0, none⟩ = some a0 ∧ W.cell? ⟨X, 1, none⟩ = some a1 ∧ W.cell? ⟨X, 2, none⟩ = some a2 ∧ W.cell? ⟨X, 3, none⟩ = some a3 ∧ W.cell? ⟨X, 4, none⟩ = some a4 ∧ W.cell? ⟨X, 5, none⟩ = some a5 ∧ W.cell? ⟨X, 6, none⟩ = some a6) (hX : ¬ X = p) :
    (W.setCell ⟨p, 0, none⟩ u).cell? ⟨X, 0, none⟩ = some a0 ∧ (W.setCell ⟨p, 0, none⟩ u).cell? ⟨X, 1, none⟩ = some a1 ∧ (W.setCell ⟨p, 0, none⟩ u).cell? ⟨X, 2, none⟩ = some a2 ∧ (W.setCell ⟨p, 0, none⟩ u).cell? ⟨X, 3, none⟩ = some a3 ∧ (W.setCell ⟨p, 0, none⟩ u).cell? ⟨X, 4, none⟩ = some a4 ∧ (W.setCell ⟨p, 0, none⟩ u).cell? ⟨X, 5, none⟩ = some a5 ∧ (W.setCell ⟨p, 0, none⟩ u).cell? ⟨X, 6, none⟩ = some a6 := by
  have k : ∀ o', (W.setCell ⟨p, 0, none⟩ u).cell? ⟨X, o', none⟩ = W.cell? ⟨X, o', none⟩ := fun o' => cell_other _ _ _ _ hX
  rw [k, k, k, k, k, k, k]
  exact h
def addSp (N : Nat) (s : ByteArray) (sub att : Int) (n : Nat) : Nat → Value → World → Prop
  | 0, v, _ => v = .string s
  | 1, v, _ => v = .int .i64 sub
  | 2, v, _ => v = .int .i64 n
  | 3, v, W => Own W N v (List.replicate n 0)
  | 4, v, _ => v = .int .i64 att
  | 5, v, W => ∃ b, v = .slice (some ⟨b, 0, none⟩) 1 1 ∧ b < W.heap.size ∧ W.cell? ⟨b, 0, none⟩ = some (.int .i64 att)
  | 6, v, _ => v = .int .i64 n
  | 7, v, W => Own W N v (List.replicate n att)
  | 8, v, W => ∃ A3 c3 A7 c7, v = .agg #[.string s, .int .i64 sub, .int .i64 0, .int .i64 1, .slice none 0 0, .slice A3 n c3, .slice A7 n c7] ∧ Own W N (.slice A3 n c3) (List.replicate n 0) ∧ Own W N (.slice A7 n c7) (List.replicate n att)
  | 9, v, W => BoxP N zc 51 v W
  | _, _, _ => True
theorem addSp_mono (N : Nat) (s : ByteArray) (sub att : Int) (n : Nat) : ∀ i v w w', Gr w w' → addSp N s sub att n i v w → addSp N s sub att n i v w' := by
  intro i v w w' h hs
  match i with
  | 0 => exact hs
  | 1 => exact hs
  | 2 => exact hs
  | 3 => exact Own.below hs h
  | 4 => exact hs
  | 5 => obtain ⟨b, e, hl, hc⟩ := hs; exact ⟨b, e, Nat.lt_of_lt_of_le hl h.size, (h.cell (p := ⟨b, 0, none⟩) hl).trans hc⟩
  | 6 => exact hs
  | 7 => exact Own.below hs h
  | 8 => obtain ⟨A3, c3, A7, c7, e, h1, h2⟩ := hs; exact ⟨A3, c3, A7, c7, e, Own.below h1 h, Own.below h2 h⟩
  | 9 => exact BoxP.mono h hs
  | q + 10 => trivial
def Gp.fresh (s : ByteArray) (n : Nat) (sub att : Int) : Gp := ⟨s, sub, 0, 1, [], List.replicate n 0, List.replicate n att⟩
set_option maxRecDepth 100000 in
set_option maxHeartbeats 8000000 in
theorem add_ok {w : World} {p : Nat} {A : Option Addr} {c : Nat} {l : List Gv} (h : Gs w p A c l) (s : ByteArray) (n : Nat) (sub att : Int) (hc : checkE s n = 0) (hn1 : 1 ≤ n) (hn2 : n ≤ 12) (hno : l.any (isN s.toList) = false) (hl : l.length < 3)
    (hs0 : 1 ≤ sub) (hs1 : sub ≤ 1099511627776) (ha0 : 0 ≤ att) (ha1 : att ≤ 1099511627776) :
    Calls Try.prog 44 #[.pointer (some ⟨p, 0, none⟩), .string s, .int .i64 n, .int .i64 sub, .int .i64 att] w fun e w' =>
    e = .returned (.int .i64 0) ∧ ∃ A' c' x', Gs w' p A' c' (l ++ [x']) ∧ x'.x = Gp.fresh s n sub att ∧ w.grownBy w' (some p) := by
  have hmk := make_ints n (by omega)
  have hb0 : Below w.heap.size w (w.alloc (.cells #[.string s] 9)) := (Below.refl _ w).alloc (Nat.le_refl _) _
  have HA : Kp (Gs (w.alloc (.cells #[.string s] 9)) p A c l) := ⟨h.below hb0⟩
  have B0 := Kp.mk hb0
  have X0 : Kp ((w.alloc (.cells #[.string s] 9)).heap[w.heap.size]? = some (.cells #[.string s] 9 (0, 0))) := ⟨blk_new _ _⟩
  have hsz : Kp ((w.alloc (.cells #[.string s] 9)).heap.size = w.heap.size + 1) := ⟨by simp⟩
  have HC := Kp.mk hc
  have HN := Kp.mk hno
  have hll : (↑l.length : Int) < 3 := by omega
  have hlt := h.lt
  have hs2 : 1099511627776 ≥ sub := hs1
  have DE := Kp.mk (dead_no HA.it)
  clear h hc hno hb0
  go_enter Try.func44, Try.ntmps44
  go_wp2_with (first | (go_at_call 66; refine DE.it.mono ?_; rintro e w1 ⟨rfl, rfl⟩) | (go_at_call 48; refine (check_any s n _).mono ?_; rintro e w1 ⟨rfl, hb1⟩; rw [HC.it]; have B1 := Kp.mk hb1; have G1 := Kp.mk (HA.it.below hb1); have hsz1 := hb1.size; rw [hsz.it] at hsz1; have X1 : Kp (w1.heap[w.heap.size]? = some (.cells #[.string s] 9 (0, 0))) := ⟨(hb1.block _ (by rw [hsz.it]; omega)).trans X0.it⟩; clear hb1; have z0 := G1.it.c0) | (go_at_call 75; refine (has76 A l.length c l s w.heap.size _ X1.it G1.it.row).mono ?_; rintro e w2 ⟨rfl, hb2⟩; rw [HN.it]; have B2 := Kp.mk hb2; have G2 := Kp.mk (G1.it.below hb2); have hsz2 := hb2.size; have X2 : Kp (w2.heap[w.heap.size]? = some (.cells #[.string s] 9 (0, 0))) := ⟨(hb2.block _ (by omega)).trans X1.it⟩; clear hb2; have z1 := G2.it.c0; have x2 := blk_cell X2.it (show (#[Value.string s])[0]? = some _ from rfl)))
  have hn12 : n ≤ 1000 := by omega
  have hw2 : w.heap.size < w2.heap.size := by omega
  have HM := Kp.mk hmk
  clear hmk
  refine wp_region_last 10 (addSp w2.heap.size s sub att n) (by kernel_rfl) (addSp_mono _ _ _ _ _) (by kernel_rfl) (by decide) rfl ?_ ?_ ?_
  · intro l hc h j hj hne
    have hd : ∀ j, j < 10 → l.getD j false = true := fun j hj => h j (by
      match j, hj with
      | 0, _ => decide
      | 1, _ => decide
      | 2, _ => decide
      | 3, _ => decide
      | 4, _ => decide
      | 5, _ => decide
      | 6, _ => decide
      | 7, _ => decide
      | 8, _ => decide
      | 9, _ => decide
      | q + 10, hj => exact absurd hj (by omega))
    have : (#[(), (), (), (), (), (), (), (), (), (), ()] : Array Unit).size = 11 := rfl
    exact hd j (by have : j < 11 := hj; omega)
  · intro i o ho hne a W hbW hG
    match i with
    | 0 =>
      have ho1 := ho
      cases ho
      have t6 : a.tmps.getD 6 undef = .pointer (some ⟨w.heap.size, 0, none⟩) := hG.old 6 (by decide)
      have x3 := (hbW.cell (p := ⟨w.heap.size, 0, none⟩) hw2).trans x2
      exact op_value_g (w1 := W) ho1 (wanted_none rfl) (.string s) (by simp [go_sem, Act.eval, -Array.getD_eq_getD_getElem?, t6, x3]) (Gr.refl _) rfl
    | 1 =>
      have ho1 := ho
      cases ho
      have t3 : a.tmps.getD 3 undef = .int .i64 sub := hG.old 3 (by decide)
      exact op_value_g (w1 := W) ho1 (wanted_none rfl) (.int .i64 sub) (by simp [go_sem, Act.eval, -Array.getD_eq_getD_getElem?, t3]) (Gr.refl _) rfl
    | 2 =>
      have ho1 := ho
      cases ho
      have t2 : a.tmps.getD 2 undef = .int .i64 n := hG.old 2 (by decide)
      exact op_value_g (w1 := W) ho1 (wanted_none rfl) (.int .i64 n) (by simp [go_sem, Act.eval, -Array.getD_eq_getD_getElem?, t2]) (Gr.refl _) rfl
    | 3 =>
      have ho1 := ho
      cases ho
      have t52 : a.tmps.getD 52 undef = .int .i64 n := hG.dep 2 (by decide) 52 rfl
      have hmw := HM.it W
      exact op_value_g (w1 := W.alloc (.cells (zrow n) 3)) ho1 (wanted_none rfl) (.slice (some ⟨W.heap.size, 0, none⟩) n n) (by simp [go_sem, Act.eval, -Array.getD_eq_getD_getElem?, t52, hmw]) ((Below.refl _ _).alloc (Nat.le_refl _) _) (by
        have := (blk_zrow W n).own (base := w2.heap.size) hbW.size (by simp; omega)
        simpa [addSp] using this)
    | 4 =>
      have ho1 := ho
      cases ho
      have t4 : a.tmps.getD 4 undef = .int .i64 att := hG.old 4 (by decide)
      exact op_value_g (w1 := W) ho1 (wanted_none rfl) (.int .i64 att) (by simp [go_sem, Act.eval, -Array.getD_eq_getD_getElem?, t4]) (Gr.refl _) rfl
    | 5 =>
      have ho1 := ho
      cases ho
      have t54 : a.tmps.getD 54 undef = .int .i64 att := hG.dep 4 (by decide) 54 rfl
      exact op_value_g (w1 := W.alloc (.cells #[.int .i64 att] 3)) ho1 (wanted_none rfl) (.slice (some ⟨W.heap.size, 0, none⟩) 1 1) (by simp [go_sem, Act.eval, -Array.getD_eq_getD_getElem?, t54]) ((Below.refl _ _).alloc (Nat.le_refl _) _) ⟨_, rfl, by simp, blk_cell (blk_new _ _) rfl⟩
    | 6 =>
      have ho1 := ho
      cases ho
      have t2 : a.tmps.getD 2 undef = .int .i64 n := hG.old 2 (by decide)
      exact op_value_g (w1 := W) ho1 (wanted_none rfl) (.int .i64 n) (by simp [go_sem, Act.eval, -Array.getD_eq_getD_getElem?, t2]) (Gr.refl _) rfl
    | 7 =>
      have ho1 := ho
      cases ho
      obtain ⟨b, t55, hl, hc⟩ : addSp w2.heap.size s sub att n 5 (a.tmps.getD 55 undef) W := hG.dep 5 (by decide) 55 rfl
      have t56 : a.tmps.getD 56 undef = .int .i64 n := hG.dep 6 (by decide) 56 rfl
      refine op_call_g ho1 (wanted_none rfl) 77 #[.slice (some ⟨b, 0, none⟩) 1 1, .int .i64 n] (by simp [go_sem, Act.eval, -Array.getD_eq_getD_getElem?, t55, t56]) ?_
      refine (rep_any att n b W hc hl hn1 hn12).mono ?_
      rintro e W' ⟨c', rfl, ho, hb'⟩
      exact ⟨_, rfl, hb', ho.relax hbW.size⟩
    | 8 =>
      have ho1 := ho
      cases ho
      have t50 : a.tmps.getD 50 undef = .string s := hG.dep 0 (by decide) 50 rfl
      have t51 : a.tmps.getD 51 undef = .int .i64 sub := hG.dep 1 (by decide) 51 rfl
      have o3 : Own W w2.heap.size (a.tmps.getD 53 undef) (List.replicate n 0) := hG.dep 3 (by decide) 53 rfl
      have o7 : Own W w2.heap.size (a.tmps.getD 57 undef) (List.replicate n att) := hG.dep 7 (by decide) 57 rfl
      obtain ⟨A3, c3, t53, _⟩ := o3.form
      obtain ⟨A7, c7, t57, _⟩ := o7.form
      rw [List.length_replicate] at t53 t57
      rw [t53] at o3
      rw [t57] at o7
      exact op_value_g (w1 := W) ho1 (wanted_none rfl) (.agg #[.string s, .int .i64 sub, .int .i64 0, .int .i64 1, .slice none 0 0, .slice A3 n c3, .slice A7 n c7]) (by simp [go_sem, Act.eval, -Array.getD_eq_getD_getElem?, t50, t51, t53, t57]) (Gr.refl _) ⟨_, _, _, _, rfl, o3, o7⟩
    | 9 =>
      have ho1 := ho
      cases ho
      exact op_value_g (w1 := W.alloc (.cells zc 51)) ho1 (wanted_none rfl) (.pointer (some ⟨W.heap.size, 0, none⟩)) (by simp [go_sem, -Array.getD_eq_getD_getElem?]) ((Below.refl _ _).alloc (Nat.le_refl _) _) ⟨_, rfl, hbW.size, blk_new _ _⟩
    | 10 => exact absurd rfl hne
    | q + 11 => cases ho
  intro a W hbW hD
  have hfr := hD.frame [50, 51, 52, 53, 54, 55, 56, 57, 58, 12] (by kernel_rfl)
  have t50 : a.tmps.getD 50 undef = .string s := hD.sp 0 (by decide) 50 rfl
  have t51 : a.tmps.getD 51 undef = .int .i64 sub := hD.sp 1 (by decide) 51 rfl
  have t52 : a.tmps.getD 52 undef = .int .i64 n := hD.sp 2 (by decide) 52 rfl
  have t54 : a.tmps.getD 54 undef = .int .i64 att := hD.sp 4 (by decide) 54 rfl
  have t56 : a.tmps.getD 56 undef = .int .i64 n := hD.sp 6 (by decide) 56 rfl
  obtain ⟨A3, c3, A7, c7, t58, o3, o7⟩ : addSp w2.heap.size s sub att n 8 (a.tmps.getD 58 undef) W := hD.sp 8 (by decide) 58 rfl
  obtain ⟨X, t12, nX, hX⟩ : BoxP w2.heap.size zc 51 (a.tmps.getD 12 undef) W := hD.sp 9 (by decide) 12 rfl
  simp only [List.foldl_cons, List.foldl_nil] at hfr
  rw [t50, t51, t52, t54, t56, t58, t12] at hfr
  generalize a.tmps.getD 53 undef = u53 at hfr
  generalize a.tmps.getD 55 undef = u55 at hfr
  generalize a.tmps.getD 57 undef = u57 at hfr
  rw [hfr]
  clear hfr hD t50 t51 t52 t54 t56 t58 t12
  simp only [Act.put, List.setIfInBounds_toArray, List.set_cons_succ, List.set_cons_zero]
  obtain ⟨y0, y1, y2, y3, y4, y5, y6, f0, f1, f2, f3, f4, f5, f6⟩ := Bx.cells (a := ⟨#[]⟩) (s := 0) (t := 0) (n := 0) (m := .slice none 0 0) (o := .slice none 0 0) (p := .slice none 0 0) hX
  obtain ⟨w4, hw4⟩ : ∃ w4, w4 = ((((((W.setCell ⟨X, 0, none⟩ (.string s)).setCell ⟨X, 1, none⟩ (.int .i64 sub)).setCell ⟨X, 2, none⟩ (.int .i64 0)).setCell ⟨X, 3, none⟩ (.int .i64 1)).setCell ⟨X, 4, none⟩ (.slice none 0 0)).setCell ⟨X, 5, none⟩ (.slice A3 n c3)).setCell ⟨X, 6, none⟩ (.slice A7 n c7) := ⟨_, rfl⟩
  have k7 : Kt X X W w4 := by rw [hw4]; exact (((((((Kt.refl X X W).set (.inl rfl) _ _).set (.inl rfl) _ _).set (.inl rfl) _ _).set (.inl rfl) _ _).set (.inl rfl) _ _).set (.inl rfl) _ _).set (.inl rfl) _ _
  have hh4 : Bx w4 X s sub 0 1 (.slice none 0 0) (.slice A3 n c3) (.slice A7 n c7) := by unfold Bx; rw [hw4, blk_set _ (blk_set _ (blk_set _ (blk_set _ (blk_set _ (blk_set _ (blk_set _ hX))))))]; rfl
  refine op_any (w1 := w4) rfl rfl (by rw [hw4]; simp [go_sem, Act.eval, y0, y1, y2, y3, y4, y5, y6, f0, f1, f2, f3, f4, f5, f6]) ?_
  simp only [Act.put]
  have hb4 : Below w2.heap.size w2 w4 := Below.trans hbW (k7.below nX nX)
  have hXl : X < w4.heap.size := (Array.getElem?_eq_some_iff.1 hh4).1
  have G4 : Kp (Gs w4 p A c l) := ⟨G2.it.below hb4⟩
  have o3' := o3.kt51 k7 hX (by decide)
  have o7' := o7.kt51 k7 hX (by decide)
  obtain ⟨y, hy⟩ : ∃ y : Gv, y = ⟨Gp.fresh s n sub att, none, 0, A3, c3, A7, c7⟩ := ⟨_, rfl⟩
  have GY : Kp (GOk w4 y) := ⟨by
    rw [hy]
    obtain ⟨_, _, e1, n1, l1, _, r1⟩ := o3'.form3 (by simp; omega)
    obtain ⟨_, _, e2, n2, l2, _, r2⟩ := o7'.form3 (by simp; omega)
    rw [List.length_replicate] at e1 e2
    cases e1
    cases e2
    exact ⟨⟨rfl, by simp [Gp.fresh], fun h => absurd h (by simp [Gp.fresh])⟩, r1, r2, fun _ => rfl, n1, n2, by simp [Gp.fresh], l1, l2⟩⟩
  have YC : Kp (y.cells.toArray = #[.string s, .int .i64 sub, .int .i64 0, .int .i64 1, .slice none 0 0, .slice A3 n c3, .slice A7 n c7]) := ⟨by rw [hy]; simp [Gv.cells, Gp.fresh]⟩
  have YF : Kp (y.x = Gp.fresh s n sub att) := ⟨by rw [hy]⟩
  have HB4 := Kp.mk hb4
  have HX4 := Kp.mk hh4
  have hsz4 : w2.heap.size ≤ w4.heap.size := hb4.size
  have hll5 : l.length + 1 ≤ 1000 := by omega
  have hXp : ¬ X = p := by omega
  have hpX : ¬ p = X := by omega
  clear hw4 k7 hX o3 o7 o3' o7' hy hh4 hbW hb4 y0 y1 y2 y3 y4 y5 y6 f0 f1 f2 f3 f4 f5 f6 HM x2 z0 z1
  have z4 := G4.it.c0
  have hpl : p < w4.heap.size := by omega
  obtain ⟨y0, y1, y2, y3, y4, y5, y6, _⟩ := HX4.it.cells
  have RN : Kp (∀ W : World, RG (W.alloc (.cells #[.string s, .int .i64 sub, .int .i64 0, .int .i64 1, .slice none 0 0, .slice A3 n c3, .slice A7 n c7] 51)) (some ⟨W.heap.size, 0, none⟩) 1 [y]) := ⟨fun W => by rw [← YC.it]; exact row1 W y⟩
  go_wp2_with fail
  have ne4 := World.new_ne w4 ⟨p, 0, none⟩ z4
  have ne5 : ¬ w4.heap.size = p := by omega
  go_region_law (first
      | (refine step_call rfl 72 #[.slice A l.length c] (by simp [go_sem, Act.eval]) ?_; refine (cloneg_any A l.length c l _ (G4.it.row.below (by first | exact below_drew (Below.refl _ _) | exact below_drew ((Below.refl _ _).alloc (Nat.le_refl _) _))) G4.it.nil).mono ?_; rintro e w5 ⟨v5, rfl, ho5, hb5⟩; obtain ⟨A5, c5, rfl, hn5, hr5⟩ := OwnG.form ho5 (by omega); have B45 : Kp (Below w4.heap.size w4 w5) := ⟨by first | exact (below_drew (Below.refl w4.heap.size w4)).trans hb5 | exact (below_drew ((Below.refl w4.heap.size w4).alloc (Nat.le_refl _) _)).trans (hb5.mono (by show w4.heap.size ≤ (w4.alloc _).heap.size; simp))⟩; have P5 : Kp (OwnG w5 w4.heap.size (.slice A5 l.length c5) l) := ⟨by first | exact ho5 | exact ho5.relax (by show w4.heap.size ≤ (w4.alloc _).heap.size; simp)⟩; have RB := Kp.mk (fun r : RG _ (some ⟨w4.heap.size, 0, none⟩) 1 [y] => r.below hb5); have hs5 : w4.heap.size ≤ w5.heap.size := B45.it.size; have X5 := Kp.mk (HX4.it.kept B45.it hXl); obtain ⟨u0, u1, u2, u3, u4, u5, u6, _⟩ := X5.it.cells; clear hn5 hr5 ho5 hb5; refine ⟨_, rfl, ?_⟩)
      | (refine step_appg rfl (.tmp 64) (.tmp 66) rfl w4.heap.size (.slice A5 l.length c5) l ⟨_, 0, none⟩ y rfl rfl (by first | exact P5.it | exact P5.it.alloc _) (by first | exact RN.it _ | exact RB.it (RN.it w4).drew) (by first | exact hs5 | (simp; omega)) hll5 ?_; intro g5 c6 w6 ho6 hg6 hat6; have P6 := Kp.mk ho6; have B46 : Kp (Below w4.heap.size w4 w6) := ⟨by first | exact below_ownG B45.it hs5 P5.it (Nat.le_refl _) hg6 | exact below_ownG (B45.it.alloc hs5 _) (by simp; omega) (P5.it.alloc _) (Nat.le_refl _) hg6⟩; have X6 := Kp.mk (HX4.it.kept B46.it hXl); obtain ⟨v0, v1, v2, v3, v4, v5, v6, _⟩ := X6.it.cells; have H6 : Kp (w6.heap[p]? = some (.cells #[.slice A l.length c, .bool true] 68 (0, 0))) := ⟨(B46.it.block p hpl).trans G4.it.cell⟩; have q6 := blk_cell (o := 0) H6.it rfl; have f6 : w6.frozen? ⟨p, 0, none⟩ = false := blk_free H6.it; clear ho6 hg6 hat6))
  all_goals
    have GF := Kp.mk (gs_push G4.it GY.it B46.it P6.it (Nat.le_refl _) hll5)
    have GW : Kp (w.grownBy w6 (some p)) := ⟨grows_below (((B0.it.trans (B1.it.mono (by rw [hsz.it]; omega))).trans (B2.it.mono (by omega))).trans ((HB4.it.mono (by omega)).trans (B46.it.mono (by omega)))) (Nat.le_refl _) _⟩
    go_wp2
    go_ret
    exact ⟨rfl, _, _, y, GF.it, YF.it, grown_set GW.it _ _⟩
