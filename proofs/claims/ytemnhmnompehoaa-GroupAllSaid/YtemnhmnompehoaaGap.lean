/-
  Rows of groups that a call made: append, slices.Clone.
-/
import Derived.Test.YtemnhmnompehoaaGs
namespace Go.Proofs.Ytemnhmnompehoaa
open Go Go.RowKit

theorem Try.info51' : (Try.prog.info? 51).map (fun i => (i.zero, i.size, i.bytes)) = some (some (.agg #[.string ⟨#[]⟩, .int .i64 0, .int .i64 0, .int .i64 0, .slice none 0 0, .slice none 0 0, .slice none 0 0]), 7, 112) := by kernel_rfl

def flat (l : List Gv) : List Value := l.flatMap Gv.cells
theorem flat_nil : flat [] = [] := rfl
theorem flat_append (a b : List Gv) : flat (a ++ b) = flat a ++ flat b := by unfold flat; rw [List.flatMap_append]
theorem flat_len (l : List Gv) : (flat l).length = l.length * 7 := by
  induction l with
  | nil => rfl
  | cons x l ih =>
    have e : flat (x :: l) = x.cells ++ flat l := rfl
    rw [e, List.length_append, ih, List.length_cons]
    have : x.cells.length = 7 := rfl
    omega
theorem flat_get {l : List Gv} : ∀ {i : Nat} {x : Gv}, l[i]? = some x → ∀ j, j < 7 → (flat l)[i * 7 + j]? = x.cells[j]? := by
  induction l with
  | nil => intro i x h; simp at h
  | cons y l ih =>
    intro i x h j hj
    have e : flat (y :: l) = y.cells ++ flat l := rfl
    have h7 : y.cells.length = 7 := rfl
    rw [e]
    cases i with
    | zero =>
      simp at h
      subst h
      rw [List.getElem?_append_left (by omega)]
      congr 1
      omega
    | succ i =>
      rw [List.getElem?_append_right (by omega), ← ih (by simpa using h) j hj]
      congr 1
      omega
theorem flat_one (l : List Gv) : ∀ u ∈ flat l, u.oneCell' = true := by
  intro u hu
  unfold flat at hu
  obtain ⟨x, _, hx⟩ := List.mem_flatMap.1 hu
  unfold Gv.cells at hx
  simp at hx
  rcases hx with rfl | rfl | rfl | rfl | rfl | rfl | rfl <;> rfl

def OwnG (W : World) (base : Nat) (v : Value) (l : List Gv) : Prop := W.ownsRow base 51 7 v l.length (flat l)
theorem OwnG.base_le {W : World} {base : Nat} {v : Value} {l : List Gv} (h : OwnG W base v l) (k : Nat) (hk : v.ownBlock = some k) : base ≤ k := by
  unfold OwnG at h
  rcases h.2 with ⟨rfl, _⟩ | ⟨g, cap, cur, rfl, hb, _⟩
  · simp [Value.ownBlock] at hk
  · have : g = k := by simpa [Value.ownBlock] using hk
    omega
theorem OwnG.form {W : World} {base : Nat} {v : Value} {l : List Gv} (h : OwnG W base v l) (hl : l.length ≤ 1000) : ∃ A c, v = .slice A l.length c ∧ (A = none → c = 0) ∧ RG W A l.length l := by
  unfold OwnG at h
  rcases h.2 with ⟨rfl, h0⟩ | ⟨g, cap, cur, rfl, hb, hh, h1, h2, h3, h4⟩
  · obtain rfl : l = [] := List.eq_nil_of_length_eq_zero h0
    exact ⟨none, 0, rfl, fun _ => rfl, ⟨rfl, hl, fun h => absurd h (Nat.lt_irrefl _)⟩⟩
  · refine ⟨_, cap, rfl, (fun h => by cases h), rfl, hl, fun _ => ⟨g, cur, rfl, (Array.getElem?_eq_some_iff.1 hh).1, hh, by omega, fun i x hx j hj => ?_⟩⟩
    have hi : i < l.length := (List.getElem?_eq_some_iff.1 hx).1
    have e := flat_get hx j hj
    rw [← h4, List.getElem?_take, if_pos (by omega)] at e
    simpa using e
theorem OwnG.below {W W' : World} {base : Nat} {v : Value} {l : List Gv} (h : OwnG W base v l) (hb : Below W.heap.size W W') : OwnG W' base v l :=
  World.ownsRow.kept h (⟨hb.os, hb.tape, hb.output, hb.size, fun i hi _ => hb.block i hi⟩ : W.grownBy W' none) (by cases v.ownBlock <;> simp)
theorem OwnG.alloc {W : World} {base : Nat} {v : Value} {l : List Gv} (h : OwnG W base v l) (o : Obj) : OwnG (W.alloc o) base v l := World.ownsRow.alloc h o
theorem below_ownG {B base : Nat} {w0 wr w1 : World} {v : Value} {l : List Gv} (hW : Below B w0 wr) (hsz : B ≤ wr.heap.size) (hown : OwnG wr base v l) (hbase : B ≤ base) (hg : wr.grownBy w1 v.ownBlock) : Below B w0 w1 :=
  hW.grown hg hsz (fun k hk => Nat.le_trans hbase (hown.base_le k hk))
theorem add_plain (b o j : Nat) : (⟨b, o, none⟩ : Addr).add j = ⟨b, o + j, none⟩ := by unfold Addr.add; split <;> simp_all
theorem RG.news {W : World} {ad : Addr} {n : Nat} {l : List Gv} (h : RG W (some ad) n l) (j : Nat) (u : Value) (hj : (flat l)[j]? = some u) : W.cell? (ad.add j) = some u := by
  have hjl : j < l.length * 7 := by rw [← flat_len]; exact (List.getElem?_eq_some_iff.1 hj).1
  obtain ⟨g, cur, h1, h2, h3, h4, h5⟩ := h.row (by rw [← h.len]; omega)
  cases h1
  have hi : j / 7 < l.length := by omega
  have e := h5 (j / 7) l[j / 7] (List.getElem?_eq_getElem hi) (j % 7) (Nat.mod_lt _ (by omega))
  have e2 := flat_get (List.getElem?_eq_getElem hi) (j % 7) (Nat.mod_lt _ (by omega))
  have e3 : j / 7 * 7 + j % 7 = j := by omega
  rw [e3] at e e2
  rw [add_plain, Nat.zero_add]
  exact blk_cell h3 (by rw [e, ← e2, hj])
theorem app_g {ops : Array Oper} {rest : List Oper} {o : Oper} {a : Act} {Q : Exit → Act → World → Prop} {W : World} (hgd : o.guard = none) (s x : Operand)
    (ho : o.op = .call { callee := .builtin .append, args := #[s, x], argTypes := #[36, 36] })
    (base : Nat) (v : Value) (xs : List Gv) (A : Option Addr) (n c : Nat) (ys : List Gv) (hs : a.eval s = v) (hx : a.eval x = .slice A n c)
    (HO : OwnG W base v xs) (HR : RG W A n ys) (hnil : A = none → c = 0) (hbase : base ≤ W.heap.size) (hl : xs.length + ys.length ≤ 1000)
    (h : ∀ v1 w1, OwnG w1 base v1 (xs ++ ys) → W.grownBy w1 v.ownBlock → (v1.ownBlock = v.ownBlock ∨ v1.ownBlock = some W.heap.size) → wpList Try.prog ops Q rest (a.put o.dst v1) w1) :
    wpList Try.prog ops Q (o :: rest) a W := by
  obtain ⟨i0, hi, hz0, hz1, hz2⟩ := info_parts Try.info51'
  have hyl := HR.len
  cases A with
  | none =>
    obtain rfl := hnil rfl
    have hn : n = 0 := by
      rcases Nat.eq_zero_or_pos n with h0 | h0
      · exact h0
      · obtain ⟨b, o', e, _⟩ := HR.row h0
        cases e
    subst hn
    have hy : ys = [] := List.eq_nil_of_length_eq_zero hyl
    subst hy
    refine wpList_append_own_none hgd s x 36 ho base 51 i0 7 Try.underlying36 hi v xs.length _ hs HO hx ?_
    have := h v W (by simpa using HO) (World.grownBy.refl _ _) (.inl rfl)
    exact this
  | some ad =>
    refine wpList_append_own_at W hgd s x 36 ho base 51 i0 _ 7 112 Try.underlying36 hi hz0 hz1 hz2 rfl (by omega) v xs.length _ hs HO ad n c (flat ys) hx (by rw [flat_len, hyl]) HR.news (flat_one ys) (by unfold maxLen; omega) (by omega) hbase ?_
    intro v1 w1 hown hg _ hat
    refine h v1 w1 ?_ hg hat
    unfold OwnG
    rw [List.length_append, flat_append, hyl]
    exact hown
theorem ownG_empty (W : World) : OwnG (W.alloc (.cells #[] 51)) W.heap.size (.slice (some ⟨W.heap.size, 0, none⟩) 0 0) [] := by
  have hh : (W.alloc (.cells #[] 51)).heap[W.heap.size]? = some (.cells #[] 51) := by
    show (W.heap.push _)[W.heap.size]? = _
    simp
  exact ⟨by simp [flat], .inr ⟨_, 0, #[], rfl, Nat.le_refl _, hh, by simp, by unfold maxLen; omega, by simp, by simp [flat]⟩⟩

set_option maxHeartbeats 1000000 in
theorem cloneg_any (A : Option Addr) (n c : Nat) (xs : List Gv) (w : World) (h : RG w A n xs) (e : A = none → c = 0) : Calls Try.prog 72 #[.slice A n c] w fun e w' =>
    ∃ v, e = .returned v ∧ OwnG w' w.heap.size v xs ∧ Below w.heap.size w w' := by
  have q36 : ∀ (w : World) (a : Option Addr) (n c n' c' : Nat), (binOp .eql 36 (.slice a n c) (.slice none n' c')).run Try.prog w = .ok (.bool a.isNone) w := fun w a n c n' c' => Lib.run_eql_slice_nil w _ _ a n c n' c' Try.underlying36
  cases A with
  | none =>
    have hc := e rfl
    have hn : n = 0 := by
      rcases Nat.eq_zero_or_pos n with h0 | h0
      · exact h0
      · obtain ⟨b, o', e, _⟩ := h.row h0
        cases e
    subst hc
    subst hn
    have hx : xs = [] := List.eq_nil_of_length_eq_zero h.len
    subst hx
    clear h e
    go_enter Try.func72, Try.ntmps72
    go_wp2
    go_ret
    exact ⟨_, rfl, World.ownsRow_nil _ _ _ _, Below.refl _ _⟩
  | some ad =>
    have H := Kp.mk h
    have E := Kp.mk e
    have hbd := h.bd
    have HL : Kp (([] : List Gv).length + xs.length ≤ 1000) := ⟨by have := h.len; simp; omega⟩
    have HR := Kp.mk (h.below ((Below.refl w.heap.size w).alloc (Nat.le_refl _) (.cells #[] 51)))
    have HO := Kp.mk (ownG_empty w)
    clear h e
    go_enter Try.func72, Try.ntmps72
    go_wp2_with (refine app_g rfl (.tmp 5) (.tmp 6) rfl w.heap.size _ [] (some ad) n c xs rfl rfl HO.it HR.it E.it (by simp) HL.it ?_; intro v1 w2 hn1 hg1 _; have N1 := Kp.mk hn1; have W1 := Kp.mk (below_ownG ((Below.refl w.heap.size w).alloc (Nat.le_refl _) (.cells #[] 51)) (by simp) HO.it (Nat.le_refl _) hg1); clear hn1 hg1)
    go_ret
    exact ⟨_, rfl, N1.it, W1.it⟩
