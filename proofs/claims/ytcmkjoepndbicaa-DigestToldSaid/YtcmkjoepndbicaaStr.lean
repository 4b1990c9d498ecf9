/-
  Rows of strings.
-/
import Derived.Test.YtcmkjoepndbicaaPrs
namespace Go.Proofs.Ytcmkjoepndbicaa
open Go Go.RowKit

theorem Try.info9' : (Try.prog.info? 9).map (fun i => (i.zero, i.size, i.bytes)) = some (some (.string ⟨#[]⟩), 1, 16) := by kernel_rfl
def svs (l : List ByteArray) : List Value := l.map Value.string
theorem svs_app (a b : List ByteArray) : svs (a ++ b) = svs a ++ svs b := by simp [svs]
/-- A slice of strings, as read. -/
structure RT (w : World) (A : Option Addr) (n : Nat) (ss : List ByteArray) : Prop where
  len : ss.length = n
  bd : n * 16 ≤ 140737488355328
  row : 0 < n → ∃ b o, A = some ⟨b, o, none⟩ ∧ b < w.heap.size ∧ ∀ (i : Nat) (s : ByteArray), ss[i]? = some s → w.cell? ⟨b, o + i, none⟩ = some (.string s)
theorem RT.nil (w : World) (A : Option Addr) : RT w A 0 [] := ⟨rfl, by decide, fun h => absurd h (by decide)⟩
theorem RT.below {w w' : World} {A : Option Addr} {n : Nat} {ss : List ByteArray} (h : RT w A n ss) (hb : Below w.heap.size w w') : RT w' A n ss :=
  ⟨h.len, h.bd, fun hn => by
    obtain ⟨b, o, e, hl, hc⟩ := h.row hn
    exact ⟨b, o, e, Nat.lt_of_lt_of_le hl hb.size, fun i s hs => (hb.cell (p := ⟨b, o + i, none⟩) hl).trans (hc i s hs)⟩⟩
def OwnT (W : World) (base : Nat) (v : Value) (l : List ByteArray) : Prop := W.ownsRow base 9 1 v l.length (svs l)
theorem OwnT.nil (W : World) (base : Nat) : OwnT W base (.slice none 0 0) [] := World.ownsRow_nil _ _ _ _
theorem OwnT.lt {W : World} {base : Nat} {v : Value} {l : List ByteArray} (h : OwnT W base v l) (k : Nat) (hk : v.ownBlock = some k) : base ≤ k ∧ k < W.heap.size := by
  unfold OwnT at h
  exact h.lt k hk
theorem OwnT.form {W : World} {base : Nat} {v : Value} {l : List ByteArray} (h : OwnT W base v l) (hl : l.length ≤ 100000000) :
    ∃ A c, v = .slice A l.length c ∧ (A = none → c = 0) ∧ l.length ≤ c ∧ RT W A l.length l := by
  unfold OwnT at h
  rcases h.2 with ⟨rfl, h0⟩ | ⟨g, cap, cur, rfl, hb, hh, h1, h2, h3, h4⟩
  · obtain rfl : l = [] := List.eq_nil_of_length_eq_zero h0
    exact ⟨none, 0, rfl, fun _ => rfl, Nat.le_refl _, RT.nil _ _⟩
  · refine ⟨_, cap, rfl, (fun h => by cases h), h1, rfl, by omega, fun _ => ⟨g, 0, rfl, (Array.getElem?_eq_some_iff.1 hh).1, fun i s hs => ?_⟩⟩
    have hi : i < l.length := (List.getElem?_eq_some_iff.1 hs).1
    rw [Nat.zero_add]
    refine blk_cell hh ?_
    have e : (svs l)[i]? = some (.string s) := by unfold svs; rw [List.getElem?_map, hs]; rfl
    rw [← h4, List.getElem?_take, if_pos (by omega)] at e
    simpa using e
theorem OwnT.below {W W' : World} {base : Nat} {v : Value} {l : List ByteArray} (h : OwnT W base v l) (hb : Below W.heap.size W W') : OwnT W' base v l :=
  World.ownsRow.kept h (⟨hb.os, hb.tape, hb.output, hb.size, fun i hi _ => hb.block i hi⟩ : W.grownBy W' none) (by cases v.ownBlock <;> simp)
theorem OwnT.alloc {W : World} {base : Nat} {v : Value} {l : List ByteArray} (h : OwnT W base v l) (o : Obj) : OwnT (W.alloc o) base v l := World.ownsRow.alloc h o
theorem OwnT.relax {W : World} {base base' : Nat} {v : Value} {l : List ByteArray} (h : OwnT W base v l) (hb : base' ≤ base) : OwnT W base' v l := by
  unfold OwnT at *
  refine ⟨h.1, ?_⟩
  rcases h.2 with h1 | ⟨g, cap, cur, hv, h2, r⟩
  · exact .inl h1
  · exact .inr ⟨g, cap, cur, hv, Nat.le_trans hb h2, r⟩
theorem OwnT.far {W : World} {base : Nat} {v : Value} {l : List ByteArray} (h : OwnT W base v l) {G o : Nat} {u : Value} (hG : G < base) : OwnT (W.setCell ⟨G, o, none⟩ u) base v l := by
  refine World.ownsRow.kept h (grown_set (World.grownBy.refl W (some G)) o u) ?_
  cases hv : v.ownBlock with
  | none => simp
  | some k => have := (h.lt k hv).1; simp; omega
theorem below_ownT {B base : Nat} {w0 wr w1 : World} {v : Value} {l : List ByteArray} (hW : Below B w0 wr) (hsz : B ≤ wr.heap.size) (hown : OwnT wr base v l) (hbase : B ≤ base) (hg : wr.grownBy w1 v.ownBlock) : Below B w0 w1 :=
  hW.grown hg hsz (fun k hk => Nat.le_trans hbase (hown.lt k hk).1)
section
variable {ops : Array Oper} {rest : List Oper} {o : Oper} {a : Act} {Q : Exit → Act → World → Prop} {W : World}
theorem new_st {W : World} (y : ByteArray) : ∀ j u, [Value.string y][j]? = some u → (W.alloc (.cells #[.string y] 9)).cell? ((⟨W.heap.size, 0, none⟩ : Addr).add j) = some u := by
  intro j u hj
  rw [add_plain, Nat.zero_add]
  match j, hj with
  | 0, hj => cases hj; exact blk_cell (blk_new _ _) rfl
theorem app_t1 (hgd : o.guard = none) (s x : Operand)
    (ho : o.op = .call { callee := .builtin .append, args := #[s, x], argTypes := #[28, 28] })
    (base : Nat) (v : Value) (l : List ByteArray) (y : ByteArray) (hs : a.eval s = v) (hx : a.eval x = .slice (some ⟨W.heap.size, 0, none⟩) 1 1)
    (HO : OwnT W base v l) (hbase : base ≤ W.heap.size) (hl : l.length + 1 ≤ 100000000)
    (h : ∀ v1 w1, OwnT w1 base v1 (l ++ [y]) → W.grownBy w1 v.ownBlock → wpList Try.prog ops Q rest (a.put o.dst v1) w1) :
    wpList Try.prog ops Q (o :: rest) a (W.alloc (.cells #[.string y] 9)) := by
  obtain ⟨i0, hi, hz0, hz1, hz2⟩ := info_parts Try.info9'
  refine wpList_append_own_at (W.alloc (.cells #[.string y] 9)) hgd s x 28 ho base 9 i0 _ 1 16 Try.underlying28 hi hz0 hz1 hz2 rfl (by omega) v l.length _ hs (World.ownsRow.alloc HO _) ⟨W.heap.size, 0, none⟩ 1 1 [.string y] hx rfl
    (new_st y) (by intro u hu; simp at hu; subst hu; rfl) (by unfold maxLen; omega) (by omega) (by simp; omega) ?_
  intro v1 w1 hown hg _ _
  refine h v1 w1 ?_ (World.grownBy.trans (World.grownBy_alloc W _ _) hg)
  unfold OwnT
  rw [List.length_append, svs_app]
  exact hown
theorem step_t1 {K : Act → World → Prop} {E : Prop} (hgd : o.guard = none) (s x : Operand)
    (ho : o.op = .call { callee := .builtin .append, args := #[s, x], argTypes := #[28, 28] })
    (base : Nat) (v : Value) (l : List ByteArray) (y : ByteArray) (hs : a.eval s = v) (hx : a.eval x = .slice (some ⟨W.heap.size, 0, none⟩) 1 1)
    (HO : OwnT W base v l) (hbase : base ≤ W.heap.size) (hl : l.length + 1 ≤ 100000000)
    (h : ∀ g cap w1, OwnT w1 base (.slice (some ⟨g, 0, none⟩) (l.length + 1) cap) (l ++ [y]) → W.grownBy w1 v.ownBlock → K (a.put o.dst (.slice (some ⟨g, 0, none⟩) (l.length + 1) cap)) w1) :
    if Region.wanted o (yielded ops a.tmps) = true then Oper.wp Try.prog o a (W.alloc (.cells #[.string y] 9)) K Q else E := by
  obtain ⟨i0, hi, hz0, hz1, hz2⟩ := info_parts Try.info9'
  refine step_append_lies (W.alloc (.cells #[.string y] 9)) hgd s x 28 ho base 9 i0 _ 1 16 Try.underlying28 hi hz0 hz1 hz2 rfl (by omega) v l.length _ hs (World.ownsRow.alloc HO _) ⟨W.heap.size, 0, none⟩ 1 1 [.string y] hx rfl
    (new_st y) (by intro u hu; simp at hu; subst hu; rfl) (by omega) (by unfold maxLen; omega) (by omega) (by simp; omega) (W.heap.size + 1) (by simp) ?_
  intro g cap w1 hown hg _ _
  refine h g cap w1 ?_ (World.grownBy.trans (World.grownBy_alloc W _ _) hg)
  unfold OwnT
  rw [List.length_append, svs_app]
  exact hown
end
theorem RT.news {W : World} {b o n : Nat} {l : List ByteArray} (h : RT W (some ⟨b, o, none⟩) n l) (j : Nat) (u : Value) (hj : (svs l)[j]? = some u) : W.cell? ((⟨b, o, none⟩ : Addr).add j) = some u := by
  unfold svs at hj
  rw [List.getElem?_map] at hj
  obtain ⟨s, hs, rfl⟩ := Option.map_eq_some_iff.1 hj
  have hlt := (List.getElem?_eq_some_iff.1 hs).1
  obtain ⟨b', o', e, _, hc⟩ := h.row (by rw [← h.len]; omega)
  cases e
  rw [add_plain]
  exact hc j s hs
/-- append of strings, where an operation runs alone. -/
theorem run_ts {W : World} (base : Nat) (v : Value) (l : List ByteArray) (A : Option Addr) (n c : Nat) (ys : List ByteArray) (ty : TypeId)
    (HO : OwnT W base v l) (HR : RT W A n ys) (hnil : A = none → c = 0) (hbase : base ≤ W.heap.size) (hl : l.length + ys.length ≤ 100000000) :
    ∃ v1 w1, (Builtin.append_ #[28, 28] ty #[v, .slice A n c]).run Try.prog W = .ok v1 w1 ∧ OwnT w1 base v1 (l ++ ys) ∧ W.grownBy w1 v.ownBlock ∧ (v1.ownBlock = v.ownBlock ∨ ∃ q, v1.ownBlock = some q ∧ W.heap.size ≤ q) := by
  obtain ⟨i0, hi, hz0, hz1, hz2⟩ := info_parts Try.info9'
  have hyl := HR.len
  cases A with
  | none =>
    obtain rfl := hnil rfl
    have hn : n = 0 := by
      rcases Nat.eq_zero_or_pos n with h0 | h0
      · exact h0
      · obtain ⟨b, o', e, _⟩ := HR.row h0
        cases e
    subst hn
    have hy : ys = [] := List.eq_nil_of_length_eq_zero hyl
    subst hy
    exact ⟨v, W, run_append_owned_none (P := Try.prog) (w := W) base 28 ty 9 i0 1 Try.underlying28 hi v l.length _ HO, by simpa using HO, World.grownBy.refl _ _, .inl rfl⟩
  | some ad =>
    have had : 0 < n → ad.spot = none := fun h0 => by obtain ⟨b, o', e, _⟩ := HR.row h0; cases e; rfl
    obtain ⟨v1, w1, hr, h2, h3, _, hat⟩ := run_append_own_at (P := Try.prog) W base 28 ty 9 i0 (.string ⟨#[]⟩) 1 16 Try.underlying28 hi hz0 hz1 hz2 rfl (by omega) v l.length _ HO ad n c (svs ys) (by simp [svs, hyl]) (fun j u hj => by
      have hlt : j < ys.length := by have := (List.getElem?_eq_some_iff.1 hj).1; simpa [svs] using this
      obtain ⟨b, o', e, _⟩ := HR.row (by omega)
      cases e
      exact HR.news j u hj) (by intro u hu; simp [svs] at hu; obtain ⟨y, _, rfl⟩ := hu; rfl) (by unfold maxLen; omega) (by omega) hbase
    refine ⟨v1, w1, hr, ?_, h3, ?_⟩
    · unfold OwnT
      rw [List.length_append, svs_app, hyl]
      exact h2
    · rcases hat with e | e
      · exact .inl e
      · exact .inr ⟨_, e, Nat.le_refl _⟩
end Go.Proofs.Ytcmkjoepndbicaa
