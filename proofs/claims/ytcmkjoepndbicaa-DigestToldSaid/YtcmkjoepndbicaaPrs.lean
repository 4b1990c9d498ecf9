/-
  Pairs: a slice of them, as read; rows that a call made; rows of pointers.
-/
import Derived.Test.YtcmkjoepndbicaaPair
import Derived.Deep.AppendLies
namespace Go.Proofs.Ytcmkjoepndbicaa
open Go Go.RowKit

abbrev Pr := ByteArray × ByteArray
def pcells (k : Pr) : List Value := [.string k.1, .string k.2]
/-- A slice of pairs, as read; its block is one of S. -/
structure RP (w : World) (S : Nat → Prop) (A : Option Addr) (n : Nat) (ks : List Pr) : Prop where
  len : ks.length = n
  bd : n * 32 ≤ 140737488355328
  row : 0 < n → ∃ b o, A = some ⟨b, o, none⟩ ∧ S b ∧ b < w.heap.size ∧ ∀ (i : Nat) (k : Pr), ks[i]? = some k → w.cell? ⟨b, o + i * 2, none⟩ = some (.string k.1) ∧ w.cell? ⟨b, o + i * 2 + 1, none⟩ = some (.string k.2)
theorem RP.nil (w : World) (S : Nat → Prop) (A : Option Addr) : RP w S A 0 [] := ⟨rfl, by decide, fun h => absurd h (by decide)⟩
/-- The blocks of S are as they were. -/
def Same (S : Nat → Prop) (w w' : World) : Prop := w.heap.size ≤ w'.heap.size ∧ ∀ b, S b → b < w.heap.size → w'.heap[b]? = w.heap[b]?
theorem Same.of_below {w w' : World} (h : Below w.heap.size w w') (S : Nat → Prop) : Same S w w' := ⟨h.size, fun b _ hb => h.block b hb⟩
theorem Same.of_set (w : World) {b o : Nat} {S : Nat → Prop} (v : Value) (h : ¬ S b) : Same S w (w.setCell ⟨b, o, none⟩ v) := ⟨by rw [size_set]; exact Nat.le_refl _, fun k hk _ => other_block _ _ _ (fun e => h (by have e' : k = b := e; rw [← e']; exact hk))⟩
theorem Same.of_grown {w w' : World} {S : Nat → Prop} {o : Option Nat} (h : w.grownBy w' o) (hS : ∀ b, S b → o ≠ some b) : Same S w w' := ⟨h.size, fun b hb hl => h.block b hl (fun e => hS b hb e.symm)⟩
theorem Same.trans {S : Nat → Prop} {a b c : World} (h : Same S a b) (k : Same S b c) : Same S a c := ⟨Nat.le_trans h.1 k.1, fun i hi hl => (k.2 i hi (Nat.lt_of_lt_of_le hl h.1)).trans (h.2 i hi hl)⟩
theorem Same.mono {S S' : Nat → Prop} {a b : World} (h : Same S a b) (hS : ∀ k, S' k → S k) : Same S' a b := ⟨h.1, fun i hi hl => h.2 i (hS i hi) hl⟩
theorem Same.cell {S : Nat → Prop} {w w' : World} (h : Same S w w') {b o : Nat} (hb : S b) (hl : b < w.heap.size) : w'.cell? ⟨b, o, none⟩ = w.cell? ⟨b, o, none⟩ := by
  unfold World.cell?
  rw [h.2 b hb hl]
theorem RP.same {w w' : World} {S : Nat → Prop} {A : Option Addr} {n : Nat} {ks : List Pr} (h : RP w S A n ks) (hs : Same S w w') : RP w' S A n ks :=
  ⟨h.len, h.bd, fun hn => by
    obtain ⟨b, o, e, hb, hl, hc⟩ := h.row hn
    exact ⟨b, o, e, hb, Nat.lt_of_lt_of_le hl hs.1, fun i k hk => ⟨(hs.cell hb hl).trans (hc i k hk).1, (hs.cell hb hl).trans (hc i k hk).2⟩⟩⟩
theorem RP.below {w w' : World} {S : Nat → Prop} {A : Option Addr} {n : Nat} {ks : List Pr} (h : RP w S A n ks) (hb : Below w.heap.size w w') : RP w' S A n ks := h.same (Same.of_below hb S)
theorem RP.relax {w : World} {S S' : Nat → Prop} {A : Option Addr} {n : Nat} {ks : List Pr} (h : RP w S A n ks) (hS : ∀ b, S b → b < w.heap.size → S' b) : RP w S' A n ks :=
  ⟨h.len, h.bd, fun hn => by
    obtain ⟨b, o, e, h1, hl, hc⟩ := h.row hn
    exact ⟨b, o, e, hS b h1 hl, hl, hc⟩⟩
theorem RP.get {w : World} {S : Nat → Prop} {A : Option Addr} {n : Nat} {ks : List Pr} (h : RP w S A n ks) {i : Nat} {k : Pr} (hk : ks[i]? = some k) :
    ∃ b o, A = some ⟨b, o, none⟩ ∧ S b ∧ b < w.heap.size ∧ w.cell? ⟨b, o + i * 2, none⟩ = some (.string k.1) ∧ w.cell? ⟨b, o + i * 2 + 1, none⟩ = some (.string k.2) := by
  have hi : i < ks.length := (List.getElem?_eq_some_iff.1 hk).1
  obtain ⟨b, o, e, h1, hl, hc⟩ := h.row (by rw [← h.len]; omega)
  exact ⟨b, o, e, h1, hl, hc i k hk⟩

theorem Try.info43' : (Try.prog.info? 43).map (fun i => (i.zero, i.size, i.bytes)) = some (some (.agg #[.string ⟨#[]⟩, .string ⟨#[]⟩]), 2, 32) := by kernel_rfl
def pvs (l : List Pr) : List Value := l.flatMap pcells
theorem pvs_app (a b : List Pr) : pvs (a ++ b) = pvs a ++ pvs b := by unfold pvs; rw [List.flatMap_append]
theorem pvs_len (l : List Pr) : (pvs l).length = l.length * 2 := by
  induction l with
  | nil => rfl
  | cons x l ih =>
    have e : pvs (x :: l) = pcells x ++ pvs l := rfl
    rw [e, List.length_append, ih, List.length_cons]
    have : (pcells x).length = 2 := rfl
    omega
theorem pvs_get {l : List Pr} : ∀ {i : Nat} {x : Pr}, l[i]? = some x → (pvs l)[i * 2]? = some (.string x.1) ∧ (pvs l)[i * 2 + 1]? = some (.string x.2) := by
  induction l with
  | nil => intro i x h; simp at h
  | cons y l ih =>
    intro i x h
    have e : pvs (y :: l) = .string y.1 :: .string y.2 :: pvs l := rfl
    rw [e]
    cases i with
    | zero =>
      simp at h
      subst h
      exact ⟨rfl, rfl⟩
    | succ i =>
      have := ih (i := i) (x := x) (by simpa using h)
      rw [show (i + 1) * 2 = i * 2 + 1 + 1 by omega, List.getElem?_cons_succ, List.getElem?_cons_succ, List.getElem?_cons_succ, List.getElem?_cons_succ]
      exact this
theorem pvs_one (l : List Pr) : ∀ u ∈ pvs l, u.oneCell' = true := by
  intro u hu
  unfold pvs at hu
  obtain ⟨x, _, hx⟩ := List.mem_flatMap.1 hu
  unfold pcells at hx
  simp at hx
  rcases hx with rfl | rfl <;> rfl
/-- A row of pairs that is the call's own. -/
def OwnP (W : World) (base : Nat) (v : Value) (l : List Pr) : Prop := W.ownsRow base 43 2 v l.length (pvs l)
theorem OwnP.nil (W : World) (base : Nat) : OwnP W base (.slice none 0 0) [] := World.ownsRow_nil _ _ _ _
theorem OwnP.lt {W : World} {base : Nat} {v : Value} {l : List Pr} (h : OwnP W base v l) (k : Nat) (hk : v.ownBlock = some k) : base ≤ k ∧ k < W.heap.size := by
  unfold OwnP at h
  exact h.lt k hk
theorem OwnP.form {W : World} {base : Nat} {v : Value} {l : List Pr} (h : OwnP W base v l) (hl : l.length ≤ 100000) :
    ∃ A c, v = .slice A l.length c ∧ (A = none → c = 0) ∧ l.length ≤ c ∧ RP W (fun b => base ≤ b) A l.length l := by
  unfold OwnP at h
  rcases h.2 with ⟨rfl, h0⟩ | ⟨g, cap, cur, rfl, hb, hh, h1, h2, h3, h4⟩
  · obtain rfl : l = [] := List.eq_nil_of_length_eq_zero h0
    exact ⟨none, 0, rfl, fun _ => rfl, Nat.le_refl _, RP.nil _ _ _⟩
  · refine ⟨_, cap, rfl, (fun h => by cases h), h1, rfl, by omega, fun _ => ⟨g, 0, rfl, hb, (Array.getElem?_eq_some_iff.1 hh).1, fun i x hx => ?_⟩⟩
    have hi : i < l.length := (List.getElem?_eq_some_iff.1 hx).1
    obtain ⟨e1, e2⟩ := pvs_get hx
    rw [← h4, List.getElem?_take, if_pos (by omega)] at e1 e2
    rw [Nat.zero_add]
    exact ⟨blk_cell hh (by simpa using e1), blk_cell hh (by simpa using e2)⟩
theorem OwnP.below {W W' : World} {base : Nat} {v : Value} {l : List Pr} (h : OwnP W base v l) (hb : Below W.heap.size W W') : OwnP W' base v l :=
  World.ownsRow.kept h (⟨hb.os, hb.tape, hb.output, hb.size, fun i hi _ => hb.block i hi⟩ : W.grownBy W' none) (by cases v.ownBlock <;> simp)
theorem OwnP.alloc {W : World} {base : Nat} {v : Value} {l : List Pr} (h : OwnP W base v l) (o : Obj) : OwnP (W.alloc o) base v l := World.ownsRow.alloc h o
theorem OwnP.grow {W W' : World} {base : Nat} {v u : Value} {l : List Pr} (h : OwnP W base v l) (hg : W.grownBy W' u.ownBlock) (hd : Dj v u) : OwnP W' base v l := by
  refine World.ownsRow.kept h hg ?_
  rcases hd with h1 | h1 | h1
  · exact .inl h1
  · cases hv : v.ownBlock with
    | none => exact .inl rfl
    | some b => right; rw [h1]; simp
  · exact .inr h1
theorem OwnP.far {W : World} {base : Nat} {v : Value} {l : List Pr} (h : OwnP W base v l) {G o : Nat} {u : Value} (hG : G < base) : OwnP (W.setCell ⟨G, o, none⟩ u) base v l := by
  refine World.ownsRow.kept h (grown_set (World.grownBy.refl W (some G)) o u) ?_
  cases hv : v.ownBlock with
  | none => simp
  | some k => have := (h.lt k hv).1; simp; omega
theorem OwnP.relax {W : World} {base base' : Nat} {v : Value} {l : List Pr} (h : OwnP W base v l) (hb : base' ≤ base) : OwnP W base' v l := by
  unfold OwnP at *
  refine ⟨h.1, ?_⟩
  rcases h.2 with h1 | ⟨g, cap, cur, hv, h2, r⟩
  · exact .inl h1
  · exact .inr ⟨g, cap, cur, hv, Nat.le_trans hb h2, r⟩
theorem below_ownP {B base : Nat} {w0 wr w1 : World} {v : Value} {l : List Pr} (hW : Below B w0 wr) (hsz : B ≤ wr.heap.size) (hown : OwnP wr base v l) (hbase : B ≤ base) (hg : wr.grownBy w1 v.ownBlock) : Below B w0 w1 :=
  hW.grown hg hsz (fun k hk => Nat.le_trans hbase (hown.lt k hk).1)
section
variable {ops : Array Oper} {rest : List Oper} {o : Oper} {a : Act} {Q : Exit → Act → World → Prop} {W : World}
theorem new_pr {W : World} (y : Pr) : ∀ j u, [Value.string y.1, Value.string y.2][j]? = some u → (W.alloc (.cells #[.string y.1, .string y.2] 43)).cell? ((⟨W.heap.size, 0, none⟩ : Addr).add j) = some u := by
  intro j u hj
  rw [add_plain, Nat.zero_add]
  match j, hj with
  | 0, hj => cases hj; exact blk_cell (blk_new _ _) rfl
  | 1, hj => cases hj; exact blk_cell (blk_new _ _) rfl
/-- append of one pair. -/
theorem app_p1 (hgd : o.guard = none) (s x : Operand)
    (ho : o.op = .call { callee := .builtin .append, args := #[s, x], argTypes := #[25, 25] })
    (base : Nat) (v : Value) (l : List Pr) (y : Pr) (hs : a.eval s = v) (hx : a.eval x = .slice (some ⟨W.heap.size, 0, none⟩) 1 1)
    (HO : OwnP W base v l) (hbase : base ≤ W.heap.size) (hl : l.length + 1 ≤ 100000)
    (h : ∀ v1 w1, OwnP w1 base v1 (l ++ [y]) → W.grownBy w1 v.ownBlock → (v1.ownBlock = v.ownBlock ∨ ∃ b, v1.ownBlock = some b ∧ W.heap.size ≤ b) → wpList Try.prog ops Q rest (a.put o.dst v1) w1) :
    wpList Try.prog ops Q (o :: rest) a (W.alloc (.cells #[.string y.1, .string y.2] 43)) := by
  obtain ⟨i0, hi, hz0, hz1, hz2⟩ := info_parts Try.info43'
  refine wpList_append_own_at (W.alloc (.cells #[.string y.1, .string y.2] 43)) hgd s x 25 ho base 43 i0 _ 2 32 Try.underlying25 hi hz0 hz1 hz2 rfl (by omega) v l.length _ hs (World.ownsRow.alloc HO _) ⟨W.heap.size, 0, none⟩ 1 1 [.string y.1, .string y.2] hx rfl
    (new_pr y) (by intro u hu; simp at hu; rcases hu with rfl | rfl <;> rfl) (by unfold maxLen; omega) (by omega) (by simp; omega) ?_
  intro v1 w1 hown hg _ hat
  refine h v1 w1 ?_ (World.grownBy.trans (World.grownBy_alloc W _ _) hg) ?_
  · unfold OwnP
    rw [List.length_append, pvs_app]
    exact hown
  · rcases hat with hat | hat
    · exact .inl hat
    · exact .inr ⟨_, hat, by simp⟩
/-- The same inside a drawn region. -/
theorem step_p1 {K : Act → World → Prop} {E : Prop} (hgd : o.guard = none) (s x : Operand)
    (ho : o.op = .call { callee := .builtin .append, args := #[s, x], argTypes := #[25, 25] })
    (base : Nat) (v : Value) (l : List Pr) (y : Pr) (hs : a.eval s = v) (hx : a.eval x = .slice (some ⟨W.heap.size, 0, none⟩) 1 1)
    (HO : OwnP W base v l) (hbase : base ≤ W.heap.size) (hl : l.length + 1 ≤ 100000)
    (h : ∀ g cap w1, OwnP w1 base (.slice (some ⟨g, 0, none⟩) (l.length + 1) cap) (l ++ [y]) → W.grownBy w1 v.ownBlock → (v.ownBlock = some g ∨ W.heap.size ≤ g) → K (a.put o.dst (.slice (some ⟨g, 0, none⟩) (l.length + 1) cap)) w1) :
    if Region.wanted o (yielded ops a.tmps) = true then Oper.wp Try.prog o a (W.alloc (.cells #[.string y.1, .string y.2] 43)) K Q else E := by
  obtain ⟨i0, hi, hz0, hz1, hz2⟩ := info_parts Try.info43'
  refine step_append_lies (W.alloc (.cells #[.string y.1, .string y.2] 43)) hgd s x 25 ho base 43 i0 _ 2 32 Try.underlying25 hi hz0 hz1 hz2 rfl (by omega) v l.length _ hs (World.ownsRow.alloc HO _) ⟨W.heap.size, 0, none⟩ 1 1 [.string y.1, .string y.2] hx rfl
    (new_pr y) (by intro u hu; simp at hu; rcases hu with rfl | rfl <;> rfl) (by omega) (by unfold maxLen; omega) (by omega) (by simp; omega) (W.heap.size + 1) (by simp) ?_
  intro g cap w1 hown hg hat _
  refine h g cap w1 ?_ (World.grownBy.trans (World.grownBy_alloc W _ _) hg) ?_
  · unfold OwnP
    rw [List.length_append, pvs_app]
    exact hown
  · rcases hat with hat | hat
    · exact .inl hat
    · exact .inr (by omega)
end

/-! Rows of pointers. -/
theorem Try.info73' : (Try.prog.info? 73).map (fun i => (i.zero, i.size, i.bytes)) = some (some (.pointer none), 1, 8) := by kernel_rfl
def ptrs (bs : List Nat) : List Value := bs.map fun b => .pointer (some ⟨b, 0, none⟩)
def OwnQ (W : World) (base : Nat) (v : Value) (bs : List Nat) : Prop := W.ownsRow base 73 1 v bs.length (ptrs bs)
theorem OwnQ.nil (W : World) (base : Nat) : OwnQ W base (.slice none 0 0) [] := World.ownsRow_nil _ _ _ _
theorem OwnQ.lt {W : World} {base : Nat} {v : Value} {l : List Nat} (h : OwnQ W base v l) (k : Nat) (hk : v.ownBlock = some k) : base ≤ k ∧ k < W.heap.size := by
  unfold OwnQ at h
  exact h.lt k hk
theorem OwnQ.form {W : World} {base : Nat} {v : Value} {l : List Nat} (h : OwnQ W base v l) :
    ∃ A c, v = .slice A l.length c ∧ (0 < l.length → ∃ g, A = some ⟨g, 0, none⟩ ∧ base ≤ g ∧ g < W.heap.size ∧ ∀ (i b : Nat), l[i]? = some b → W.cell? ⟨g, i, none⟩ = some (.pointer (some ⟨b, 0, none⟩))) := by
  unfold OwnQ at h
  rcases h.2 with ⟨rfl, h0⟩ | ⟨g, cap, cur, rfl, hb, hh, h1, h2, h3, h4⟩
  · exact ⟨none, 0, by rw [h0], fun h => absurd h (by omega)⟩
  · refine ⟨_, cap, rfl, fun _ => ⟨g, rfl, hb, (Array.getElem?_eq_some_iff.1 hh).1, fun i b hq => ?_⟩⟩
    have hl : i < l.length := (List.getElem?_eq_some_iff.1 hq).1
    refine blk_cell hh ?_
    have e : (ptrs l)[i]? = some (.pointer (some ⟨b, 0, none⟩)) := by unfold ptrs; rw [List.getElem?_map, hq]; rfl
    rw [← h4, List.getElem?_take, if_pos (by omega)] at e
    simpa using e
theorem OwnQ.below {W W' : World} {base : Nat} {v : Value} {l : List Nat} (h : OwnQ W base v l) (hb : Below W.heap.size W W') : OwnQ W' base v l :=
  World.ownsRow.kept h (⟨hb.os, hb.tape, hb.output, hb.size, fun i hi _ => hb.block i hi⟩ : W.grownBy W' none) (by cases v.ownBlock <;> simp)
theorem OwnQ.far {W : World} {base : Nat} {v : Value} {l : List Nat} (h : OwnQ W base v l) {G o : Nat} {u : Value} (hG : G < base) : OwnQ (W.setCell ⟨G, o, none⟩ u) base v l := by
  refine World.ownsRow.kept h (grown_set (World.grownBy.refl W (some G)) o u) ?_
  cases hv : v.ownBlock with
  | none => simp
  | some k => have := (h.lt k hv).1; simp; omega
theorem below_ownQ {B base : Nat} {w0 wr w1 : World} {v : Value} {l : List Nat} (hW : Below B w0 wr) (hsz : B ≤ wr.heap.size) (hown : OwnQ wr base v l) (hbase : B ≤ base) (hg : wr.grownBy w1 v.ownBlock) : Below B w0 w1 :=
  hW.grown hg hsz (fun k hk => Nat.le_trans hbase (hown.lt k hk).1)
section
variable {ops : Array Oper} {rest : List Oper} {o : Oper} {a : Act} {Q : Exit → Act → World → Prop} {W : World}
theorem app_q (hgd : o.guard = none) (s x : Operand)
    (ho : o.op = .call { callee := .builtin .append, args := #[s, x], argTypes := #[109, 109] })
    (base : Nat) (v : Value) (l : List Nat) (y : Nat) (hs : a.eval s = v) (hx : a.eval x = .slice (some ⟨W.heap.size, 0, none⟩) 1 1)
    (HO : OwnQ W base v l) (hbase : base ≤ W.heap.size) (hl : l.length + 1 ≤ 100000)
    (h : ∀ v1 w1, OwnQ w1 base v1 (l ++ [y]) → W.grownBy w1 v.ownBlock → (v1.ownBlock = v.ownBlock ∨ ∃ b, v1.ownBlock = some b ∧ W.heap.size ≤ b) → wpList Try.prog ops Q rest (a.put o.dst v1) w1) :
    wpList Try.prog ops Q (o :: rest) a (W.alloc (.cells #[.pointer (some ⟨y, 0, none⟩)] 73)) := by
  obtain ⟨i0, hi, hz0, hz1, hz2⟩ := info_parts Try.info73'
  refine wpList_append_own_at (W.alloc (.cells #[.pointer (some ⟨y, 0, none⟩)] 73)) hgd s x 109 ho base 73 i0 _ 1 8 Try.underlying109 hi hz0 hz1 hz2 rfl (by omega) v l.length _ hs (World.ownsRow.alloc HO _) ⟨W.heap.size, 0, none⟩ 1 1 [.pointer (some ⟨y, 0, none⟩)] hx rfl
    ?_ (by intro u hu; simp at hu; subst hu; rfl) (by unfold maxLen; omega) (by omega) (by simp; omega) ?_
  · intro j u hj
    match j, hj with
    | 0, hj => cases hj; rw [add_plain]; exact blk_cell (blk_new _ _) rfl
  · intro v1 w1 hown hg _ hat
    refine h v1 w1 ?_ (World.grownBy.trans (World.grownBy_alloc W _ _) hg) ?_
    · unfold OwnQ
      rw [List.length_append]
      unfold ptrs
      rw [List.map_append]
      exact hown
    · rcases hat with hat | hat
      · exact .inl hat
      · exact .inr ⟨_, hat, by simp⟩
end
end Go.Proofs.Ytcmkjoepndbicaa
