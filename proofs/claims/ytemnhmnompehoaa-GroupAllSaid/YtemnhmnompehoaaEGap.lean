/-
  Rows of events that a call made: append.
-/
import Derived.Test.YtemnhmnompehoaaEvt
namespace Go.Proofs.Ytemnhmnompehoaa
open Go Go.RowKit

theorem Try.info58' : (Try.prog.info? 58).map (fun i => (i.zero, i.size, i.bytes)) = some (some (.agg #[.int .i64 0, .string ⟨#[]⟩, .bool false, .string ⟨#[]⟩, .bool false, .string ⟨#[]⟩]), 6, 72) := by kernel_rfl

def flatE (l : List Ev) : List Value := l.flatMap Ev.cells
theorem flatE_append (a b : List Ev) : flatE (a ++ b) = flatE a ++ flatE b := by unfold flatE; rw [List.flatMap_append]
theorem flatE_len (l : List Ev) : (flatE l).length = l.length * 6 := by
  induction l with
  | nil => rfl
  | cons x l ih =>
    have e : flatE (x :: l) = x.cells ++ flatE l := rfl
    rw [e, List.length_append, ih, List.length_cons]
    have : x.cells.length = 6 := rfl
    omega
theorem flatE_get {l : List Ev} : ∀ {i : Nat} {x : Ev}, l[i]? = some x → ∀ j, j < 6 → (flatE l)[i * 6 + j]? = x.cells[j]? := by
  induction l with
  | nil => intro i x h; simp at h
  | cons y l ih =>
    intro i x h j hj
    have e : flatE (y :: l) = y.cells ++ flatE l := rfl
    have h7 : y.cells.length = 6 := rfl
    rw [e]
    cases i with
    | zero =>
      simp at h
      subst h
      rw [List.getElem?_append_left (by omega)]
      congr 1
      omega
    | succ i =>
      rw [List.getElem?_append_right (by omega), ← ih (by simpa using h) j hj]
      congr 1
      omega
theorem flatE_one (l : List Ev) : ∀ u ∈ flatE l, u.oneCell' = true := by
  intro u hu
  unfold flatE at hu
  obtain ⟨x, _, hx⟩ := List.mem_flatMap.1 hu
  unfold Ev.cells at hx
  simp at hx
  rcases hx with rfl | rfl | rfl | rfl | rfl | rfl <;> rfl
def OwnE (W : World) (base : Nat) (v : Value) (l : List Ev) : Prop := W.ownsRow base 58 6 v l.length (flatE l)
theorem OwnE.base_le {W : World} {base : Nat} {v : Value} {l : List Ev} (h : OwnE W base v l) (k : Nat) (hk : v.ownBlock = some k) : base ≤ k := by
  unfold OwnE at h
  rcases h.2 with ⟨rfl, _⟩ | ⟨g, cap, cur, rfl, hb, _⟩
  · simp [Value.ownBlock] at hk
  · have : g = k := by simpa [Value.ownBlock] using hk
    omega
theorem OwnE.form {W : World} {base : Nat} {v : Value} {l : List Ev} (h : OwnE W base v l) (hl : l.length ≤ 5000) (hs : ∀ k ∈ l, k.key.size ≤ maxLen ∧ k.old.size ≤ maxLen ∧ k.now.size ≤ maxLen) :
    ∃ A c, v = .slice A l.length c ∧ (A = none → c = 0) ∧ RE W A l.length l := by
  unfold OwnE at h
  rcases h.2 with ⟨rfl, h0⟩ | ⟨g, cap, cur, rfl, hb, hh, h1, h2, h3, h4⟩
  · obtain rfl : l = [] := List.eq_nil_of_length_eq_zero h0
    exact ⟨none, 0, rfl, fun _ => rfl, ⟨rfl, by decide, hs, fun h => absurd h (Nat.lt_irrefl _)⟩⟩
  · refine ⟨_, cap, rfl, (fun h => by cases h), rfl, by omega, hs, fun _ => ⟨g, 0, rfl, (Array.getElem?_eq_some_iff.1 hh).1, fun i x hx j u hu => ?_⟩⟩
    have hi : i < l.length := (List.getElem?_eq_some_iff.1 hx).1
    have hj : j < 6 := (List.getElem?_eq_some_iff.1 hu).1
    have e := flatE_get hx j hj
    rw [← h4, List.getElem?_take, if_pos (by omega), hu] at e
    rw [Nat.zero_add]
    exact blk_cell hh (by simpa using e)
theorem OwnE.below {W W' : World} {base : Nat} {v : Value} {l : List Ev} (h : OwnE W base v l) (hb : Below W.heap.size W W') : OwnE W' base v l :=
  World.ownsRow.kept h (⟨hb.os, hb.tape, hb.output, hb.size, fun i hi _ => hb.block i hi⟩ : W.grownBy W' none) (by cases v.ownBlock <;> simp)
theorem OwnE.alloc {W : World} {base : Nat} {v : Value} {l : List Ev} (h : OwnE W base v l) (o : Obj) : OwnE (W.alloc o) base v l := World.ownsRow.alloc h o
theorem below_ownE {B base : Nat} {w0 wr w1 : World} {v : Value} {l : List Ev} (hW : Below B w0 wr) (hsz : B ≤ wr.heap.size) (hown : OwnE wr base v l) (hbase : B ≤ base) (hg : wr.grownBy w1 v.ownBlock) : Below B w0 w1 :=
  hW.grown hg hsz (fun k hk => Nat.le_trans hbase (hown.base_le k hk))
theorem RE.news {W : World} {b o n : Nat} {l : List Ev} (h : RE W (some ⟨b, o, none⟩) n l) (j : Nat) (u : Value) (hj : (flatE l)[j]? = some u) : W.cell? ((⟨b, o, none⟩ : Addr).add j) = some u := by
  have hlt : j < l.length * 6 := by rw [← flatE_len]; exact (List.getElem?_eq_some_iff.1 hj).1
  obtain ⟨x, hx⟩ : ∃ x, l[j / 6]? = some x := ⟨_, List.getElem?_eq_getElem (by omega)⟩
  obtain ⟨b', o', e, _, hc⟩ := h.row (by rw [← h.len]; omega)
  cases e
  have h1 := flatE_get hx (j % 6) (by omega)
  rw [show j / 6 * 6 + j % 6 = j by omega, hj] at h1
  have := hc _ _ hx (j % 6) u h1.symm
  rw [show j / 6 * 6 + j % 6 = j by omega] at this
  rw [add_plain]
  exact this
theorem app_e {ops : Array Oper} {rest : List Oper} {o : Oper} {a : Act} {Q : Exit → Act → World → Prop} {W : World} (hgd : o.guard = none) (s x : Operand)
    (ho : o.op = .call { callee := .builtin .append, args := #[s, x], argTypes := #[56, 56] })
    (base : Nat) (v : Value) (xs : List Ev) (b off n c : Nat) (ys : List Ev) (hs : a.eval s = v) (hx : a.eval x = .slice (some ⟨b, off, none⟩) n c)
    (HO : OwnE W base v xs) (HR : RE W (some ⟨b, off, none⟩) n ys) (hbase : base ≤ W.heap.size) (hl : xs.length + ys.length ≤ 5000)
    (h : ∀ v1 w1, OwnE w1 base v1 (xs ++ ys) → W.grownBy w1 v.ownBlock → (v1.ownBlock = v.ownBlock ∨ v1.ownBlock = some W.heap.size) → wpList Try.prog ops Q rest (a.put o.dst v1) w1) :
    wpList Try.prog ops Q (o :: rest) a W := by
  obtain ⟨i0, hi, hz0, hz1, hz2⟩ := info_parts Try.info58'
  have hyl := HR.len
  refine wpList_append_own_at W hgd s x 56 ho base 58 i0 _ 6 72 Try.underlying56 hi hz0 hz1 hz2 rfl (by omega) v xs.length _ hs HO _ n c (flatE ys) hx (by rw [flatE_len, hyl]) HR.news (flatE_one ys) (by unfold maxLen; omega) (by omega) hbase ?_
  intro v1 w1 hown hg _ hat
  refine h v1 w1 ?_ hg hat
  unfold OwnE
  rw [List.length_append, flatE_append, hyl]
  exact hown
end Go.Proofs.Ytemnhmnompehoaa
