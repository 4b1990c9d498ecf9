/-
  Rows of bytes that a call made; numbers as bytes.
-/
import Derived.Test.YtnkgagbobihnnaaByt
import Derived.Lib.ConvBytes
import Derived.Laws.AppendOwn
import Derived.Deep.CutRange
import Derived.Laws.Bits64
import Derived.Laws.Bits64b
namespace Go.Proofs.Ytnkgagbobihnnaa
open Go Go.RowKit

theorem bw_rb (w : World) (s : ByteArray) (hs : s.size ≤ 140737488351232) : Rb (Lib.bytesWorld w 5 s) (some ⟨w.heap.size, 0, none⟩) s.size s.data.toList :=
  ⟨by simp, by omega, fun _ => ⟨w.heap.size, 0, rfl, by rw [Lib.bytesWorld_size]; omega, fun j hj => by rw [Nat.zero_add]; exact Lib.bytesWorld_cell w 5 s j hj⟩⟩
theorem Try.info5' : (Try.prog.info? 5).map (fun i => (i.zero, i.size, i.bytes)) = some (some (.int .u8 0), 1, 1) := by kernel_rfl
def bvs (l : List UInt8) : List Value := l.map fun b => .int .u8 (b.toNat : Int)
theorem bvs_len (l : List UInt8) : (bvs l).length = l.length := by simp [bvs]
theorem bvs_app (a b : List UInt8) : bvs (a ++ b) = bvs a ++ bvs b := by simp [bvs]
theorem bvs_get (l : List UInt8) {j : Nat} (hj : j < l.length) : (bvs l)[j]? = some (.int .u8 (byte l j)) := by
  unfold bvs byte
  rw [List.getElem?_map, List.getElem?_eq_getElem hj, List.getD_eq_getElem?_getD, List.getElem?_eq_getElem hj]
  rfl
theorem strCells_bvs (s : ByteArray) : Lib.strCells s = bvs s.data.toList := by
  unfold Lib.strCells bvs
  first | rfl | simp
/-- A row of bytes that is the call's own. -/
def OwnB (W : World) (base : Nat) (v : Value) (l : List UInt8) : Prop := W.ownsRow base 5 1 v l.length (bvs l)
theorem OwnB.nil (W : World) (base : Nat) : OwnB W base (.slice none 0 0) [] := World.ownsRow_nil _ _ _ _
theorem OwnB.base_le {W : World} {base : Nat} {v : Value} {l : List UInt8} (h : OwnB W base v l) (k : Nat) (hk : v.ownBlock = some k) : base ≤ k := by
  unfold OwnB at h
  exact (h.lt k hk).1
theorem OwnB.form {W : World} {base : Nat} {v : Value} {l : List UInt8} (h : OwnB W base v l) (hl : l.length ≤ 140737488355328) :
    ∃ A c, v = .slice A l.length c ∧ (A = none → c = 0) ∧ l.length ≤ c ∧ Rb W A l.length l := by
  unfold OwnB at h
  have h' := h
  rcases h.2 with ⟨rfl, h0⟩ | ⟨g, cap, cur, rfl, hb, hh, h1, h2, h3, h4⟩
  · obtain rfl : l = [] := List.eq_nil_of_length_eq_zero h0
    exact ⟨none, 0, rfl, fun _ => rfl, Nat.le_refl _, ⟨rfl, hl, fun h => absurd h (Nat.lt_irrefl _)⟩⟩
  · refine ⟨_, cap, rfl, (fun h => by cases h), h1, rfl, hl, fun _ => ⟨g, 0, rfl, (Array.getElem?_eq_some_iff.1 hh).1, fun j hj => ?_⟩⟩
    rw [Nat.zero_add]
    refine blk_cell hh ?_
    have e := bvs_get l hj
    rw [← h4, List.getElem?_take, if_pos (by omega)] at e
    simpa using e
theorem OwnB.below {W W' : World} {base : Nat} {v : Value} {l : List UInt8} (h : OwnB W base v l) (hb : Below W.heap.size W W') : OwnB W' base v l :=
  World.ownsRow.kept h (⟨hb.os, hb.tape, hb.output, hb.size, fun i hi _ => hb.block i hi⟩ : W.grownBy W' none) (by cases v.ownBlock <;> simp)
theorem OwnB.alloc {W : World} {base : Nat} {v : Value} {l : List UInt8} (h : OwnB W base v l) (o : Obj) : OwnB (W.alloc o) base v l := World.ownsRow.alloc h o
theorem OwnB.relax {W : World} {base base' : Nat} {v : Value} {l : List UInt8} (h : OwnB W base v l) (hb : base' ≤ base) : OwnB W base' v l := by
  unfold OwnB at *
  refine ⟨h.1, ?_⟩
  rcases h.2 with h1 | ⟨g, cap, cur, hv, h2, r⟩
  · exact .inl h1
  · exact .inr ⟨g, cap, cur, hv, Nat.le_trans hb h2, r⟩
theorem below_ownB {B base : Nat} {w0 wr w1 : World} {v : Value} {l : List UInt8} (hW : Below B w0 wr) (hsz : B ≤ wr.heap.size) (hown : OwnB wr base v l) (hbase : B ≤ base) (hg : wr.grownBy w1 v.ownBlock) : Below B w0 w1 :=
  hW.grown hg hsz (fun k hk => Nat.le_trans hbase (hown.base_le k hk))
/-- A new row of one byte. -/
theorem ownB_one (W : World) (b : UInt8) : OwnB (W.alloc (.cells #[.int .u8 (b.toNat : Int)] 5)) W.heap.size (.slice (some ⟨W.heap.size, 0, none⟩) 1 1) [b] :=
  ⟨rfl, .inr ⟨_, 1, _, rfl, Nat.le_refl _, blk_new W _, by simp, by unfold maxLen; omega, by simp, by simp [bvs]⟩⟩
theorem ownB_empty (W : World) : OwnB (W.alloc (.cells #[] 5)) W.heap.size (.slice (some ⟨W.heap.size, 0, none⟩) 0 0) [] :=
  ⟨rfl, .inr ⟨_, 0, _, rfl, Nat.le_refl _, blk_new W _, by simp, by unfold maxLen; omega, by simp, by simp [bvs]⟩⟩
theorem ownB_made (W : World) (cur : Array Value) (cap : Nat) (hm : cap ≤ maxLen) (hs : cur.size = cap) : OwnB (W.alloc (.cells cur 5)) W.heap.size (.slice (some ⟨W.heap.size, 0, none⟩) 0 cap) [] :=
  ⟨rfl, .inr ⟨_, cap, _, rfl, Nat.le_refl _, blk_new W _, by simp, hm, by simpa using hs, by simp [bvs]⟩⟩
section
variable {ops : Array Oper} {rest : List Oper} {o : Oper} {a : Act} {Q : Exit → Act → World → Prop} {W : World}
/-- append of one byte. -/
theorem app_b1 (hgd : o.guard = none) (s x : Operand)
    (ho : o.op = .call { callee := .builtin .append, args := #[s, x], argTypes := #[29, 29] })
    (base : Nat) (v : Value) (l : List UInt8) (y : Int) (b : UInt8) (hy : y = (b.toNat : Int)) (hs : a.eval s = v) (hx : a.eval x = .slice (some ⟨W.heap.size, 0, none⟩) 1 1)
    (HO : OwnB W base v l) (hbase : base ≤ W.heap.size) (hl : l.length + 1 ≤ 140737488355328)
    (h : ∀ v1 w1, OwnB w1 base v1 (l ++ [b]) → W.grownBy w1 v.ownBlock → wpList Try.prog ops Q rest (a.put o.dst v1) w1) :
    wpList Try.prog ops Q (o :: rest) a (W.alloc (.cells #[.int .u8 y] 5)) := by
  subst hy
  obtain ⟨i0, hi, hz0, hz1, hz2⟩ := info_parts Try.info5'
  refine wpList_append_own_at (W.alloc (.cells #[.int .u8 (b.toNat : Int)] 5)) hgd s x 29 ho base 5 i0 (.int .u8 0) 1 1 Try.underlying29 hi hz0 hz1 hz2 rfl (by omega) v l.length _ hs (World.ownsRow.alloc HO _) ⟨W.heap.size, 0, none⟩ 1 1 [.int .u8 (b.toNat : Int)] hx rfl
    ?_ (by intro u hu; simp at hu; subst hu; rfl) (by unfold maxLen; omega) (by omega) (by simp; omega) ?_
  · intro j u hj
    match j, hj with
    | 0, hj => simp at hj; subst hj; simp [Addr.add]
  · intro v1 w1 hown hg _ hat
    refine h v1 w1 ?_ (World.grownBy.trans (World.grownBy_alloc W _ _) hg)
    unfold OwnB
    rw [List.length_append, bvs_app]
    exact hown
/-- append of bytes that are read. -/
theorem app_bs (hgd : o.guard = none) (s x : Operand)
    (ho : o.op = .call { callee := .builtin .append, args := #[s, x], argTypes := #[29, 29] })
    (base : Nat) (v : Value) (l : List UInt8) (A : Option Addr) (n c : Nat) (ys : List UInt8) (hs : a.eval s = v) (hx : a.eval x = .slice A n c)
    (HO : OwnB W base v l) (HR : Rb W A n ys) (hnil : A = none → c = 0) (hbase : base ≤ W.heap.size) (hl : l.length + ys.length ≤ 140737488355328)
    (h : ∀ v1 w1, OwnB w1 base v1 (l ++ ys) → W.grownBy w1 v.ownBlock → wpList Try.prog ops Q rest (a.put o.dst v1) w1) :
    wpList Try.prog ops Q (o :: rest) a W := by
  obtain ⟨i0, hi, hz0, hz1, hz2⟩ := info_parts Try.info5'
  have hyl := HR.len
  cases A with
  | none =>
    obtain rfl := hnil rfl
    have hn : n = 0 := by
      rcases Nat.eq_zero_or_pos n with h0 | h0
      · exact h0
      · obtain ⟨b, o', e, _⟩ := HR.cells h0
        cases e
    subst hn
    have hy : ys = [] := List.eq_nil_of_length_eq_zero hyl
    subst hy
    refine wpList_append_own_none hgd s x 29 ho base 5 i0 1 Try.underlying29 hi v l.length _ hs HO hx ?_
    exact h v W (by simpa using HO) (World.grownBy.refl _ _)
  | some ad =>
    refine wpList_append_own_at W hgd s x 29 ho base 5 i0 (.int .u8 0) 1 1 Try.underlying29 hi hz0 hz1 hz2 rfl (by omega) v l.length _ hs HO ad n c (bvs ys) hx (by rw [bvs_len, hyl, Nat.mul_one]) ?_ (by intro u hu; simp [bvs] at hu; obtain ⟨y, _, rfl⟩ := hu; rfl) (by unfold maxLen; omega) (by omega) hbase ?_
    · intro j u hj
      have hjl : j < ys.length := by
        have := (List.getElem?_eq_some_iff.1 hj).1
        rwa [bvs_len] at this
      obtain ⟨b, o', e, hlt, hc⟩ := HR.cells (by omega)
      cases e
      rw [add_plain, hc j (by omega)]
      rw [bvs_get ys hjl] at hj
      exact hj
    · intro v1 w1 hown hg _ _
      refine h v1 w1 ?_ hg
      unfold OwnB
      rw [List.length_append, bvs_app, hyl]
      exact hown
/-- append of a string. -/
theorem app_str (hgd : o.guard = none) (s x : Operand)
    (ho : o.op = .call { callee := .builtin .append, args := #[s, x], argTypes := #[29, 9] })
    (base : Nat) (v : Value) (l : List UInt8) (t : ByteArray) (hs : a.eval s = v) (hx : a.eval x = .string t)
    (HO : OwnB W base v l) (hbase : base ≤ W.heap.size) (hl : l.length + t.size ≤ 140737488355328)
    (h : ∀ v1 w1, OwnB w1 base v1 (l ++ t.data.toList) → W.grownBy w1 v.ownBlock → wpList Try.prog ops Q rest (a.put o.dst v1) w1) :
    wpList Try.prog ops Q (o :: rest) a W := by
  obtain ⟨i0, hi, hz0, hz1, hz2⟩ := info_parts Try.info5'
  refine Lib.wpList_append_own_string W hgd s x 29 9 ho base 5 i0 Try.underlying29 Try.underlying9 hi hz0 hz1 hz2 v l.length _ hs HO t hx (by unfold maxLen; omega) (by omega) hbase ?_
  intro v1 w1 hown hg _
  refine h v1 w1 ?_ hg
  unfold OwnB
  rw [List.length_append, bvs_app, ← strCells_bvs, show t.data.toList.length = t.size by simp]
  exact hown
end

/-- A number's bytes, the highest one first. -/
def be (n : Nat) : List UInt8 := if n = 0 then [] else be (n / 256) ++ [UInt8.ofNat (n % 256)]
termination_by n
theorem be_zero : be 0 = [] := by rw [be]; rfl
theorem be_pos {n : Nat} (h : 0 < n) : be n = be (n / 256) ++ [UInt8.ofNat (n % 256)] := by rw [be, if_neg (by omega)]
theorem be_len (n : Nat) : ∀ k, (be n).length ≤ k ↔ n < 256 ^ k := by
  induction n using Nat.strongRecOn with
  | _ n ih =>
    intro k
    rcases Nat.eq_zero_or_pos n with rfl | h0
    · rw [be_zero]
      simp [Nat.pow_pos]
    · rw [be_pos h0, List.length_append, List.length_singleton]
      cases k with
      | zero => simp; omega
      | succ k =>
        rw [Nat.add_le_add_iff_right, ih _ (by omega) k, Nat.pow_succ]
        omega
theorem be_get (n : Nat) : ∀ j, j < (be n).length → (be n)[j]? = some (UInt8.ofNat (n / 256 ^ ((be n).length - 1 - j) % 256)) := by
  induction n using Nat.strongRecOn with
  | _ n ih =>
    intro j hj
    rcases Nat.eq_zero_or_pos n with rfl | h0
    · rw [be_zero] at hj
      simp at hj
    · rw [be_pos h0] at hj ⊢
      rw [List.length_append, List.length_singleton] at hj ⊢
      rcases Nat.lt_or_ge j (be (n / 256)).length with h1 | h1
      · rw [List.getElem?_append_left h1, ih _ (by omega) j h1]
        congr 2
        rw [show (be (n / 256)).length + 1 - 1 - j = ((be (n / 256)).length - 1 - j) + 1 by omega, Nat.pow_succ, Nat.div_div_eq_div_mul, Nat.mul_comm]
      · obtain rfl : j = (be (n / 256)).length := by omega
        rw [List.getElem?_append_right (Nat.le_refl _), Nat.sub_self]
        simp
theorem be_take {n j : Nat} (hj : j < (be n).length) : (be n).take (j + 1) = (be n).take j ++ [UInt8.ofNat (n / 256 ^ ((be n).length - 1 - j) % 256)] := by
  rw [List.take_add_one, be_get n j hj]
  rfl
/-- How many bytes a number has, and these. -/
def numB (n : Nat) : List UInt8 := UInt8.ofNat (be n).length :: be n
/-- The eight bytes of a word. -/
def sgB (u : Nat) : List UInt8 := (List.range 8).map fun j => UInt8.ofNat (u / 256 ^ (7 - j) % 256)
theorem sgB_len (u : Nat) : (sgB u).length = 8 := by simp [sgB]
theorem sgB_get (u : Nat) {j : Nat} (hj : j < 8) : (sgB u)[j]? = some (UInt8.ofNat (u / 256 ^ (7 - j) % 256)) := by
  unfold sgB
  rw [List.getElem?_map, List.getElem?_range hj]
  rfl
theorem sgB_take (u : Nat) {j : Nat} (hj : j < 8) : (sgB u).take (j + 1) = (sgB u).take j ++ [UInt8.ofNat (u / 256 ^ (7 - j) % 256)] := by
  rw [List.take_add_one, sgB_get u hj]
  rfl
theorem sgB_drop (u : Nat) {j : Nat} (hj : j < 8) : (sgB u).drop (7 - j) = UInt8.ofNat (u / 256 ^ j % 256) :: (sgB u).drop (8 - j) := by
  have h : 7 - j < (sgB u).length := by rw [sgB_len]; omega
  rw [List.drop_eq_getElem_cons h, show 7 - j + 1 = 8 - j by omega]
  congr 1
  have := sgB_get u (j := 7 - j) (by omega)
  rw [List.getElem?_eq_getElem h] at this
  injection this with this
  rw [this, show 7 - (7 - j) = j by omega]
/-- A text's bytes. -/
def txtB (s : ByteArray) : List UInt8 := numB s.size ++ s.data.toList
theorem u8_of {n : Nat} (h : n < 256) : ((UInt8.ofNat n).toNat : Int) = (n : Int) := by
  rw [UInt8.toNat_ofNat', Nat.mod_eq_of_lt (by omega)]
end Go.Proofs.Ytnkgagbobihnnaa
