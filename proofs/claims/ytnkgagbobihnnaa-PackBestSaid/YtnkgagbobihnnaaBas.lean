/-
  The seat of packs: small laws: slices of integers that are read or owned.
-/
import Derived.Test.YtnkgagbobihnnaaRows
import Derived.WalkKit
import Derived.WalkSpells
import Derived.WalkLawsBesides
import Derived.Deep.LoopGhost
import Derived.Deep.Draws
import Derived.Deep.QuietTactic
import Derived.BigQuiet
import Derived.Sort.OwnSortedInts
import Derived.Maps.AppendAt
import Derived.Lib.AppendZerosOnto
import Derived.Laws.AppendOwnNone
import Derived.Lib.RowBridge
import Derived.Lib.SliceRun
import Derived.Lib.AppendStr
import Derived.Lib.ConvBytes
import Derived.Laws.AppendOwn
import Derived.Laws.BytesArg
import Derived.Deep.OwnRows
import Derived.Laws.OwnMore
import Derived.RegionTactic
import Derived.BigRegion
import Derived.ChangeOld
import Derived.ChangeSame
import Derived.Deep.RegionHeldLaw
import Derived.Deep.DrawnRows
import Derived.Deep.Fields
import Derived.Deep.Slices
import Derived.Deep.AppendLies
import Derived.Laws.CopyRow
import Derived.Lib.OthersKept
import Derived.Lib.SmallJoins
import Derived.Maps.OwnOps
import Derived.Maps.OwnSet
import Derived.Maps.Views
import Derived.OpenShut
import Derived.ProofKit
import Derived.SizedLaws
import Derived.StringKeys
import Derived.WalkArith
import Derived.WalkSmall
namespace Go.Proofs.Ytnkgagbobihnnaa
open Go Go.RowKit

/-- A fact kept from the walk. -/
structure Kp (p : Prop) : Prop where mk :: (it : p)
theorem ret_int {k : IntKind} {a b : Int} (h : a = b) : Ending.returned (.int k a) = .returned (.int k b) := by rw [h]
theorem ret_bool {a b : Bool} (h : a = b) : Ending.returned (.bool a) = .returned (.bool b) := by rw [h]
/-- The j-th number; 0 behind the end. -/
def rd (xs : List Int) (j : Nat) : Int := xs.getD j 0
theorem rd_lt {xs : List Int} {j : Nat} (h : j < xs.length) : rd xs j = xs[j] := by
  unfold rd
  rw [List.getD_eq_getElem?_getD, List.getElem?_eq_getElem h]
  rfl
/-- A slice of ints, as read: nil, empty or not. -/
structure Rd (w : World) (A : Option Addr) (n : Nat) (xs : List Int) : Prop where
  len : xs.length = n
  bd : n * 8 ≤ 140737488351232
  cells : 0 < n → ∃ b o, A = some ⟨b, o, none⟩ ∧ b < w.heap.size ∧ ∀ j, j < n → w.cell? ⟨b, o + j, none⟩ = some (.int .i64 (rd xs j))
theorem Rd.below {w w' : World} {A : Option Addr} {n : Nat} {xs : List Int} (h : Rd w A n xs) (hb : Below w.heap.size w w') : Rd w' A n xs :=
  ⟨h.len, h.bd, fun hn => by
    obtain ⟨b, o, e, hlt, hc⟩ := h.cells hn
    exact ⟨b, o, e, Nat.lt_of_lt_of_le hlt hb.size, fun j hj => (hb.cell (p := ⟨b, o + j, none⟩) hlt).trans (hc j hj)⟩⟩
theorem Rd.get {w : World} {A : Option Addr} {n : Nat} {xs : List Int} (h : Rd w A n xs) {k : Nat} (hk : k < n) :
    ∃ b o, A = some ⟨b, o, none⟩ ∧ b < w.heap.size ∧ w.cell? ⟨b, o + k, none⟩ = some (.int .i64 (rd xs k)) := by
  obtain ⟨b, o, e, hlt, hc⟩ := h.cells (by omega)
  exact ⟨b, o, e, hlt, hc k hk⟩
/-- How many of the first k have p. -/
def cnt (p : Int → Bool) (xs : List Int) (k : Nat) : Nat := (xs.take k).countP p
theorem cnt_zero (p : Int → Bool) (xs : List Int) : cnt p xs 0 = 0 := by simp [cnt]
theorem cnt_le (p : Int → Bool) (xs : List Int) (k : Nat) : cnt p xs k ≤ k := Nat.le_trans List.countP_le_length (List.length_take_le _ _)
theorem cnt_hit {p : Int → Bool} {xs : List Int} {k : Nat} (h : k < xs.length) (hp : p (rd xs k) = true) : cnt p xs (k + 1) = cnt p xs k + 1 := by
  unfold cnt
  rw [List.take_succ_eq_append_getElem h, List.countP_append, List.countP_singleton, ← rd_lt h, if_pos hp]
theorem cnt_miss {p : Int → Bool} {xs : List Int} {k : Nat} (h : k < xs.length) (hp : p (rd xs k) = false) : cnt p xs (k + 1) = cnt p xs k := by
  unfold cnt
  rw [List.take_succ_eq_append_getElem h, List.countP_append, List.countP_singleton, ← rd_lt h, if_neg (by simp [hp]), Nat.add_zero]
theorem cnt_all (p : Int → Bool) (xs : List Int) : cnt p xs xs.length = xs.countP p := by simp [cnt]
theorem cnt_cp (p : Int → Bool) (xs : List Int) : xs.countP p ≤ xs.length := List.countP_le_length
theorem Rd.le {w : World} {A : Option Addr} {n : Nat} {xs : List Int} (h : Rd w A n xs) : xs.length * 8 ≤ 140737488351232 := by rw [h.len]; exact h.bd
theorem below_drewN {B : Nat} {w W : World} (h : Below B w W) (n : Nat) : Below B w (W.drewN n) := ⟨h.os, h.tape, h.output, h.size, h.block⟩
theorem Rd.drewN {w : World} {A : Option Addr} {n : Nat} {xs : List Int} (h : Rd w A n xs) (m : Nat) : Rd (w.drewN m) A n xs := h.below (below_drewN (Below.refl _ _) m)
/-- Does x stand in xs? -/
def inB (xs : List Int) (x : Int) : Bool := xs.contains x
theorem inB_iff {xs : List Int} {x : Int} : inB xs x = true ↔ x ∈ xs := by unfold inB; simp
/-- Where x stands first; -1. -/
def idxOf (xs : List Int) (x : Int) : Int := if inB xs x then (xs.idxOf x : Int) else -1
theorem idxOf_hit (xs : List Int) (x : Int) (k : Nat) (hk : k < xs.length) (hx : rd xs k = x) (hb : ∀ j, j < k → rd xs j ≠ x) : idxOf xs x = k := by
  unfold idxOf
  have hk' : xs[k] = x := by rw [← hx, rd_lt hk]
  have hm : x ∈ xs := by rw [← hk']; exact List.getElem_mem _
  rw [if_pos (inB_iff.2 hm)]
  congr 1
  have h1 : xs.idxOf x < xs.length := List.idxOf_lt_length_of_mem hm
  have h2 : xs[xs.idxOf x] = x := List.getElem_idxOf h1
  have h3 : ¬ xs.idxOf x < k := fun h => hb _ h (by rw [rd_lt h1]; exact h2)
  have h4 : ¬ k < xs.idxOf x := fun h => by
    have := List.not_of_lt_findIdx (p := (· == x)) (xs := xs) h
    simp [hk'] at this
  omega
theorem idxOf_miss (xs : List Int) (x : Int) (hb : ∀ j, j < xs.length → rd xs j ≠ x) : idxOf xs x = -1 := by
  unfold idxOf
  rw [if_neg]
  rw [inB_iff]
  intro hm
  obtain ⟨i, hi, e⟩ := List.getElem_of_mem hm
  exact hb i hi (by rw [rd_lt hi]; exact e)
theorem idxOf_geq (xs : List Int) (x : Int) : decide (idxOf xs x ≥ 0) = inB xs x := by
  unfold idxOf
  cases h : inB xs x <;> simp
theorem blk_cell {w : World} {b o : Nat} {c : Array Value} {t : TypeId} {f : Nat × Nat} {v : Value} (h : w.heap[b]? = some (.cells c t f)) (hv : c[o]? = some v) : w.cell? ⟨b, o, none⟩ = some v := by simp [World.cell?, h, hv]
theorem blk_free {w : World} {b o : Nat} {c : Array Value} {t : TypeId} (h : w.heap[b]? = some (.cells c t (0, 0))) : w.frozen? ⟨b, o, none⟩ = false := by simp [World.frozen?, h]
theorem blk_set {w : World} {b o : Nat} {c : Array Value} {t : TypeId} {f : Nat × Nat} (v : Value) (h : w.heap[b]? = some (.cells c t f)) : (w.setCell ⟨b, o, none⟩ v).heap[b]? = some (.cells (c.setIfInBounds o v) t f) := by
  simp [World.setCell, Array.getElem?_modify, h]
theorem blk_new (w : World) (o : Obj) : (w.alloc o).heap[w.heap.size]? = some o := by
  show (w.heap.push o)[w.heap.size]? = _
  simp
theorem blk_old {w : World} {b : Nat} {x : Obj} (o : Obj) (h : w.heap[b]? = some x) : (w.alloc o).heap[b]? = some x := by
  rw [Below.heap_alloc _ _ _ (Array.getElem?_eq_some_iff.1 h).1, h]
theorem blk_new1 (w : World) (o1 o2 : Obj) : ((w.alloc o1).alloc o2).heap[w.heap.size + 1]? = some o2 := by
  have := blk_new (w.alloc o1) o2
  rwa [World.size_alloc] at this
def sorted (xs : List Int) : List Int := xs.mergeSort fun x y => decide (x ≤ y)
theorem sorted_length (xs : List Int) : (sorted xs).length = xs.length := by unfold sorted; exact List.length_mergeSort _
theorem sorted_perm (xs : List Int) : (sorted xs).Perm xs := List.mergeSort_perm _ _
theorem sorted_pair (xs : List Int) : (sorted xs).Pairwise (· ≤ ·) := by
  have := List.pairwise_mergeSort (le := fun x y : Int => decide (x ≤ y)) (fun a b c h1 h2 => by simp at *; omega) (fun a b => by simp; omega) xs
  exact this.imp (by intro a b h; simpa using h)
/-- An owned row of ints. -/
def Own (W : World) (base : Nat) (v : Value) (xs : List Int) : Prop := W.ownsRow base 3 1 v xs.length (xs.map (Value.int .i64))
theorem Own.nil (W : World) (base : Nat) : Own W base (.slice none 0 0) [] := World.ownsRow_nil _ _ _ _
theorem Own.alloc {W : World} {base : Nat} {v : Value} {xs : List Int} (h : Own W base v xs) (o : Obj) : Own (W.alloc o) base v xs := World.ownsRow.alloc h o
theorem Own.kept {W W' : World} {base : Nat} {v : Value} {xs : List Int} {r : Option Nat} (h : Own W base v xs) (hg : W.grownBy W' r) (hr : v.ownBlock ≠ r ∨ v.ownBlock = none) : Own W' base v xs := by
  refine World.ownsRow.kept h hg ?_
  rcases hr with hr | hr
  · cases r with
    | none => cases hv : v.ownBlock <;> simp
    | some k => cases hv : v.ownBlock with
      | none => simp
      | some b => simp; rintro rfl; exact hr hv
  · rw [hr]; simp
theorem Own.below {W W' : World} {base : Nat} {v : Value} {xs : List Int} (h : Own W base v xs) (hb : Below W.heap.size W W') : Own W' base v xs :=
  World.ownsRow.kept h (⟨hb.os, hb.tape, hb.output, hb.size, fun i hi _ => hb.block i hi⟩ : W.grownBy W' none) (by cases v.ownBlock <;> simp)
theorem Own.base_le {W : World} {base : Nat} {v : Value} {xs : List Int} (h : Own W base v xs) (k : Nat) (hk : v.ownBlock = some k) : base ≤ k := by
  unfold Own at h
  rcases h.2 with ⟨rfl, _⟩ | ⟨g, cap, cur, rfl, hb, _⟩
  · simp [Value.ownBlock] at hk
  · have : g = k := by simpa [Value.ownBlock] using hk
    omega
/-- Behind an append to an owned row. -/
theorem below_app {B base : Nat} {w0 wr w1 : World} {v : Value} {xs : List Int} {o : Obj} (hW : Below B w0 wr) (hsz : B ≤ wr.heap.size) (hown : Own wr base v xs) (hbase : B ≤ base) (hg : (wr.alloc o).grownBy w1 v.ownBlock) : Below B w0 w1 ∧ wr.heap.size + 1 ≤ w1.heap.size :=
  ⟨(hW.alloc hsz o).grown hg (by simp; omega) (fun k hk => Nat.le_trans hbase (hown.base_le k hk)), by have := hg.size; simpa using this⟩
/-- What an owned row reads as. -/
theorem Own.form {W : World} {base : Nat} {v : Value} {xs : List Int} (h : Own W base v xs) : ∃ A c, v = .slice A xs.length c ∧ (xs.length * 8 ≤ 140737488351232 → Rd W A xs.length xs) := by
  have h' := h
  unfold Own at h'
  rcases h'.2 with ⟨rfl, h0⟩ | ⟨g, cap, cur, rfl, hb, hh, h1, h2, h3, h4⟩
  · have : xs.length = 0 := by simpa using h0
    rw [this]
    exact ⟨none, 0, rfl, fun _ => ⟨this, by omega, fun h => absurd h (by omega)⟩⟩
  · refine ⟨_, cap, rfl, fun hbd => ⟨rfl, hbd, fun _ => ⟨g, 0, rfl, (Array.getElem?_eq_some_iff.1 hh).1, fun j hj => ?_⟩⟩⟩
    rw [Nat.zero_add]
    have := World.ownsRow.cellAt h' j (by omega)
    rw [this, rd_lt hj]
    simp [List.getElem?_eq_getElem hj]
theorem Try.info3' : (Try.prog.info? 3).map (fun i => (i.zero, i.size, i.bytes)) = some (some (.int .i64 0), 1, 8) := by kernel_rfl
/-- Two rows do not lie in one block. -/
def Dj (a b : Value) : Prop := a.ownBlock = none ∨ b.ownBlock = none ∨ a.ownBlock ≠ b.ownBlock
theorem Own.lt {W : World} {base : Nat} {v : Value} {xs : List Int} (h : Own W base v xs) (k : Nat) (hk : v.ownBlock = some k) : k < W.heap.size := by
  unfold Own at h
  rcases h.2 with ⟨rfl, _⟩ | ⟨g, cap, cur, rfl, hb, hh, _⟩
  · simp [Value.ownBlock] at hk
  · have : g = k := by simpa [Value.ownBlock] using hk
    subst this
    exact (Array.getElem?_eq_some_iff.1 hh).1
theorem Own.grow {W W' : World} {base : Nat} {v u : Value} {xs : List Int} (h : Own W base v xs) (hg : W.grownBy W' u.ownBlock) (hd : Dj v u) : Own W' base v xs := by
  refine World.ownsRow.kept h hg ?_
  rcases hd with h1 | h1 | h1
  · rw [h1]; simp
  · rw [h1]; cases v.ownBlock <;> simp
  · cases hu : u.ownBlock with
    | none => cases v.ownBlock <;> simp
    | some b => cases hv : v.ownBlock with
      | none => simp
      | some c => simp; rintro rfl; exact h1 (by rw [hv, hu])
theorem Dj.next {W : World} {base : Nat} {v u u' : Value} {xs : List Int} (h : Own W base v xs) (hd : Dj v u) (hu : u'.ownBlock = u.ownBlock ∨ ∃ b, u'.ownBlock = some b ∧ W.heap.size ≤ b) : Dj v u' := by
  rcases hu with hu | ⟨b, hu, hb⟩
  · unfold Dj; rw [hu]; exact hd
  · unfold Dj
    cases hv : v.ownBlock with
    | none => exact .inl rfl
    | some c =>
      right; right
      rw [hu]
      have := h.lt c hv
      intro e
      injection e
      omega
theorem Dj.symm {a b : Value} (h : Dj a b) : Dj b a := by
  rcases h with h | h | h
  · exact .inr (.inl h)
  · exact .inl h
  · exact .inr (.inr fun e => h e.symm)
theorem app_own {ops : Array Oper} {rest : List Oper} {o : Oper} {a : Act} {Q : Exit → Act → World → Prop} {W : World} (hgd : o.guard = none) (s x : Operand)
    (ho : o.op = .call { callee := .builtin .append, args := #[s, x], argTypes := #[22, 22] })
    (base : Nat) (v : Value) (xs : List Int) (y : Int) (hs : a.eval s = v) (hx : a.eval x = .slice (some ⟨W.heap.size, 0, none⟩) 1 1)
    (HO : Own W base v xs) (hbase : base ≤ W.heap.size) (hl : xs.length + 1 ≤ 17592186044416)
    (h : ∀ v1 w1, Own w1 base v1 (xs ++ [y]) → W.grownBy w1 v.ownBlock → (v1.ownBlock = v.ownBlock ∨ ∃ b, v1.ownBlock = some b ∧ W.heap.size ≤ b) → wpList Try.prog ops Q rest (a.put o.dst v1) w1) :
    wpList Try.prog ops Q (o :: rest) a (W.alloc (.cells #[.int .i64 y] 3)) := by
  obtain ⟨i0, hi, hz0, hz1, hz2⟩ := info_parts Try.info3'
  refine wpList_append_own_at (W.alloc (.cells #[.int .i64 y] 3)) hgd s x 22 ho base 3 i0 (.int .i64 0) 1 8 Try.underlying22 hi hz0 hz1 hz2 rfl (by omega) v xs.length _ hs (World.ownsRow.alloc HO _) ⟨W.heap.size, 0, none⟩ 1 1 [.int .i64 y] hx rfl
    ?_ (by intro u hu; simp at hu; subst hu; rfl) (by unfold maxLen; omega) (by omega) (by simp; omega) ?_
  · intro j u hj
    match j, hj with
    | 0, hj => simp at hj; subst hj; simp [Addr.add]
  · intro v1 w1 hown hg _ hat
    refine h v1 w1 ?_ (World.grownBy.trans (World.grownBy_alloc W _ _) hg) ?_
    · unfold Own; simpa using hown
    · rcases hat with hat | hat
      · exact .inl hat
      · exact .inr ⟨_, hat, by simp⟩
theorem below_own {B base : Nat} {w0 wr w1 : World} {v : Value} {xs : List Int} (hW : Below B w0 wr) (hsz : B ≤ wr.heap.size) (hown : Own wr base v xs) (hbase : B ≤ base) (hg : wr.grownBy w1 v.ownBlock) : Below B w0 w1 :=
  hW.grown hg hsz (fun k hk => Nat.le_trans hbase (hown.base_le k hk))
theorem app_rd {ops : Array Oper} {rest : List Oper} {o : Oper} {a : Act} {Q : Exit → Act → World → Prop} {W : World} (hgd : o.guard = none) (s x : Operand)
    (ho : o.op = .call { callee := .builtin .append, args := #[s, x], argTypes := #[22, 22] })
    (base : Nat) (v : Value) (xs : List Int) (A : Option Addr) (n c : Nat) (ys : List Int) (hs : a.eval s = v) (hx : a.eval x = .slice A n c)
    (HO : Own W base v xs) (HR : Rd W A n ys) (hnil : A = none → c = 0) (hbase : base ≤ W.heap.size) (hl : xs.length + ys.length ≤ 17592186044416)
    (h : ∀ v1 w1, Own w1 base v1 (xs ++ ys) → W.grownBy w1 v.ownBlock → (v1.ownBlock = v.ownBlock ∨ ∃ b, v1.ownBlock = some b ∧ W.heap.size ≤ b) → wpList Try.prog ops Q rest (a.put o.dst v1) w1) :
    wpList Try.prog ops Q (o :: rest) a W := by
  obtain ⟨i0, hi, hz0, hz1, hz2⟩ := info_parts Try.info3'
  have hyl := HR.len
  cases A with
  | none =>
    obtain rfl := hnil rfl
    have hn : n = 0 := by
      rcases Nat.eq_zero_or_pos n with h0 | h0
      · exact h0
      · obtain ⟨b, o', e, _⟩ := HR.cells h0
        cases e
    subst hn
    have hy : ys = [] := List.eq_nil_of_length_eq_zero hyl
    subst hy
    refine wpList_append_own_none hgd s x 22 ho base 3 i0 1 Try.underlying22 hi v xs.length _ hs HO hx ?_
    have := h v W (by simpa using HO) (World.grownBy.refl _ _) (.inl rfl)
    exact this
  | some ad =>
    refine wpList_append_own_at W hgd s x 22 ho base 3 i0 (.int .i64 0) 1 8 Try.underlying22 hi hz0 hz1 hz2 rfl (by omega) v xs.length _ hs HO ad n c (ys.map (Value.int .i64)) hx (by simp [hyl]) ?_ (by intro u hu; simp at hu; obtain ⟨y, _, rfl⟩ := hu; rfl) (by unfold maxLen; omega) (by omega) hbase ?_
    · intro j u hj
      have hjl : j < ys.length := by
        have := (List.getElem?_eq_some_iff.1 hj).1
        simpa using this
      obtain ⟨b, o', e, hlt, hc⟩ := HR.get (k := j) (by omega)
      cases e
      have e2 : (⟨b, o', none⟩ : Addr).add j = ⟨b, o' + j, none⟩ := by unfold Addr.add; split <;> simp_all
      rw [e2, hc, rd_lt hjl]
      rw [List.getElem?_map, List.getElem?_eq_getElem hjl] at hj
      simpa using hj
    · intro v1 w1 hown hg _ hat
      refine h v1 w1 ?_ hg ?_
      · unfold Own
        rw [List.length_append, List.map_append, hyl]
        exact hown
      · rcases hat with hat | hat
        · exact .inl hat
        · exact .inr ⟨_, hat, Nat.le_refl _⟩
theorem own_empty (W : World) : Own (W.alloc (.cells #[] 3)) W.heap.size (.slice (some ⟨W.heap.size, 0, none⟩) 0 0) [] := by
  have hh : (W.alloc (.cells #[] 3)).heap[W.heap.size]? = some (.cells #[] 3) := by
    show (W.heap.push _)[W.heap.size]? = _
    simp
  exact ⟨by simp, .inr ⟨_, 0, #[], rfl, Nat.le_refl _, hh, by simp, by unfold maxLen; omega, by simp, by simp⟩⟩
theorem Own.pre {W : World} {base g n cap : Nat} {xs ys : List Int} (h : Own W base (.slice (some ⟨g, 0, none⟩) n cap) (xs ++ ys)) : Own W base (.slice (some ⟨g, 0, none⟩) xs.length cap) xs := by
  unfold Own at *
  rcases h.2 with ⟨h0, _⟩ | ⟨g', cap', cur, hv, hb, hh, h1, h2, h3, h4⟩
  · cases h0
  · cases hv
    refine ⟨by simp, .inr ⟨g, cap, cur, rfl, hb, hh, by simp at h1; omega, h2, h3, ?_⟩⟩
    rw [Nat.mul_one] at h4 ⊢
    have : cur.toList.take xs.length = (cur.toList.take (xs ++ ys).length).take xs.length := by
      rw [List.take_take, Nat.min_eq_left (by simp)]
    rw [this, h4, List.map_append]
    simp
theorem rd_take {xs : List Int} {k j : Nat} (h : j < k) : rd (xs.take k) j = rd xs j := by
  unfold rd; rw [List.getD_eq_getElem?_getD, List.getD_eq_getElem?_getD, List.getElem?_take, if_pos h]
theorem rd_drop {xs : List Int} {k j : Nat} : rd (xs.drop k) j = rd xs (k + j) := by
  unfold rd; rw [List.getD_eq_getElem?_getD, List.getD_eq_getElem?_getD, List.getElem?_drop]
theorem Rd.take {w : World} {A : Option Addr} {n : Nat} {xs : List Int} (h : Rd w A n xs) {k : Nat} (hk : k ≤ n) : Rd w A k (xs.take k) :=
  ⟨by rw [List.length_take, h.len]; omega, by have := h.bd; omega, fun h0 => by
    obtain ⟨b, o, e, hlt, hc⟩ := h.cells (by omega)
    exact ⟨b, o, e, hlt, fun j hj => by rw [rd_take hj]; exact hc j (by omega)⟩⟩
theorem Rd.drop {w : World} {A : Option Addr} {n c : Nat} {xs : List Int} (h : Rd w A n xs) {k : Nat} (hk : k ≤ n) (hc : n ≤ c) : Rd w (if c = k then A else A.map (·.add k)) (n - k) (xs.drop k) :=
  ⟨by rw [List.length_drop, h.len], by have := h.bd; omega, fun h0 => by
    obtain ⟨b, o, e, hlt, hcl⟩ := h.cells (by omega)
    refine ⟨b, o + k, ?_, hlt, fun j hj => by rw [rd_drop, Nat.add_assoc]; exact hcl (k + j) (by omega)⟩
    rw [if_neg (by omega), e]
    simp [Addr.add]⟩
theorem Rd.drop_some {w : World} {b o n : Nat} {xs : List Int} (h : Rd w (some ⟨b, o, none⟩) n xs) {k : Nat} (hk : k ≤ n) : Rd w (some ⟨b, o + k, none⟩) (n - k) (xs.drop k) :=
  ⟨by rw [List.length_drop, h.len], by have := h.bd; omega, fun h0 => by
    obtain ⟨b', o', e, hlt, hcl⟩ := h.cells (by omega)
    cases e
    exact ⟨b, o + k, rfl, hlt, fun j hj => by rw [rd_drop, Nat.add_assoc]; exact hcl (k + j) (by omega)⟩⟩
theorem none_drop {A : Option Addr} {c k : Nat} (h : A = none → c = 0) : (if c = k then A else A.map (·.add k)) = none → c - k = 0 := by
  intro e
  have : A = none := by
    split at e
    · exact e
    · simpa using e
  rw [h this]; omega
theorem Own.relax {W : World} {base base' : Nat} {v : Value} {xs : List Int} (h : Own W base v xs) (hb : base' ≤ base) : Own W base' v xs := by
  unfold Own at *
  refine ⟨h.1, ?_⟩
  rcases h.2 with h1 | ⟨g, cap, cur, hv, h2, r⟩
  · exact .inl h1
  · exact .inr ⟨g, cap, cur, hv, Nat.le_trans hb h2, r⟩
theorem Own.form3 {W : World} {base : Nat} {v : Value} {xs : List Int} (h : Own W base v xs) (hb : xs.length * 8 ≤ 140737488351232) : ∃ A c, v = .slice A xs.length c ∧ (A = none → c = 0) ∧ xs.length ≤ c ∧ c < 9223372036854775808 ∧ Rd W A xs.length xs := by
  obtain ⟨A, c, hv, hr⟩ := h.form
  have h' := h
  unfold Own at h'
  rcases h'.2 with ⟨h1, h0⟩ | ⟨g, cap, cur, h1, _, _, h2, h3, h4, _⟩
  · have : xs.length = 0 := by simpa using h0
    rw [h1, this] at hv
    cases hv
    exact ⟨none, 0, by rw [h1, this], fun _ => rfl, by omega, by omega, hr hb⟩
  · rw [h1] at hv
    cases hv
    refine ⟨_, _, h1, (fun e => by cases e), by simpa using h2, by unfold maxLen at h3; omega, hr hb⟩
theorem other_block (w : World) (p : Addr) (v : Value) {i : Nat} (h : i ≠ p.block) : (w.setCell p v).heap[i]? = w.heap[i]? := by
  simp [World.setCell, Array.getElem?_modify, Ne.symm h]
theorem cell_other (w : World) (p q : Addr) (v : Value) (h : q.block ≠ p.block) : (w.setCell p v).cell? q = w.cell? q := by
  unfold World.cell?
  rw [other_block w p v h]
theorem size_set (w : World) (p : Addr) (v : Value) : (w.setCell p v).heap.size = w.heap.size := by simp [World.setCell]
theorem Rd.box {W : World} {A : Option Addr} {n : Nat} {xs : List Int} {b : Nat} {s t : Value} {f : Nat × Nat} {T : TypeId} (h : Rd W A n xs) (hb : W.heap[b]? = some (.cells #[s, t] T f)) (hs : ∀ k x, s ≠ .int k x) (ht : ∀ k x, t ≠ .int k x) (o : Nat) (v : Value) : Rd (W.setCell ⟨b, o, none⟩ v) A n xs :=
  ⟨h.len, h.bd, fun hn => by
    obtain ⟨b', o', e, hlt, hc⟩ := h.cells hn
    have hne : b' ≠ b := by
      rintro rfl
      have := hc 0 hn
      simp only [World.cell?, hb, Nat.add_zero] at this
      match o', this with
      | 0, this => simp at this; exact hs _ _ this
      | 1, this => simp at this; exact ht _ _ this
      | q + 2, this => simp at this
    exact ⟨b', o', e, by rw [size_set]; exact hlt, fun j hj => by rw [cell_other _ _ _ _ hne]; exact hc j hj⟩⟩
/-- A row that may be written. -/
def Wr (W : World) (B : Nat) (A : Option Addr) (m : Nat) : Prop := 0 < m → ∃ g cur, A = some ⟨g, 0, none⟩ ∧ B ≤ g ∧ W.heap[g]? = some (.cells cur 3 (0, 0)) ∧ m ≤ cur.size
theorem Own.wr {W : World} {base n c : Nat} {A : Option Addr} {xs : List Int} (h : Own W base (.slice A n c) xs) (hn : n = xs.length) : Wr W base A n := by
  intro h0
  unfold Own at h
  rcases h.2 with ⟨h1, h2⟩ | ⟨g, cap, cur, h1, h2, h3, h4, _, h5, _⟩
  · have : xs.length = 0 := by simpa using h2
    omega
  · cases h1
    exact ⟨g, cur, rfl, h2, h3, by simp at h4 h5; omega⟩
def eqB (xs ys : List Int) : Bool := decide (xs = ys)
theorem eqB_len {xs ys : List Int} (h : xs.length ≠ ys.length) : eqB xs ys = false := by
  unfold eqB
  rw [decide_eq_false_iff_not]
  rintro rfl
  exact h rfl
theorem eqB_part {xs ys : List Int} {k : Nat} (h : rd xs k ≠ rd ys k) : eqB xs ys = false := by
  unfold eqB
  rw [decide_eq_false_iff_not]
  rintro rfl
  exact h rfl
theorem eqB_all {xs ys : List Int} (hl : xs.length = ys.length) (h : ∀ k, k < xs.length → rd xs k = rd ys k) : eqB xs ys = true := by
  unfold eqB
  rw [decide_eq_true_eq]
  apply List.ext_getElem hl
  intro i h1 h2
  have := h i h1
  rw [rd_lt h1, rd_lt h2] at this
  exact this
theorem eqB_refl (xs : List Int) : eqB xs xs = true := by simp [eqB]
/-- The first k without y. -/
def wo (xs : List Int) (y : Int) (k : Nat) : List Int := (xs.take k).filter (fun x => x != y)
theorem wo_hit {xs : List Int} {y : Int} {k : Nat} (h : k < xs.length) (hx : (rd xs k == y) = true) : wo xs y (k + 1) = wo xs y k := by
  unfold wo
  rw [List.take_succ_eq_append_getElem h, List.filter_append, ← rd_lt h]
  have : rd xs k = y := by simpa using hx
  simp [this]
theorem wo_miss {xs : List Int} {y : Int} {k : Nat} (h : k < xs.length) (hx : (rd xs k == y) = false) : wo xs y (k + 1) = wo xs y k ++ [rd xs k] := by
  unfold wo
  rw [List.take_succ_eq_append_getElem h, List.filter_append, ← rd_lt h]
  have : ¬ rd xs k = y := by simpa using hx
  simp [this]
theorem wo_le (xs : List Int) (y : Int) (k : Nat) : (wo xs y k).length ≤ k := by
  unfold wo
  exact Nat.le_trans (List.length_filter_le _ _) (List.length_take_le _ _)
theorem wo_all (xs : List Int) (y : Int) : wo xs y xs.length = xs.filter (fun x => x != y) := by unfold wo; rw [List.take_length]
theorem wo_none {xs : List Int} {y : Int} {k : Nat} (hk : k ≤ xs.length) (h : ∀ j, j < k → rd xs j ≠ y) : wo xs y k = xs.take k := by
  unfold wo
  rw [List.filter_eq_self]
  intro a ha
  obtain ⟨j, hj, he⟩ := List.mem_iff_getElem.1 ha
  rw [List.length_take] at hj
  have := h j (by omega)
  rw [rd_lt (by omega)] at this
  rw [List.getElem_take] at he
  rw [← he]
  simpa using this
theorem rd_append_left {xs ys : List Int} {k : Nat} (h : k < xs.length) : rd (xs ++ ys) k = rd xs k := by
  unfold rd; rw [List.getD_eq_getElem?_getD, List.getD_eq_getElem?_getD, List.getElem?_append_left h]
theorem rd_append_last {xs : List Int} {y : Int} : rd (xs ++ [y]) xs.length = y := by
  unfold rd; rw [List.getD_eq_getElem?_getD, List.getElem?_append_right (Nat.le_refl _)]; simp
theorem grown_set {w wr : World} {g : Nat} (h : w.grownBy wr (some g)) (o : Nat) (v : Value) : w.grownBy (wr.setCell ⟨g, o, none⟩ v) (some g) :=
  ⟨h.os, h.tape, h.output, by rw [size_set]; exact h.size, fun k hk hne => by
    rw [other_block _ _ _ (by intro e; exact hne (by rw [e]))]
    exact h.block k hk hne⟩
theorem grown_sets {w : World} {g : Nat} (vs : List Value) : ∀ {wr : World} (o : Nat), w.grownBy wr (some g) → w.grownBy (wr.setCells g o vs) (some g) := by
  induction vs with
  | nil => intro wr o h; exact h
  | cons v vs ih => intro wr o h; exact ih (o + 1) (grown_set h o v)
theorem block_sets {g : Nat} {t : TypeId} (vs : List Value) : ∀ {wr : World} {cur : Array Value} (o : Nat), wr.heap[g]? = some (.cells cur t (0, 0)) → ∃ cur', (wr.setCells g o vs).heap[g]? = some (.cells cur' t (0, 0)) ∧ cur'.size = cur.size ∧ ∀ q, q < o → cur'[q]? = cur[q]? := by
  induction vs with
  | nil => intro wr cur o h; exact ⟨cur, h, rfl, fun _ _ => rfl⟩
  | cons v vs ih =>
    intro wr cur o h
    obtain ⟨c', h1, h2, h3⟩ := ih (o + 1) (blk_set (o := o) v h)
    exact ⟨c', h1, by rw [h2]; simp, fun q hq => by rw [h3 q (by omega), Array.getElem?_setIfInBounds, if_neg (by omega)]⟩


end Go.Proofs.Ytnkgagbobihnnaa
