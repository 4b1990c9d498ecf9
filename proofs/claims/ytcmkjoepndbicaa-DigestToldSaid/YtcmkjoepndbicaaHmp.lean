/-
  A map from keys to places that the call has made.
-/
import Derived.Test.YtcmkjoepndbicaaUnk
import Derived.Maps.OwnSet
import Derived.StringKeys
namespace Go.Proofs.Ytcmkjoepndbicaa
open Go Go.RowKit
attribute [local go_sem ↓] Go.wp_at_zero Go.wp_at_succ

theorem Try.key9 : Maps.Keyed Try.prog 9 := Maps.string_keyed Try.underlying9
def kL (s : ByteArray) : Lit := .string s.data.toList
theorem kL_inj {s t : ByteArray} (h : kL s = kL t) : s = t := by
  unfold kL at h
  injection h with h
  cases s; cases t
  congr 1
  exact Array.ext' h
def RV (v : Value) : Option (DataW Value × List MemPlace) := some (.held v, [])
/-- Block b is a map: each key of S to its place. -/
def GI (w : World) (b n : Nat) (S : List (List UInt8)) : Prop :=
  ∃ D : DataW Value, w.ownsMap Try.prog 9 RV b n D ∧ ∀ s : ByteArray, s.size ≤ maxLen → Maps.has D (kL s) = decide (s.data.toList ∈ S) ∧ ∀ z, D.atKey (kL s) z = if s.data.toList ∈ S then .held (.int .i64 (S.idxOf s.data.toList : Int)) else z
theorem GI.made (w : World) : GI (w.alloc (.map #[] 0)) w.heap.size 0 [] := ⟨_, World.ownsMap_made _ _ _ _, fun s _ => ⟨by simp; rfl, fun z => by simp; rfl⟩⟩
theorem GI.kept {w w' : World} {b n : Nat} {S : List (List UInt8)} {r : Option Nat} (h : GI w b n S) (hg : w.grownBy w' r) (hne : some b ≠ r) : GI w' b n S := by
  obtain ⟨D, h1, h2⟩ := h
  exact ⟨D, h1.kept hg hne, h2⟩
theorem GI.lt {w : World} {b n : Nat} {S : List (List UInt8)} (h : GI w b n S) : b < w.heap.size := by obtain ⟨D, h1, _⟩ := h; exact h1.lt
theorem GI.below {w w' : World} {b n : Nat} {S : List (List UInt8)} (h : GI w b n S) (hb : Below w.heap.size w w') : GI w' b n S := h.kept (⟨hb.os, hb.tape, hb.output, hb.size, fun i hi _ => hb.block i hi⟩ : w.grownBy w' none) (by simp)
theorem wpList_gi_put {ops : Array Oper} {rest : List Oper} {o : Oper} {a : Act} {Q : Exit → Act → World → Prop} (w : World) (hg : o.guard = none) (m x v : Operand) (hop : o.op = Op.mapUpdate 93 m x v)
    (b n : Nat) (S : List (List UInt8)) (y : ByteArray) (hm : a.eval m = .map (some b)) (h : GI w b n S) (hx : a.eval x = .string y) (hv : a.eval v = .int .i64 (S.length : Int)) (hs : y.size ≤ maxLen) (hn : n ≤ 1000000000) (hy : y.data.toList ∉ S)
    (hK : ∀ w1, GI w1 b (n + 1) (S ++ [y.data.toList]) → w.grownBy w1 (some b) → wpList Try.prog ops Q rest (a.put o.dst undef) w1) : wpList Try.prog ops Q (o :: rest) a w := by
  obtain ⟨D, h1, h2⟩ := h
  have hI : Maps.IsMap D := by obtain ⟨es, cl, _, _, _, rfl⟩ := h1; exact ⟨_, rfl⟩
  have hkey : keyOf Try.prog 9 (.string y) = some (kL y) := WideMaps.keyOf_string_mk Try.underlying9 hs
  refine wpList_mapUpdate_own w hg m x v 93 hop 9 3 Try.key9 Try.underlying93 RV b n D hm h1 (by unfold maxLen; omega) _ _ _ hx hv hkey (.held (.int .i64 (S.length : Int))) [] rfl ?_
  intro w1 ho hgr
  refine hK w1 ⟨_, ho, fun t ht => ?_⟩ hgr
  by_cases e : t = y
  · subst e
    refine ⟨by rw [Maps.has_put_same hI (Try.key9.key hkey) _]; simp, fun z => ?_⟩
    rw [Maps.atKey_put_same hI (Try.key9.key hkey) _ _, if_pos (by simp), List.idxOf_append, if_neg hy]
    simp
  · have hne : kL t ≠ kL y := fun h => e (kL_inj h)
    obtain ⟨g1, g2⟩ := h2 t ht
    have hne2 : ¬ t.data.toList = y.data.toList := fun h => hne (by unfold kL; rw [h])
    refine ⟨by rw [Maps.has_put_other hne, g1]; simp [hne2], fun z => ?_⟩
    rw [Maps.atKey_put_other hne, g2 z]
    by_cases hm : t.data.toList ∈ S
    · rw [if_pos hm, if_pos (List.mem_append_left _ hm), List.idxOf_append, if_pos hm]
    · rw [if_neg hm, if_neg (by simp [hm, hne2])]
theorem wpList_gi_get {ops : Array Oper} {rest : List Oper} {o : Oper} {a : Act} {Q : Exit → Act → World → Prop} (w : World) (hg : o.guard = none) (m x : Operand) (hop : o.op = Op.lookup 93 m x true)
    (b n : Nat) (S : List (List UInt8)) (s : ByteArray) (hm : a.eval m = .map (some b)) (h : GI w b n S) (hx : a.eval x = .string s) (hs : s.size ≤ maxLen)
    (hK : wpList Try.prog ops Q rest (a.put o.dst (.tuple #[.int .i64 (if s.data.toList ∈ S then (S.idxOf s.data.toList : Int) else 0), .bool (decide (s.data.toList ∈ S))])) w) : wpList Try.prog ops Q (o :: rest) a w := by
  obtain ⟨D, h1, h2⟩ := h
  have hkey : keyOf Try.prog 9 (.string s) = some (kL s) := WideMaps.keyOf_string_mk Try.underlying9 hs
  obtain ⟨g1, g2⟩ := h2 s hs
  refine wpList_lookup_own_ok w hg m x 93 hop 9 3 Try.key9 Try.underlying93 RV (Try.zeroValue3 w) _ [] rfl b n D hm h1 _ _ hx hkey ?_
  intro v ps hv
  rw [g2] at hv
  unfold RV at hv
  rw [g1]
  by_cases hmem : s.data.toList ∈ S
  · rw [if_pos hmem] at hv hK
    injection hv with hv
    injection hv with hv _
    injection hv with hv
    subst hv
    exact hK
  · rw [if_neg hmem] at hv hK
    injection hv with hv
    injection hv with hv _
    injection hv with hv
    subst hv
    exact hK
end Go.Proofs.Ytcmkjoepndbicaa
