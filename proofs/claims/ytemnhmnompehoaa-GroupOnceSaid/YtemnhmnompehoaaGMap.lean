/-
  A map from names to groups that the call has made.
-/
import Derived.Test.YtemnhmnompehoaaOnce
import Derived.Maps.OwnSet
import Derived.StringKeys
namespace Go.Proofs.Ytemnhmnompehoaa
open Go Go.RowKit
attribute [local go_sem ↓] Go.wp_at_zero Go.wp_at_succ

theorem Try.key9 : Maps.Keyed Try.prog 9 := Maps.string_keyed Try.underlying9
def kL (s : ByteArray) : Lit := .string s.data.toList
theorem kL_inj {s t : ByteArray} (h : kL s = kL t) : s = t := by
  unfold kL at h
  injection h with h
  cases s; cases t
  congr 1
  exact Array.ext' h
/-- An element reads as itself. -/
def RV (v : Value) : Option (DataW Value × List MemPlace) := some (.held v, [])
def zv : Gv := ⟨⟨⟨#[]⟩, 0, 0, 0, [], [], []⟩, none, 0, none, 0, none, 0⟩
/-- Block b is a map of groups of S, each by its name. -/
def GM (w : World) (b n : Nat) (S : List Gv) : Prop :=
  ∃ D : DataW Value, w.ownsMap Try.prog 9 RV b n D ∧ ∀ s : ByteArray, s.size ≤ maxLen → (Maps.has D (kL s) = false ∧ ∀ z, D.atKey (kL s) z = z) ∨ (Maps.has D (kL s) = true ∧ ∃ y ∈ S, y.x.name = s ∧ ∀ z, D.atKey (kL s) z = .held y.val)
theorem GM.made (w : World) : GM (w.alloc (.map #[] 0)) w.heap.size 0 [] := ⟨_, World.ownsMap_made _ _ _ _, fun _ _ => .inl ⟨rfl, fun _ => rfl⟩⟩
theorem GM.lt {w : World} {b n : Nat} {S : List Gv} (h : GM w b n S) : b < w.heap.size := by obtain ⟨D, h1, _⟩ := h; exact h1.lt
theorem GM.kept {w w' : World} {b n : Nat} {S : List Gv} {r : Option Nat} (h : GM w b n S) (hg : w.grownBy w' r) (hne : some b ≠ r) : GM w' b n S := by
  obtain ⟨D, h1, h2⟩ := h
  exact ⟨D, h1.kept hg hne, h2⟩
theorem GM.below {w w' : World} {b n : Nat} {S : List Gv} (h : GM w b n S) (hb : Below w.heap.size w w') : GM w' b n S := h.kept (grown_none hb) (by simp)
theorem GM.mono {w : World} {b n m : Nat} {S : List Gv} (h : GM w b n S) (hn : n ≤ m) : GM w b m S := by
  obtain ⟨D, h1, h2⟩ := h
  exact ⟨D, h1.mono hn, h2⟩
def MapB (w : World) (b : Nat) : Prop := ∃ es cl, w.heap[b]? = some (.map es cl)
theorem GM.blk {w : World} {b n : Nat} {S : List Gv} (h : GM w b n S) : MapB w b := by
  obtain ⟨D, ⟨es, cl, hb, _⟩, _⟩ := h
  exact ⟨es, cl, hb⟩
theorem MapB.ne {w : World} {b g : Nat} {c : Array Value} {T : TypeId} {f : Nat × Nat} (h : MapB w b) (hg : w.heap[g]? = some (.cells c T f)) : g ≠ b := by
  rintro rfl
  obtain ⟨es, cl, hb⟩ := h
  rw [hb] at hg
  cases hg
theorem Rd.bymap {w w' : World} {A : Option Addr} {n : Nat} {xs : List Int} {b : Nat} (h : Rd w A n xs) (hb : MapB w b) (hg : w.grownBy w' (some b)) : Rd w' A n xs :=
  h.grown hg (fun hn b' o' e => by
    obtain ⟨b2, o, e2, hlt, hc⟩ := h.cells hn
    rw [e] at e2
    cases e2
    rintro rfl
    obtain ⟨es, cl, hb⟩ := hb
    have := hc 0 hn
    simp [World.cell?, hb] at this)
theorem GOk.bymap {w w' : World} {g : Gv} {b : Nat} (h : GOk w g) (hb : MapB w b) (hg : w.grownBy w' (some b)) : GOk w' g :=
  ⟨h.m.bymap hb hg, h.o.bymap hb hg, h.t.bymap hb hg, h.nm, h.no, h.nt, h.lm, h.lo, h.lt⟩
theorem RG.bymap {w w' : World} {A : Option Addr} {n : Nat} {l : List Gv} {b : Nat} (h : RG w A n l) (hb : MapB w b) (hg : w.grownBy w' (some b)) : RG w' A n l :=
  ⟨h.len, h.bd, fun hn => by
    obtain ⟨g, cur, e, h2, h3, h4, h5⟩ := h.row hn
    exact ⟨g, cur, e, Nat.lt_of_lt_of_le h2 hg.size, (hg.block g h2 (by intro e; cases e; exact hb.ne h3 rfl)).trans h3, h4, h5⟩⟩
theorem Gs.bymap {w w' : World} {p : Nat} {A : Option Addr} {c : Nat} {l : List Gv} {b : Nat} (h : Gs w p A c l) (hb : MapB w b) (hg : w.grownBy w' (some b)) : Gs w' p A c l :=
  ⟨(hg.block p h.lt (by intro e; cases e; exact hb.ne h.cell rfl)).trans h.cell, h.row.bymap hb hg, h.nil, fun x hx => (h.ok x hx).bymap hb hg⟩
theorem wpList_gm_put {ops : Array Oper} {rest : List Oper} {o : Oper} {a : Act} {Q : Exit → Act → World → Prop} (w : World) (hg : o.guard = none) (m x v : Operand) (hop : o.op = Op.mapUpdate 52 m x v)
    (b n : Nat) (S : List Gv) (y : Gv) (hm : a.eval m = .map (some b)) (h : GM w b n S) (hx : a.eval x = .string y.x.name)
    (hv : a.eval v = .agg #[.string y.x.name, .int .i64 y.x.sub, .int .i64 y.x.term, .int .i64 y.x.next, .slice y.mA y.x.mem.length y.mc, .slice y.oA y.x.own.length y.oc, .slice y.tA y.x.att.length y.tc]) (hs : y.x.name.size ≤ maxLen) (hn : n ≤ 1000000000)
    (hK : ∀ w1, GM w1 b (n + 1) (S ++ [y]) → w.grownBy w1 (some b) → wpList Try.prog ops Q rest (a.put o.dst undef) w1) : wpList Try.prog ops Q (o :: rest) a w := by
  obtain ⟨D, h1, h2⟩ := h
  have hI : Maps.IsMap D := by obtain ⟨es, cl, _, _, _, rfl⟩ := h1; exact ⟨_, rfl⟩
  have hkey : keyOf Try.prog 9 (.string y.x.name) = some (kL y.x.name) := WideMaps.keyOf_string_mk Try.underlying9 hs
  refine wpList_mapUpdate_own w hg m x v 52 hop 9 51 Try.key9 Try.underlying52 RV b n D hm h1 (by unfold maxLen; omega) _ _ _ hx hv hkey (.held y.val) [] rfl ?_
  intro w1 ho hgr
  refine hK w1 ⟨_, ho, fun t ht => ?_⟩ hgr
  by_cases e : t = y.x.name
  · subst e
    exact .inr ⟨Maps.has_put_same hI (Try.key9.key hkey) _, y, List.mem_append_right _ (by simp), rfl, fun z => Maps.atKey_put_same hI (Try.key9.key hkey) _ _⟩
  · have hne : kL t ≠ kL y.x.name := fun h => e (kL_inj h)
    rcases h2 t ht with ⟨g1, g2⟩ | ⟨g1, y', g2, g3, g4⟩
    · exact .inl ⟨by rw [Maps.has_put_other hne]; exact g1, fun z => by rw [Maps.atKey_put_other hne]; exact g2 z⟩
    · exact .inr ⟨by rw [Maps.has_put_other hne]; exact g1, y', List.mem_append_left _ g2, g3, fun z => by rw [Maps.atKey_put_other hne]; exact g4 z⟩
/-- What a map of groups has at a name. -/
def At (w : World) (b : Nat) (s : ByteArray) (r : Option Gv) : Prop := ∃ (n : Nat) (D : DataW Value), w.ownsMap Try.prog 9 RV b n D ∧ Maps.has D (kL s) = r.isSome ∧ ∀ z, D.atKey (kL s) z = match r with | none => z | some y => .held y.val
theorem GM.at_ {w : World} {b n : Nat} {S : List Gv} (h : GM w b n S) {s : ByteArray} (hs : s.size ≤ maxLen) : At w b s none ∨ ∃ y ∈ S, y.x.name = s ∧ At w b s (some y) := by
  obtain ⟨D, h1, h2⟩ := h
  rcases h2 s hs with ⟨g1, g2⟩ | ⟨g1, y, g2, g3, g4⟩
  · exact .inl ⟨n, D, h1, g1, g2⟩
  · exact .inr ⟨y, g2, g3, n, D, h1, g1, g4⟩
theorem wpList_gm_no {ops : Array Oper} {rest : List Oper} {o : Oper} {a : Act} {Q : Exit → Act → World → Prop} (w : World) (hg : o.guard = none) (m x : Operand) (hop : o.op = Op.lookup 52 m x true)
    (b : Nat) (s : ByteArray) (hm : a.eval m = .map (some b)) (h : At w b s none) (hx : a.eval x = .string s) (hs : s.size ≤ maxLen)
    (hK : wpList Try.prog ops Q rest (a.put o.dst (.tuple #[.agg #[.string ⟨#[]⟩, .int .i64 0, .int .i64 0, .int .i64 0, .slice none 0 0, .slice none 0 0, .slice none 0 0], .bool false])) w) : wpList Try.prog ops Q (o :: rest) a w := by
  obtain ⟨n, D, h1, h2, h3⟩ := h
  have hkey : keyOf Try.prog 9 (.string s) = some (kL s) := WideMaps.keyOf_string_mk Try.underlying9 hs
  refine wpList_lookup_own_ok w hg m x 52 hop 9 51 Try.key9 Try.underlying52 RV (zero51 w) _ [] rfl b n D hm h1 _ _ hx hkey ?_
  intro v ps hv
  rw [h3] at hv
  unfold RV at hv
  injection hv with hv
  injection hv with hv _
  injection hv with hv
  subst hv
  rw [h2]
  exact hK
theorem wpList_gm_get {ops : Array Oper} {rest : List Oper} {o : Oper} {a : Act} {Q : Exit → Act → World → Prop} (w : World) (hg : o.guard = none) (m x : Operand) (hop : o.op = Op.lookup 52 m x true)
    (b : Nat) (s : ByteArray) (y : Gv) (hm : a.eval m = .map (some b)) (h : At w b s (some y)) (hx : a.eval x = .string s) (hs : s.size ≤ maxLen)
    (hK : wpList Try.prog ops Q rest (a.put o.dst (.tuple #[.agg #[.string y.x.name, .int .i64 y.x.sub, .int .i64 y.x.term, .int .i64 y.x.next, .slice y.mA y.x.mem.length y.mc, .slice y.oA y.x.own.length y.oc, .slice y.tA y.x.att.length y.tc], .bool true])) w) : wpList Try.prog ops Q (o :: rest) a w := by
  obtain ⟨n, D, h1, h2, h3⟩ := h
  have hkey : keyOf Try.prog 9 (.string s) = some (kL s) := WideMaps.keyOf_string_mk Try.underlying9 hs
  refine wpList_lookup_own_ok w hg m x 52 hop 9 51 Try.key9 Try.underlying52 RV (zero51 w) _ [] rfl b n D hm h1 _ _ hx hkey ?_
  intro v ps hv
  rw [h3] at hv
  unfold RV at hv
  injection hv with hv
  injection hv with hv _
  injection hv with hv
  subst hv
  rw [h2]
  exact hK
end Go.Proofs.Ytemnhmnompehoaa
