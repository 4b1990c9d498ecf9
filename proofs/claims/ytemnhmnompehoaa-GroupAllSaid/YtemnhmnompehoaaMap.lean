/-
  A map from numbers to numbers that the call has made; Share's second closure; SortStableFunc on an own row.
-/
import Derived.Test.YtemnhmnompehoaaStabX
import Derived.Maps.OwnOps
import Derived.Maps.Views
import Derived.WalkArith
namespace Go.Proofs.Ytemnhmnompehoaa
open Go Go.RowKit Go.Sort

theorem Try.key3 : Maps.Keyed Try.prog 3 := Maps.int_keyed Try.underlying3
abbrev Wf (x : Int) : Prop := (Lit.int .i64 x).wf = true
theorem wf_of {x : Int} (h1 : -9223372036854775808 ≤ x) (h2 : x ≤ 9223372036854775807) : Wf x := WalkArith.wf_i64 ⟨h1, h2⟩
def upd (f : Int → Int) (k v : Int) : Int → Int := fun x => if x = k then v else f x
theorem upd_same {f : Int → Int} {k v : Int} : upd f k v k = v := if_pos rfl
theorem upd_other {f : Int → Int} {k v x : Int} (h : x ≠ k) : upd f k v x = f x := if_neg h

/-- Block b is a map of at most n entries; what it has at x, f says. -/
def IM (w : World) (b n : Nat) (f : Int → Int) : Prop :=
  ∃ D : DataW Unit, w.ownsMap Try.prog 3 (plainElem Try.prog 3) b n D ∧ ∀ x, Wf x → D.atKey (.int .i64 x) (.lit (.int .i64 0)) = .lit (.int .i64 (f x))
theorem IM.made (w : World) : IM (w.alloc (.map #[] 0)) w.heap.size 0 (fun _ => 0) := ⟨_, World.ownsMap_made _ _ _ _, fun _ _ => rfl⟩
theorem IM.lt {w : World} {b n : Nat} {f : Int → Int} (h : IM w b n f) : b < w.heap.size := by obtain ⟨D, h1, _⟩ := h; exact h1.lt
theorem IM.kept {w w' : World} {b n : Nat} {f : Int → Int} {r : Option Nat} (h : IM w b n f) (hg : w.grownBy w' r) (hne : some b ≠ r) : IM w' b n f := by
  obtain ⟨D, h1, h2⟩ := h
  exact ⟨D, h1.kept hg hne, h2⟩
theorem grown_none {w w' : World} (h : Below w.heap.size w w') : w.grownBy w' none := ⟨h.os, h.tape, h.output, h.size, fun i hi _ => h.block i hi⟩
theorem IM.below {w w' : World} {b n : Nat} {f : Int → Int} (h : IM w b n f) (hb : Below w.heap.size w w') : IM w' b n f := h.kept (grown_none hb) (by simp)
theorem IM.mono {w : World} {b n m : Nat} {f : Int → Int} (h : IM w b n f) (hn : n ≤ m) : IM w b m f := by
  obtain ⟨D, h1, h2⟩ := h
  exact ⟨D, h1.mono hn, h2⟩
theorem IM.congr {w : World} {b n : Nat} {f g : Int → Int} (h : IM w b n f) (e : ∀ x, Wf x → f x = g x) : IM w b n g := by
  obtain ⟨D, h1, h2⟩ := h
  exact ⟨D, h1, fun x hx => by rw [h2 x hx, e x hx]⟩

theorem wpList_im_get {ops : Array Oper} {rest : List Oper} {o : Oper} {a : Act} {Q : Exit → Act → World → Prop} (w : World) (hg : o.guard = none) (m x : Operand) (hop : o.op = Op.lookup 83 m x false)
    (b n : Nat) (f : Int → Int) (key : Int) (hm : a.eval m = .map (some b)) (h : IM w b n f) (hx : a.eval x = .int .i64 key) (hw : Wf key)
    (hK : wpList Try.prog ops Q rest (a.put o.dst (.int .i64 (f key))) w) : wpList Try.prog ops Q (o :: rest) a w := by
  obtain ⟨D, h1, h2⟩ := h
  refine wpList_lookup_own_int w hg m x 83 hop 3 3 .i64 Try.key3 Try.underlying83 Try.underlying3 (Try.zeroValue3 w) b n D hm h1 _ _ hx (Maps.keyOf_int_mk Try.underlying3 hw) ?_
  intro c hat _
  rw [h2 key hw] at hat
  have hc : f key = c := by injection hat with hat; injection hat
  rw [← hc]
  exact hK

theorem wpList_im_put {ops : Array Oper} {rest : List Oper} {o : Oper} {a : Act} {Q : Exit → Act → World → Prop} (w : World) (hg : o.guard = none) (m x v : Operand) (hop : o.op = Op.mapUpdate 83 m x v)
    (b n : Nat) (f : Int → Int) (key val : Int) (hm : a.eval m = .map (some b)) (h : IM w b n f) (hx : a.eval x = .int .i64 key) (hv : a.eval v = .int .i64 val) (hw : Wf key) (hwv : Wf val) (hn : n ≤ 1000000000)
    (hK : ∀ w1, IM w1 b (n + 1) (upd f key val) → w.grownBy w1 (some b) → wpList Try.prog ops Q rest (a.put o.dst undef) w1) : wpList Try.prog ops Q (o :: rest) a w := by
  obtain ⟨D, h1, h2⟩ := h
  have hI : Maps.IsMap D := by obtain ⟨es, cl, _, _, _, rfl⟩ := h1; exact ⟨_, rfl⟩
  have hkey : keyOf Try.prog 3 (.int .i64 key) = some (.int .i64 key) := Maps.keyOf_int_mk Try.underlying3 hw
  refine wpList_mapUpdate_own w hg m x v 83 hop 3 3 Try.key3 Try.underlying83 _ b n D hm h1 (by unfold maxLen; omega) _ _ _ hx hv hkey _ [] (plainElem_int Try.underlying3 hwv) ?_
  intro w1 ho hgr
  refine hK w1 ⟨_, ho, fun y hy => ?_⟩ hgr
  unfold upd
  split
  · rename_i e
    subst e
    exact Maps.atKey_put_same hI (Try.key3.key hkey) _ _
  · rename_i hne
    rw [Maps.atKey_put_other (by intro e; injection e with _ e; exact hne e)]
    exact h2 y hy

theorem grownBy_sorted {w : World} {blk off m : Nat} {dk : Array W64} {os : Array Obj} : w.grownBy (sortWorld encW w blk off m dk os) (some blk) := by
  refine ⟨rfl, rfl, rfl, by simp [sortWorld], fun k hk hne => ?_⟩
  unfold sortWorld
  rw [heap_grow_old _ _ (by simpa using hk)]
  have : blk ≠ k := fun e => hne (by rw [e])
  simp [putRow, mapBlock, Sort.ahead, Array.getElem?_modify, this]

/-- Of two the one that has more comes first. -/
def kyH (f : Int → Int) : Ky W64 := ⟨fun x => - f x.1, fun x => x.1⟩

set_option maxHeartbeats 1000000 in
theorem clo59 (p b n : Nat) (f : Int → Int) (x y : Int) (w : World) (hc : w.cell? ⟨p, 0, none⟩ = some (.map (some b))) (h : IM w b n f) (hx : Wf x) (hy : Wf y) (hf : ∀ z, 0 ≤ f z ∧ f z ≤ 1000000000) :
    Calls Try.prog 59 #[.int .i64 x, .int .i64 y, .pointer (some ⟨p, 0, none⟩)] w fun e w' => e = .returned (.int .i64 ((kyH f).k ⟨x, hx⟩ - (kyH f).k ⟨y, hy⟩)) ∧ w = w' := by
  have h1 := hf x
  have h2 := hf y
  obtain ⟨u, hu⟩ : ∃ u, u = f x := ⟨_, rfl⟩
  obtain ⟨v, hv⟩ : ∃ v, v = f y := ⟨_, rfl⟩
  have HR : Kp ((kyH f).k ⟨x, hx⟩ - (kyH f).k ⟨y, hy⟩ = v - u) := ⟨by show - f x - - f y = _; omega⟩
  rw [← hu] at h1
  rw [← hv] at h2
  have HU := Kp.mk hu
  have HV := Kp.mk hv
  have HI := Kp.mk h
  have HX := Kp.mk hx
  have HY := Kp.mk hy
  rw [HR.it]
  clear HR hu hv h hf
  go_enter Try.func59, Try.ntmps59
  go_wp2_with (first | (at_lookup; refine wpList_im_get _ rfl _ _ rfl b n f y rfl HI.it rfl HY.it ?_; rw [← HV.it]) | (at_lookup; refine wpList_im_get _ rfl _ _ rfl b n f x rfl HI.it rfl HX.it ?_; rw [← HU.it]))
  go_ret
  exact ⟨rfl, rfl⟩

theorem cmp59 (p b n blk off sz : Nat) (f : Int → Int) (w : World) (hc : w.cell? ⟨p, 0, none⟩ = some (.map (some b))) (h : IM w b n f) (hp : p ≠ blk) (hb : b ≠ blk) (hf : ∀ z, 0 ≤ f z ∧ f z ≤ 1000000000) :
    CmpLays1 Try.prog 59 #[.pointer (some ⟨p, 0, none⟩)] encW (fun x y => (kyH f).k x - (kyH f).k y) blk off sz w := by
  intro m os dk _ x y
  have hg : w.grownBy (sortWorld encW w blk off m dk os) (some blk) := grownBy_sorted
  have hlt : p < w.heap.size := by
    unfold World.cell? at hc
    rcases Nat.lt_or_ge p w.heap.size with h9 | h9
    · exact h9
    · rw [Array.getElem?_eq_none h9] at hc; cases hc
  have hc' : (sortWorld encW w blk off m dk os).cell? ⟨p, 0, none⟩ = some (.map (some b)) := by
    rw [← hc]
    unfold World.cell?
    rw [hg.block p hlt (by simpa using hp)]
  refine (clo59 p b n f x.1 y.1 _ hc' (h.kept hg (by simpa using hb)) x.2 y.2 hf).mono ?_
  rintro e w' ⟨he, rfl⟩
  exact ⟨he, 0, #[], by rw [grow_empty]; rfl⟩

end Go.Proofs.Ytemnhmnompehoaa
