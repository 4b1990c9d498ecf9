/-
  A group, a row of groups, and Groups in memory.
-/
import Derived.Test.YtemnhmnompehoaaTeam
namespace Go.Proofs.Ytemnhmnompehoaa
open Go Go.RowKit

structure Gp where
  name : ByteArray
  sub : Int
  term : Int
  next : Int
  mem : List Int
  own : List Int
  att : List Int

/-- A group and where its three slices lie. -/
structure Gv where
  x : Gp
  mA : Option Addr
  mc : Nat
  oA : Option Addr
  oc : Nat
  tA : Option Addr
  tc : Nat
def Gv.cells (g : Gv) : List Value := [.string g.x.name, .int .i64 g.x.sub, .int .i64 g.x.term, .int .i64 g.x.next, (.slice g.mA g.x.mem.length g.mc), (.slice g.oA g.x.own.length g.oc), (.slice g.tA g.x.att.length g.tc)]
def Gv.val (g : Gv) : Value := .agg g.cells.toArray


theorem Gv.val_eq (g : Gv) : g.val = .agg #[.string g.x.name, .int .i64 g.x.sub, .int .i64 g.x.term, .int .i64 g.x.next, (.slice g.mA g.x.mem.length g.mc), (.slice g.oA g.x.own.length g.oc), (.slice g.tA g.x.att.length g.tc)] := rfl
/-- The row of groups at A: it begins at the head of a block that is not frozen. -/
structure RG (w : World) (A : Option Addr) (n : Nat) (l : List Gv) : Prop where
  len : l.length = n
  bd : n ≤ 1000
  row : 0 < n → ∃ (g : Nat) (cur : Array Value), A = some ⟨g, 0, none⟩ ∧ g < w.heap.size ∧ w.heap[g]? = some (.cells cur 51 (0, 0)) ∧ n * 7 ≤ cur.size ∧ ∀ (i : Nat) (x : Gv), l[i]? = some x → ∀ j, j < 7 → cur[i * 7 + j]? = x.cells[j]?
theorem RG.below {w w' : World} {A : Option Addr} {n : Nat} {l : List Gv} (h : RG w A n l) (hb : Below w.heap.size w w') : RG w' A n l :=
  ⟨h.len, h.bd, fun hn => by
    obtain ⟨g, cur, h1, h2, h3, h4, h5⟩ := h.row hn
    exact ⟨g, cur, h1, Nat.lt_of_lt_of_le h2 hb.size, (hb.block g h2).trans h3, h4, h5⟩⟩
theorem RG.get {w : World} {A : Option Addr} {n : Nat} {l : List Gv} (h : RG w A n l) {k : Nat} {x : Gv} (hx : l[k]? = some x) :
    ∃ g : Nat, A = some ⟨g, 0, none⟩ ∧ g < w.heap.size ∧ w.cell? ⟨g, k * 7, none⟩ = some (.string x.x.name) ∧ w.cell? ⟨g, k * 7 + 1, none⟩ = some (.int .i64 x.x.sub) ∧ w.cell? ⟨g, k * 7 + 2, none⟩ = some (.int .i64 x.x.term) ∧
      w.cell? ⟨g, k * 7 + 3, none⟩ = some (.int .i64 x.x.next) ∧ w.cell? ⟨g, k * 7 + 4, none⟩ = some (.slice x.mA x.x.mem.length x.mc) ∧ w.cell? ⟨g, k * 7 + 5, none⟩ = some (.slice x.oA x.x.own.length x.oc) ∧ w.cell? ⟨g, k * 7 + 6, none⟩ = some (.slice x.tA x.x.att.length x.tc) := by
  have hk : k < l.length := (List.getElem?_eq_some_iff.1 hx).1
  obtain ⟨g, cur, h1, h2, h3, h4, h5⟩ := h.row (by rw [← h.len]; omega)
  have q := h5 k x hx
  exact ⟨g, h1, h2, blk_cell h3 (q 0 (by omega)), blk_cell h3 (q 1 (by omega)), blk_cell h3 (q 2 (by omega)), blk_cell h3 (q 3 (by omega)), blk_cell h3 (q 4 (by omega)), blk_cell h3 (q 5 (by omega)), blk_cell h3 (q 6 (by omega))⟩

def isN (s : List UInt8) (g : Gv) : Bool := g.x.name.toList == s
theorem clo97 (x : Gv) (s : ByteArray) (b : Nat) (w : World) (hb : w.heap[b]? = some (.cells #[.string s] 9 (0, 0))) :
    Calls Try.prog 97 #[.agg #[.string x.x.name, .int .i64 x.x.sub, .int .i64 x.x.term, .int .i64 x.x.next, (.slice x.mA x.x.mem.length x.mc), (.slice x.oA x.x.own.length x.oc), (.slice x.tA x.x.att.length x.tc)], .pointer (some ⟨b, 0, none⟩)] w fun e w' => e = .returned (.bool (isN s.toList x)) ∧ Below w.heap.size w w' := by
  have hc := blk_cell hb (show (#[Value.string s])[0]? = some (.string s) from rfl)
  have hlt : b < w.heap.size := (Array.getElem?_eq_some_iff.1 hb).1
  go_enter Try.func97, Try.ntmps97
  go_wp2
  go_ret
  exact ⟨rfl, (Below.refl _ w).alloc (Nat.le_refl _) _⟩

theorem clo76 (x : Gv) (s : ByteArray) (b : Nat) (w : World) (hb : w.heap[b]? = some (.cells #[.string s] 9 (0, 0))) :
    Calls Try.prog 76 #[.agg #[.string x.x.name, .int .i64 x.x.sub, .int .i64 x.x.term, .int .i64 x.x.next, (.slice x.mA x.x.mem.length x.mc), (.slice x.oA x.x.own.length x.oc), (.slice x.tA x.x.att.length x.tc)], .pointer (some ⟨b, 0, none⟩)] w fun e w' => e = .returned (.bool (isN s.toList x)) ∧ Below w.heap.size w w' := by
  have hc := blk_cell hb (show (#[Value.string s])[0]? = some (.string s) from rfl)
  have hlt : b < w.heap.size := (Array.getElem?_eq_some_iff.1 hb).1
  go_enter Try.func76, Try.ntmps76
  go_wp2
  go_ret
  exact ⟨rfl, (Below.refl _ w).alloc (Nat.le_refl _) _⟩

/-- Where the first of a name stands: its number; else minus one. -/
def whereN (s : List UInt8) (l : List Gv) : Int := if l.any (isN s) then (l.findIdx (isN s) : Int) else -1
theorem whereN_hit {s : List UInt8} {l : List Gv} {k : Nat} {x : Gv} (hx : l[k]? = some x) (hv : isN s x = true) (hno : ∀ (j : Nat) (y : Gv), j < k → l[j]? = some y → isN s y = false) : whereN s l = k := by
  obtain ⟨hk, rfl⟩ := List.getElem?_eq_some_iff.1 hx
  unfold whereN
  rw [if_pos (List.any_eq_true.2 ⟨l[k], List.getElem_mem hk, hv⟩)]
  congr 1
  refine (List.findIdx_eq hk).2 ⟨hv, fun j hj => ?_⟩
  exact hno j _ hj (List.getElem?_eq_getElem (by omega))
theorem whereN_miss {s : List UInt8} {l : List Gv} (hno : ∀ (j : Nat) (y : Gv), l[j]? = some y → isN s y = false) : whereN s l = -1 := by
  unfold whereN
  rw [if_neg]
  intro h
  obtain ⟨y, hy, he⟩ := List.any_eq_true.1 h
  obtain ⟨j, hj, rfl⟩ := List.mem_iff_getElem.1 hy
  rw [hno j _ (List.getElem?_eq_getElem hj)] at he
  cases he

set_option maxHeartbeats 1000000 in
theorem idx97 (A : Option Addr) (n c : Nat) (l : List Gv) (s : ByteArray) (b : Nat) (w : World) (hb : w.heap[b]? = some (.cells #[.string s] 9 (0, 0))) (ha : RG w A n l) :
    Calls Try.prog 96 #[.slice A n c, .func (.func 97) #[] #[.pointer (some ⟨b, 0, none⟩)]] w fun e w' => e = .returned (.int .i64 (whereN s.toList l)) ∧ Below w.heap.size w w' := by
  have hbd := ha.bd
  have HL : Kp (l.length = n) := ⟨ha.len⟩
  have HR := Kp.mk ha
  have HB := Kp.mk hb
  have hlt : b < w.heap.size := (Array.getElem?_eq_some_iff.1 hb).1
  clear ha hb
  go_enter Try.func96, Try.ntmps96
  go_wp2
  go_loopw [8] (fun i wr => ∃ k : Nat, k ≤ n ∧ i = .int .i64 k ∧ Below w.heap.size w wr ∧ Kp (∀ j x, j < k → l[j]? = some x → isN s.toList x = false)) (fun i _ => n - (intOf i).toNat)
  case atStart => exact ⟨0, by omega, rfl, Below.refl _ _, ⟨fun j x hj => by omega⟩⟩
  case round =>
    obtain ⟨k, hk, rfl, hbw, hno⟩ := hrel
    by_cases hkn : k < n
    · obtain ⟨x, hx⟩ : ∃ x, l[k]? = some x := ⟨_, List.getElem?_eq_getElem (by rw [HL.it]; exact hkn)⟩
      obtain ⟨g, hA, hg, h0, h1, h2, h3, h4, h5, h6⟩ := (HR.it.below hbw).get hx
      cases hA
      have HB' : Kp (wr.heap[b]? = some (.cells #[.string s] 9 (0, 0))) := ⟨(hbw.block b hlt).trans HB.it⟩
      have hbs := hbw.size
      have HX := Kp.mk hx
      clear hx
      cases hv : isN s.toList x with
      | true =>
        have HV : Kp (whereN s.toList l = k) := ⟨whereN_hit HX.it hv hno.it⟩
        have HW := Kp.mk hv
        clear hv
        go_wp2_with (go_at_call 97; refine (clo97 x s b _ HB'.it).mono ?_; rintro e w1 ⟨rfl, hb1⟩; rw [HW.it])
        go_ret
        exact ⟨ret_int HV.it.symm, hbw.trans (hb1.mono hbs)⟩
      | false =>
        have HW := Kp.mk hv
        clear hv
        go_wp2_with (go_at_call 97; refine (clo97 x s b _ HB'.it).mono ?_; rintro e w1 ⟨rfl, hb1⟩; rw [HW.it])
        go_roundw
        case rel => exact ⟨k + 1, by omega, by go_num, hbw.trans (hb1.mono hbs), ⟨fun j y hj hy => by
          rcases Nat.lt_succ_iff_lt_or_eq.1 hj with h | rfl
          · exact hno.it j y h hy
          · rw [HX.it] at hy; cases hy; exact HW.it⟩⟩
        case measure => simp [intOf]; omega
    · have HV : Kp (whereN s.toList l = -1) := ⟨whereN_miss (fun j y hy => hno.it j y (by have := (List.getElem?_eq_some_iff.1 hy).1; rw [HL.it] at this; omega) hy)⟩
      go_wp2
      go_ret
      exact ⟨ret_int HV.it.symm, hbw⟩

set_option maxHeartbeats 1000000 in
theorem idx76 (A : Option Addr) (n c : Nat) (l : List Gv) (s : ByteArray) (b : Nat) (w : World) (hb : w.heap[b]? = some (.cells #[.string s] 9 (0, 0))) (ha : RG w A n l) :
    Calls Try.prog 96 #[.slice A n c, .func (.func 76) #[] #[.pointer (some ⟨b, 0, none⟩)]] w fun e w' => e = .returned (.int .i64 (whereN s.toList l)) ∧ Below w.heap.size w w' := by
  have hbd := ha.bd
  have HL : Kp (l.length = n) := ⟨ha.len⟩
  have HR := Kp.mk ha
  have HB := Kp.mk hb
  have hlt : b < w.heap.size := (Array.getElem?_eq_some_iff.1 hb).1
  clear ha hb
  go_enter Try.func96, Try.ntmps96
  go_wp2
  go_loopw [8] (fun i wr => ∃ k : Nat, k ≤ n ∧ i = .int .i64 k ∧ Below w.heap.size w wr ∧ Kp (∀ j x, j < k → l[j]? = some x → isN s.toList x = false)) (fun i _ => n - (intOf i).toNat)
  case atStart => exact ⟨0, by omega, rfl, Below.refl _ _, ⟨fun j x hj => by omega⟩⟩
  case round =>
    obtain ⟨k, hk, rfl, hbw, hno⟩ := hrel
    by_cases hkn : k < n
    · obtain ⟨x, hx⟩ : ∃ x, l[k]? = some x := ⟨_, List.getElem?_eq_getElem (by rw [HL.it]; exact hkn)⟩
      obtain ⟨g, hA, hg, h0, h1, h2, h3, h4, h5, h6⟩ := (HR.it.below hbw).get hx
      cases hA
      have HB' : Kp (wr.heap[b]? = some (.cells #[.string s] 9 (0, 0))) := ⟨(hbw.block b hlt).trans HB.it⟩
      have hbs := hbw.size
      have HX := Kp.mk hx
      clear hx
      cases hv : isN s.toList x with
      | true =>
        have HV : Kp (whereN s.toList l = k) := ⟨whereN_hit HX.it hv hno.it⟩
        have HW := Kp.mk hv
        clear hv
        go_wp2_with (go_at_call 76; refine (clo76 x s b _ HB'.it).mono ?_; rintro e w1 ⟨rfl, hb1⟩; rw [HW.it])
        go_ret
        exact ⟨ret_int HV.it.symm, hbw.trans (hb1.mono hbs)⟩
      | false =>
        have HW := Kp.mk hv
        clear hv
        go_wp2_with (go_at_call 76; refine (clo76 x s b _ HB'.it).mono ?_; rintro e w1 ⟨rfl, hb1⟩; rw [HW.it])
        go_roundw
        case rel => exact ⟨k + 1, by omega, by go_num, hbw.trans (hb1.mono hbs), ⟨fun j y hj hy => by
          rcases Nat.lt_succ_iff_lt_or_eq.1 hj with h | rfl
          · exact hno.it j y h hy
          · rw [HX.it] at hy; cases hy; exact HW.it⟩⟩
        case measure => simp [intOf]; omega
    · have HV : Kp (whereN s.toList l = -1) := ⟨whereN_miss (fun j y hy => hno.it j y (by have := (List.getElem?_eq_some_iff.1 hy).1; rw [HL.it] at this; omega) hy)⟩
      go_wp2
      go_ret
      exact ⟨ret_int HV.it.symm, hbw⟩

theorem whereN_geq (s : List UInt8) (l : List Gv) : decide (whereN s l ≥ 0) = l.any (isN s) := by
  unfold whereN
  split
  case isTrue h => rw [h]; simp
  case isFalse h => rw [eq_false_of_ne_true h]; simp
theorem has76 (A : Option Addr) (n c : Nat) (l : List Gv) (s : ByteArray) (b : Nat) (w : World) (hb : w.heap[b]? = some (.cells #[.string s] 9 (0, 0))) (ha : RG w A n l) :
    Calls Try.prog 75 #[.slice A n c, .func (.func 76) #[] #[.pointer (some ⟨b, 0, none⟩)]] w fun e w' => e = .returned (.bool (l.any (isN s.toList))) ∧ Below w.heap.size w w' := by
  have HI := Kp.mk (idx76 A n c l s b w hb ha)
  clear hb ha
  go_enter Try.func75, Try.ntmps75
  go_wp2_with (go_at_call 96; refine HI.it.mono ?_; rintro e w1 ⟨rfl, hb1⟩)
  go_ret
  exact ⟨ret_bool (whereN_geq _ _), hb1⟩
