/-
  Trees that no call made; trees of unlike seeds.
-/
import Derived.Test.YtcmkjoepndbicaaCnt
namespace Go.Proofs.Ytcmkjoepndbicaa
open Go Go.RowKit

/-- A tree that no call made. -/
def DeadV (v : Value) (w : World) : Prop := v = .pointer none ∨ ∃ t, v = .pointer (some ⟨t, 0, none⟩) ∧ w.heap[t]? = some (.cells #[.int .u64 0, .int .u64 0, .pointer none, .int .i64 0] 75 (0, 0))
theorem DeadV.below {v : Value} {w w' : World} (h : DeadV v w) (hb : Below w.heap.size w w') : DeadV v w' := by
  rcases h with rfl | ⟨t, rfl, ht⟩
  · exact .inl rfl
  · exact .inr ⟨t, rfl, (hb.block _ (Array.getElem?_eq_some_iff.1 ht).1).trans ht⟩
set_option maxRecDepth 100000 in
set_option maxHeartbeats 4000000 in
theorem find_dead (v : Value) (A : Option Addr) (m c : Nat) (w : World) (h : DeadV v w) :
    Calls Try.prog 62 #[v, .slice A m c] w fun e w' => e = .returned (.tuple #[.pointer none, .int .i64 6]) ∧ Below w.heap.size w w' := by
  rcases h with rfl | ⟨t, rfl, ht⟩
  · go_enter Try.func62, Try.ntmps62
    go_wp2
    go_ret2
    exact ⟨rfl, Below.refl _ _⟩
  · have z2 : w.cell? ⟨t, 2, none⟩ = some (.pointer none) := blk_cell ht rfl
    have hlt := (Array.getElem?_eq_some_iff.1 ht).1
    clear ht
    go_enter Try.func62, Try.ntmps62
    go_wp2
    go_ret2
    exact ⟨rfl, Below.refl _ _⟩
set_option maxRecDepth 100000 in
set_option maxHeartbeats 4000000 in
theorem parts_dead (v : Value) (A : Option Addr) (m c : Nat) (w : World) (h : DeadV v w) :
    Calls Try.prog 32 #[v, .slice A m c] w fun e w' => e = .returned (.tuple #[.slice none 0 0, .int .i64 6]) ∧ Below w.heap.size w w' := by
  have H := Kp.mk h
  clear h
  go_enter Try.func32, Try.ntmps32
  go_wp2_with fail
  go_at_call 62
  refine (find_dead v A m c w H.it).mono ?_
  rintro e w1 ⟨rfl, hb1⟩
  have B1 := Kp.mk hb1
  have he : ((6 : Int) != 0) = true := by decide
  clear hb1
  go_wp2
  go_ret2
  exact ⟨rfl, B1.it⟩
set_option maxRecDepth 100000 in
set_option maxHeartbeats 4000000 in
theorem pairs_dead (v : Value) (A : Option Addr) (m c : Nat) (w : World) (h : DeadV v w) :
    Calls Try.prog 34 #[v, .slice A m c] w fun e w' => e = .returned (.tuple #[.slice none 0 0, .int .i64 6]) ∧ Below w.heap.size w w' := by
  have H := Kp.mk h
  clear h
  go_enter Try.func34, Try.ntmps34
  go_wp2_with fail
  go_at_call 62
  refine (find_dead v A m c w H.it).mono ?_
  rintro e w1 ⟨rfl, hb1⟩
  have B1 := Kp.mk hb1
  have he : ((6 : Int) != 0) = true := by decide
  clear hb1
  go_wp2
  go_ret2
  exact ⟨rfl, B1.it⟩
set_option maxRecDepth 100000 in
set_option maxHeartbeats 4000000 in
theorem root_dead (v : Value) (w : World) (h : DeadV v w) :
    Calls Try.prog 27 #[v] w fun e w' => e = .returned (.int .u64 0) ∧ Below w.heap.size w w' := by
  rcases h with rfl | ⟨t, rfl, ht⟩
  · go_enter Try.func27, Try.ntmps27
    go_wp2
    go_ret
    exact ⟨rfl, Below.refl _ _⟩
  · have z2 : w.cell? ⟨t, 2, none⟩ = some (.pointer none) := blk_cell ht rfl
    have hlt := (Array.getElem?_eq_some_iff.1 ht).1
    clear ht
    go_enter Try.func27, Try.ntmps27
    go_wp2
    go_ret
    exact ⟨rfl, Below.refl _ _⟩
set_option maxRecDepth 100000 in
set_option maxHeartbeats 4000000 in
theorem len_dead (v : Value) (w : World) (h : DeadV v w) :
    Calls Try.prog 29 #[v] w fun e w' => e = .returned (.int .i64 0) ∧ Below w.heap.size w w' := by
  rcases h with rfl | ⟨t, rfl, ht⟩
  · go_enter Try.func29, Try.ntmps29
    go_wp2
    go_ret
    exact ⟨rfl, Below.refl _ _⟩
  · have z3 : w.cell? ⟨t, 3, none⟩ = some (.int .i64 0) := blk_cell ht rfl
    have hlt := (Array.getElem?_eq_some_iff.1 ht).1
    clear ht
    go_enter Try.func29, Try.ntmps29
    go_wp2
    go_ret
    exact ⟨rfl, Below.refl _ _⟩
/-- The end of Unlike with an error. -/
theorem unlike_end {w w5 : World} {X : Nat} (hX : X = w.heap.size) (h : w5.heap[X]? = some (.cells #[.int .i64 0, .int .i64 0] 30 (0, 0))) : w5.cell? ⟨w.heap.size, 0, none⟩ = some (.int .i64 0) ∧ w5.cell? ⟨w.heap.size, 1, none⟩ = some (.int .i64 0) := by
  subst hX
  exact ⟨blk_cell h rfl, blk_cell h rfl⟩
set_option maxRecDepth 100000 in
set_option maxHeartbeats 8000000 in
theorem unlike_dead (v : Value) (t : Nat) (w : World) (h : DeadV v w) :
    Calls Try.prog 13 #[v, .pointer (some ⟨t, 0, none⟩)] w fun e w' => e = .returned (.tuple #[.slice none 0 0, .agg #[.int .i64 0, .int .i64 0], .int .i64 6]) ∧ Below w.heap.size w w' := by
  have HB0 : Kp (Below w.heap.size w (w.alloc (.cells #[.int .i64 0, .int .i64 0] 30))) := ⟨(Below.refl _ _).alloc (Nat.le_refl _) _⟩
  have HE0 : Kp ((w.alloc (.cells #[.int .i64 0, .int .i64 0] 30)).heap[w.heap.size]? = some (.cells #[.int .i64 0, .int .i64 0] 30 (0, 0))) := ⟨blk_new _ _⟩
  rcases h with rfl | ⟨t', rfl, ht⟩
  · go_enter Try.func13, Try.ntmps13
    go_wp2
    obtain ⟨q0, q1⟩ := unlike_end rfl HE0.it
    refine bodyPost_ret (v := .tuple #[.slice none 0 0, .agg #[.int .i64 0, .int .i64 0], .int .i64 6]) ?_ rfl ?_
    · simp [results, go_sem, q0, q1]
    · exact ⟨rfl, HB0.it⟩
  · have z2 : w.cell? ⟨t', 2, none⟩ = some (.pointer none) := blk_cell ht rfl
    have hlt := (Array.getElem?_eq_some_iff.1 ht).1
    clear ht
    go_enter Try.func13, Try.ntmps13
    go_wp2
    obtain ⟨q0, q1⟩ := unlike_end rfl HE0.it
    refine bodyPost_ret (v := .tuple #[.slice none 0 0, .agg #[.int .i64 0, .int .i64 0], .int .i64 6]) ?_ rfl ?_
    · simp [results, go_sem, q0, q1]
    · exact ⟨rfl, HB0.it⟩
set_option maxRecDepth 100000 in
set_option maxHeartbeats 8000000 in
theorem unlike_other (ka kb kc kd : BitVec 64) (la lb : List Pr) (s t : Nat) (w : World) (ha : TreeAt ka kb la s w) (hb : TreeAt kc kd lb t w) (hne : ¬ (ka = kc ∧ kb = kd)) :
    Calls Try.prog 13 #[.pointer (some ⟨s, 0, none⟩), .pointer (some ⟨t, 0, none⟩)] w fun e w' => e = .returned (.tuple #[.slice none 0 0, .agg #[.int .i64 0, .int .i64 0], .int .i64 1]) ∧ Below w.heap.size w w' := by
  obtain ⟨r, hs, _⟩ := ha
  obtain ⟨q, ht, _⟩ := hb
  have HB0 : Kp (Below w.heap.size w (w.alloc (.cells #[.int .i64 0, .int .i64 0] 30))) := ⟨(Below.refl _ _).alloc (Nat.le_refl _) _⟩
  have HE0 : Kp ((w.alloc (.cells #[.int .i64 0, .int .i64 0] 30)).heap[w.heap.size]? = some (.cells #[.int .i64 0, .int .i64 0] 30 (0, 0))) := ⟨blk_new _ _⟩
  have s0 := blk_cell hs (show (#[Value.int .u64 (ka.toNat : Int), .int .u64 (kb.toNat : Int), .pointer (some ⟨r, 0, none⟩), .int .i64 (la.length : Int)])[0]? = some _ from rfl)
  have s1 := blk_cell hs (show (#[Value.int .u64 (ka.toNat : Int), .int .u64 (kb.toNat : Int), .pointer (some ⟨r, 0, none⟩), .int .i64 (la.length : Int)])[1]? = some _ from rfl)
  have s2 := blk_cell hs (show (#[Value.int .u64 (ka.toNat : Int), .int .u64 (kb.toNat : Int), .pointer (some ⟨r, 0, none⟩), .int .i64 (la.length : Int)])[2]? = some _ from rfl)
  have t0 := blk_cell ht (show (#[Value.int .u64 (kc.toNat : Int), .int .u64 (kd.toNat : Int), .pointer (some ⟨q, 0, none⟩), .int .i64 (lb.length : Int)])[0]? = some _ from rfl)
  have t1 := blk_cell ht (show (#[Value.int .u64 (kc.toNat : Int), .int .u64 (kd.toNat : Int), .pointer (some ⟨q, 0, none⟩), .int .i64 (lb.length : Int)])[1]? = some _ from rfl)
  have t2 := blk_cell ht (show (#[Value.int .u64 (kc.toNat : Int), .int .u64 (kd.toNat : Int), .pointer (some ⟨q, 0, none⟩), .int .i64 (lb.length : Int)])[2]? = some _ from rfl)
  have hsl := (Array.getElem?_eq_some_iff.1 hs).1
  have htl := (Array.getElem?_eq_some_iff.1 ht).1
  obtain ⟨xa, hxa⟩ : ∃ x : Int, x = (ka.toNat : Int) := ⟨_, rfl⟩
  obtain ⟨xb, hxb⟩ : ∃ x : Int, x = (kb.toNat : Int) := ⟨_, rfl⟩
  obtain ⟨xc, hxc⟩ : ∃ x : Int, x = (kc.toNat : Int) := ⟨_, rfl⟩
  obtain ⟨xd, hxd⟩ : ∃ x : Int, x = (kd.toNat : Int) := ⟨_, rfl⟩
  have hor : (xa == xc) = false ∨ ((xa == xc) = true ∧ (xb == xd) = false) := by
    by_cases h1 : ka = kc
    · right
      have h2 : ¬ kb = kd := fun h => hne ⟨h1, h⟩
      refine ⟨by rw [hxa, hxc, h1]; simp, ?_⟩
      rw [beq_eq_false_iff_ne, hxb, hxd]
      intro h
      exact h2 (BitVec.eq_of_toNat_eq (by omega))
    · left
      rw [beq_eq_false_iff_ne, hxa, hxc]
      intro h
      exact h1 (BitVec.eq_of_toNat_eq (by omega))
  rw [← hxa] at s0
  rw [← hxb] at s1
  rw [← hxc] at t0
  rw [← hxd] at t1
  clear hs ht hne hxa hxb hxc hxd
  rcases hor with hq | ⟨hq, hq2⟩
  · go_enter Try.func13, Try.ntmps13
    go_wp2
    go_quiet (fail)
    go_wp2
    obtain ⟨q0, q1⟩ := unlike_end rfl HE0.it
    refine bodyPost_ret (v := .tuple #[.slice none 0 0, .agg #[.int .i64 0, .int .i64 0], .int .i64 1]) ?_ rfl ?_
    · simp [results, go_sem, q0, q1]
    · exact ⟨rfl, ((below_drewN HB0.it _).setCell (Nat.le_refl _) _).setCell (Nat.le_refl _) _⟩
  · go_enter Try.func13, Try.ntmps13
    go_wp2
    go_quiet (fail)
    go_wp2
    obtain ⟨q0, q1⟩ := unlike_end rfl HE0.it
    refine bodyPost_ret (v := .tuple #[.slice none 0 0, .agg #[.int .i64 0, .int .i64 0], .int .i64 1]) ?_ rfl ?_
    · simp [results, go_sem, q0, q1]
    · exact ⟨rfl, ((below_drewN HB0.it _).setCell (Nat.le_refl _) _).setCell (Nat.le_refl _) _⟩
end Go.Proofs.Ytcmkjoepndbicaa
