/-
  Unlike of two trees of one seed.
-/
import Derived.Test.YtcmkjoepndbicaaDif3
import Derived.Test.YtcmkjoepndbicaaShelf
import Derived.Sort.OwnSorted
namespace Go.Proofs.Ytcmkjoepndbicaa
open Go Go.RowKit Go.Sort

/-- Strings by rising bytes. -/
def sortS (l : List ByteArray) : List ByteArray := ((l.map fun s => s.data.toList).mergeSort fun x y => decide (x ≤ y)).map fun u => ⟨u.toArray⟩
theorem sortS_len (l : List ByteArray) : (sortS l).length = l.length := by unfold sortS; rw [List.length_map, List.length_mergeSort, List.length_map]
theorem svs_enc (l : List ByteArray) : svs l = (l.map fun s => s.data.toList).map encStr := by
  unfold svs
  rw [List.map_map]
  apply List.map_congr_left
  intro s _
  simp [encStr]
theorem svs_enc2 (l : List (List UInt8)) : svs (l.map fun u => ⟨u.toArray⟩) = l.map encStr := by
  unfold svs
  rw [List.map_map]
  apply List.map_congr_left
  intro s _
  simp [encStr]
theorem sort_t (v : Value) (l : List ByteArray) (w : World) (base : Nat) (h : OwnT w base v l) (hl : l.length < 4611686018427387904) :
    Calls Try.prog 47 #[v] w fun e w' => e = .returned (.tuple #[]) ∧ OwnT w' base v (sortS l) ∧ w.grownBy w' v.ownBlock := by
  have h' := h
  unfold OwnT at h'
  rcases h'.2 with ⟨rfl, h0⟩ | ⟨g, cap, cur, rfl, hb, hh, h1, h2, h3, h4⟩
  · have hx : l = [] := by simpa using h0
    subst hx
    refine (Try.slices_Sort_string_none none 0 w).mono ?_
    rintro e w' ⟨rfl, rfl⟩
    exact ⟨rfl, by simpa [sortS] using OwnT.nil w' base, World.grownBy.refl _ _⟩
  · have hlen : (l.map fun s => s.data.toList).length = l.length := by simp
    have hq := Try.slices_Sort_string g 0 cap (l.map fun s => s.data.toList) w (holds_of_block hh (by rw [hlen, ← svs_enc]; simpa using h4)) (Array.getElem?_eq_some_iff.1 hh).1 (by rw [hlen]; exact hl)
    rw [hlen] at hq
    refine hq.mono ?_
    rintro e w' ⟨rfl, n, os, rfl⟩
    refine ⟨rfl, ?_, by simpa [Value.ownBlock] using grownBy_sorted _⟩
    have := ownsRow_sorted (n := n) (os := os) (base := base) (ss := l.map fun s => s.data.toList) (ts := (l.map fun s => s.data.toList).mergeSort fun x y => decide (x ≤ y)) (List.length_mergeSort _) hb hh (by rw [hlen]; exact h1) h2 h3
    unfold OwnT
    rw [sortS_len]
    unfold sortS
    rw [svs_enc2]
    rw [hlen] at this
    exact this
/-- A tree of the pairs l. -/
def TreeAt (ka kb : BitVec 64) (l : List Pr) (t : Nat) (w : World) : Prop :=
  ∃ r, w.heap[t]? = some (.cells #[.int .u64 (ka.toNat : Int), .int .u64 (kb.toNat : Int), .pointer (some ⟨r, 0, none⟩), .int .i64 (l.length : Int)] 75 (0, 0)) ∧ Tr ka kb (fun _ => True) 4 l w r
theorem TreeAt.below {ka kb : BitVec 64} {l : List Pr} {t : Nat} {w w' : World} (h : TreeAt ka kb l t w) (hb : Below w.heap.size w w') : TreeAt ka kb l t w' := by
  obtain ⟨r, h1, h2⟩ := h
  exact ⟨r, (hb.block _ (Array.getElem?_eq_some_iff.1 h1).1).trans h1, h2.below hb⟩
/-- A tree of the pairs l, whose blocks are all of S. -/
def TreeS (ka kb : BitVec 64) (S : Nat → Prop) (l : List Pr) (t : Nat) (w : World) : Prop :=
  S t ∧ ∃ r, w.heap[t]? = some (.cells #[.int .u64 (ka.toNat : Int), .int .u64 (kb.toNat : Int), .pointer (some ⟨r, 0, none⟩), .int .i64 (l.length : Int)] 75 (0, 0)) ∧ Tr ka kb S 4 l w r
theorem TreeS.any {ka kb : BitVec 64} {S : Nat → Prop} {l : List Pr} {t : Nat} {w : World} (h : TreeS ka kb S l t w) : TreeAt ka kb l t w := by
  obtain ⟨_, r, h1, h2⟩ := h
  exact ⟨r, h1, Tr.relax (fun _ _ _ => trivial) 4 h2⟩
theorem TreeS.same {ka kb : BitVec 64} {S : Nat → Prop} {l : List Pr} {t : Nat} {w w' : World} (h : TreeS ka kb S l t w) (hs : Same S w w') : TreeS ka kb S l t w' := by
  obtain ⟨h0, r, h1, h2⟩ := h
  exact ⟨h0, r, (hs.2 t h0 (Array.getElem?_eq_some_iff.1 h1).1).trans h1, Tr.same hs 4 h2⟩
theorem TreeS.below {ka kb : BitVec 64} {S : Nat → Prop} {l : List Pr} {t : Nat} {w w' : World} (h : TreeS ka kb S l t w) (hb : Below w.heap.size w w') : TreeS ka kb S l t w' := h.same (Same.of_below hb S)
theorem TreeS.relax {ka kb : BitVec 64} {S S' : Nat → Prop} {l : List Pr} {t : Nat} {w : World} (h : TreeS ka kb S l t w) (hS : ∀ b, S b → b < w.heap.size → S' b) : TreeS ka kb S' l t w := by
  obtain ⟨h0, r, h1, h2⟩ := h
  exact ⟨hS t h0 (Array.getElem?_eq_some_iff.1 h1).1, r, h1, Tr.relax hS 4 h2⟩
set_option maxRecDepth 100000 in
set_option maxHeartbeats 8000000 in
theorem unlike2_any (ka kb : BitVec 64) (la lb : List Pr) (s t : Nat) (w : World) (ha : TreeAt ka kb la s w) (hb : TreeAt ka kb lb t w) (h1 : la.length ≤ 1000) (h2 : lb.length ≤ 1000) :
    Calls Try.prog 13 #[.pointer (some ⟨s, 0, none⟩), .pointer (some ⟨t, 0, none⟩)] w fun e w' =>
      ∃ v, e = .returned (.tuple #[v, .agg #[.int .i64 ((1 + difD ka kb 4 la lb : Nat) : Int), .int .i64 ((difP ka kb 4 la lb : Nat) : Int)], .int .i64 0]) ∧ OwnT w' w.heap.size v (sortS (difK ka kb 4 la lb)) ∧ Below w.heap.size w w' := by
  obtain ⟨r, hs, tr⟩ := ha
  obtain ⟨q, ht, tq⟩ := hb
  have s0 := blk_cell hs (show (#[Value.int .u64 (ka.toNat : Int), .int .u64 (kb.toNat : Int), .pointer (some ⟨r, 0, none⟩), .int .i64 (la.length : Int)])[0]? = some _ from rfl)
  have s1 := blk_cell hs (show (#[Value.int .u64 (ka.toNat : Int), .int .u64 (kb.toNat : Int), .pointer (some ⟨r, 0, none⟩), .int .i64 (la.length : Int)])[1]? = some _ from rfl)
  have s2 := blk_cell hs (show (#[Value.int .u64 (ka.toNat : Int), .int .u64 (kb.toNat : Int), .pointer (some ⟨r, 0, none⟩), .int .i64 (la.length : Int)])[2]? = some _ from rfl)
  have t0 := blk_cell ht (show (#[Value.int .u64 (ka.toNat : Int), .int .u64 (kb.toNat : Int), .pointer (some ⟨q, 0, none⟩), .int .i64 (lb.length : Int)])[0]? = some _ from rfl)
  have t1 := blk_cell ht (show (#[Value.int .u64 (ka.toNat : Int), .int .u64 (kb.toNat : Int), .pointer (some ⟨q, 0, none⟩), .int .i64 (lb.length : Int)])[1]? = some _ from rfl)
  have t2 := blk_cell ht (show (#[Value.int .u64 (ka.toNat : Int), .int .u64 (kb.toNat : Int), .pointer (some ⟨q, 0, none⟩), .int .i64 (lb.length : Int)])[2]? = some _ from rfl)
  have hsl := (Array.getElem?_eq_some_iff.1 hs).1
  have htl := (Array.getElem?_eq_some_iff.1 ht).1
  have TR := Kp.mk tr
  have TQ := Kp.mk tq
  have H1 := Kp.mk h1
  have H2 := Kp.mk h2
  clear tr tq h1 h2 hs ht
  go_enter Try.func13, Try.ntmps13
  go_wp2
  go_quiet (fail)
  go_wp2_with fail
  refine wp_on (fun w1 => w1.heap[w.heap.size]? = some (.cells #[.int .i64 0, .int .i64 0] 30 (0, 0)) ∧ Tk 1 0 (w.heap.size + 1) w1 ∧ Below w.heap.size w w1 ∧ w1.heap.size = w.heap.size + 2) ⟨by first | exact blk_old _ (blk_new _ _) | exact blk_old _ (blk_new w _), by first | exact blk_new1 _ _ _ | exact blk_new1 w _ _, by first | exact ((Below.refl _ _).alloc (Nat.le_refl _) _).alloc (by simp) _ | exact below_drewN (((Below.refl _ _).alloc (Nat.le_refl _) _).alloc (by simp) _) _, by simp⟩ (fun w1 hx => ?_)
  obtain ⟨e1, e2, hb1, hsz⟩ := hx
  have E1 := Kp.mk e1
  have T1 := Kp.mk e2
  have B1 := Kp.mk hb1
  have Z1 := Kp.mk hsz
  have s2' : w1.cell? ⟨s, 2, none⟩ = some (.pointer (some ⟨r, 0, none⟩)) := (hb1.cell (p := ⟨s, 2, none⟩) hsl).trans s2
  have t2' : w1.cell? ⟨t, 2, none⟩ = some (.pointer (some ⟨q, 0, none⟩)) := (hb1.cell (p := ⟨t, 2, none⟩) htl).trans t2
  have hsl' : s < w1.heap.size := by omega
  have htl' : t < w1.heap.size := by omega
  obtain ⟨X, hX⟩ : ∃ X, X = w.heap.size + 1 := ⟨_, rfl⟩
  have HX := Kp.mk hX
  have HC : ∀ w1', w1'.heap = w1.heap → w1'.os = w1.os → w1'.tape = w1.tape → w1'.output = w1.output → Calls Try.prog 46 #[.pointer (some ⟨r, 0, none⟩), .pointer (some ⟨q, 0, none⟩), .int .i64 0, .pointer (some ⟨X, 0, none⟩), .slice none 0 0] w1' fun e w' =>
      ∃ v, e = .returned v ∧ OwnT w' (X + 1) v (difK ka kb 4 la lb) ∧ Tk (1 + difD ka kb 4 la lb) (difP ka kb 4 la lb) X w' ∧ Kt X none w1 w' := by
    intro w1' hh ho ht hp
    have hbl : Below w1.heap.size w1 w1' := ⟨ho, ht, hp, by rw [hh]; exact Nat.le_refl _, fun k _ => by rw [hh]⟩
    have := diff_any ka kb 4 (Nat.le_refl _) X r q la lb none 0 0 [] 1 0 w1'
      (((Tr.relax (S' := fun p => p ≠ X ∧ (Value.slice none 0 0).ownBlock ≠ some p) (fun b _ hl => ⟨by omega, by simp [Value.ownBlock]⟩) 4 TR.it).below B1.it).below hbl)
      (((Tr.relax (S' := fun p => p ≠ X ∧ (Value.slice none 0 0).ownBlock ≠ some p) (fun b _ hl => ⟨by omega, by simp [Value.ownBlock]⟩) 4 TQ.it).below B1.it).below hbl)
      (OwnT.nil _ _) ((show Tk 1 0 X w1 by rw [hX]; exact T1.it).below hbl) H1.it H2.it (by simp) (by omega) (by omega)
    rw [show ((4 - 4 : Nat) : Int) = 0 from rfl] at this
    refine this.mono ?_
    rintro e w' ⟨v, rfl, h1, h2, _, h4⟩
    rw [List.nil_append] at h1
    rw [Nat.zero_add] at h2
    exact ⟨v, rfl, h1, h2, (Kt.of_below (X := X) (o := none) hbl).trans h4 (.inl rfl)⟩
  have HCK := Kp.mk HC
  rw [← hX]
  clear s0 s1 s2 t0 t1 t2 hsl htl HC hb1 e1 e2 hX
  go_region_with (go_at_call 46; refine (HCK.it w1.drew rfl rfl rfl rfl).mono ?_; rintro e w2 ⟨v2, rfl, ho2, hk2, ht2⟩; have O2 := Kp.mk ho2; have TK2 := Kp.mk hk2; have KT2 := Kp.mk ht2; clear ho2 hk2 ht2)
  all_goals
    change Exit.then _ _ Exit.normal (Act.put _ (some 8) _) _
    simp only [Act.put, List.setIfInBounds_toArray, List.set_cons_succ, List.set_cons_zero]
    go_wp2_with fail
    go_at_call 47
    refine (sort_t v2 _ w2 (X + 1) O2.it (by have := difK_le ka kb 4 la lb; have := H1.it; have := H2.it; omega)).mono ?_
    rintro e w3 ⟨rfl, ho3, hg3⟩
    have TK3 : Kp (Tk (1 + difD ka kb 4 la lb) (difP ka kb 4 la lb) X w3) := ⟨keep_blk TK2.it hg3 (fun e => by have := (O2.it.lt X e).1; omega)⟩
    have E3 : Kp (w3.heap[w.heap.size]? = some (.cells #[.int .i64 0, .int .i64 0] 30 (0, 0))) := ⟨keep_blk ((KT2.it.block _ (Array.getElem?_eq_some_iff.1 E1.it).1 (by have := HX.it; omega) (by simp)).trans E1.it) hg3 (fun e => by have := (O2.it.lt _ e).1; have := HX.it; omega)⟩
    have B3 : Kp (Below w.heap.size w w3) := ⟨by
      have h1 : Below w.heap.size w1 w2 := ⟨KT2.it.os, KT2.it.tape, KT2.it.output, by have := KT2.it.size; have := Z1.it; omega, fun k hk => KT2.it.block k (by have := Z1.it; omega) (by have := HX.it; omega) (by simp)⟩
      have h2 : Below w.heap.size w w2 := B1.it.trans h1
      exact below_ownT h2 h2.size O2.it (by have := HX.it; omega) hg3⟩
    have O3 := Kp.mk ho3
    clear ho3 hg3 s2' t2' hsl' htl'
    obtain ⟨k0, k1, _, _, hXl⟩ := TK3.it.opens
    have p0 := blk_free (o := 0) E3.it
    have p1 := blk_free (o := 1) E3.it
    have r0 : w3.cell? ⟨w.heap.size, 0, none⟩ = some (.int .i64 0) := blk_cell E3.it rfl
    have r1 : w3.cell? ⟨w.heap.size, 1, none⟩ = some (.int .i64 0) := blk_cell E3.it rfl
    have hWl := (Array.getElem?_eq_some_iff.1 E3.it).1
    have hne : ¬ X = w.heap.size := by have := HX.it; omega
    obtain ⟨DD, hDD⟩ : ∃ d, d = 1 + difD ka kb 4 la lb := ⟨_, rfl⟩
    obtain ⟨PP, hPP⟩ : ∃ d, d = difP ka kb 4 la lb := ⟨_, rfl⟩
    rw [← hDD] at k0
    rw [← hPP] at k1
    have HDD := Kp.mk hDD
    have HPP := Kp.mk hPP
    clear hDD hPP
    go_wp2
    go_region
    all_goals
      obtain ⟨w5, hw5⟩ : ∃ x : World, x = ((w3.setCell ⟨w.heap.size, 0, none⟩ (Value.int IntKind.i64 (DD : Int))).setCell ⟨w.heap.size, 1, none⟩ (Value.int IntKind.i64 (PP : Int))).drew := ⟨_, rfl⟩
      rw [← hw5]
      have h5 : w5.heap[w.heap.size]? = some (.cells #[.int .i64 (DD : Int), .int .i64 (PP : Int)] 30 (0, 0)) := by
        rw [hw5]
        show ((w3.setCell ⟨w.heap.size, 0, none⟩ (Value.int IntKind.i64 (DD : Int))).setCell ⟨w.heap.size, 1, none⟩ (Value.int IntKind.i64 (PP : Int))).heap[w.heap.size]? = _
        rw [blk_set _ (blk_set _ E3.it)]
        rfl
      have q0 : w5.cell? ⟨w.heap.size, 0, none⟩ = some (.int .i64 (DD : Int)) := blk_cell h5 rfl
      have q1 : w5.cell? ⟨w.heap.size, 1, none⟩ = some (.int .i64 (PP : Int)) := blk_cell h5 rfl
      have B5 : Kp (Below w.heap.size w w5) := ⟨by rw [hw5]; exact below_drewN ((B3.it.setCell (Nat.le_refl _) _).setCell (Nat.le_refl _) _) 1⟩
      have HW5 := Kp.mk hw5
      clear hw5 h5
      go_wp2
      try simp only [Exit.inBlock, Exit.then]
      refine bodyPost_ret (v := .tuple #[v2, .agg #[.int .i64 (DD : Int), .int .i64 (PP : Int)], .int .i64 0]) ?_ rfl ?_
      · simp [results, go_sem, q0, q1]
      · refine ⟨v2, by rw [HDD.it, HPP.it], ?_, B5.it⟩
        have hx1 : w.heap.size < X + 1 := by have := HX.it; omega
        rw [HW5.it]
        have h9 := ((O3.it.far (o := 0) (u := .int .i64 (DD : Int)) hx1).far (o := 1) (u := .int .i64 (PP : Int)) hx1).relax (base' := w.heap.size) (by omega)
        exact h9.below (below_drewN (Below.refl _ _) 1)
end Go.Proofs.Ytcmkjoepndbicaa
