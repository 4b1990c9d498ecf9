/-
  What the calls on Groups tell where no group is found.
-/
import Derived.Test.YtemnhmnompehoaaLeave
namespace Go.Proofs.Ytemnhmnompehoaa
open Go Go.RowKit
attribute [local go_sem ↓] Go.wp_at_zero Go.wp_at_succ

/-- find tells an error. -/
def FindE (w : World) (P : Value) (s : ByteArray) (E : Int) : Prop := ∀ w0, Below w.heap.size w w0 → Calls Try.prog 64 #[P, .string s] w0 fun e w' => e = .returned (.tuple #[.int .i64 0, .int .i64 E]) ∧ Below w0.heap.size w0 w'

theorem findE_no {w : World} {p : Nat} {A : Option Addr} {c : Nat} {l : List Gv} (h : Gs w p A c l) (s : ByteArray) (hn : whereN s.toList l = -1) : FindE w (.pointer (some ⟨p, 0, none⟩)) s 220 := fun _ hb => find_no (h.below hb) s hn

theorem drop_err {w : World} {P : Value} {s : ByteArray} {E : Int} (hE : (E == 0) = false) (H : FindE w P s E) : Calls Try.prog 42 #[P, .string s] w fun e w' => e = .returned (.tuple #[.int .i64 0, .int .i64 E]) ∧ Below w.heap.size w w' := by
  have HO := Kp.mk (H w (Below.refl _ _))
  clear H
  go_enter Try.func42, Try.ntmps42
  go_wp2_with (go_at_call 64; refine HO.it.mono ?_; rintro e w1 ⟨rfl, hb1⟩)
  go_ret2
  exact ⟨rfl, hb1⟩
theorem join_err {w : World} {P : Value} {s : ByteArray} {E : Int} (hE2 : (E != 0) = true) (H : FindE w P s E) : Calls Try.prog 43 #[P, .string s] w fun e w' => e = .returned (.tuple #[.int .i64 0, .int .i64 E]) ∧ Below w.heap.size w w' := by
  have HO := Kp.mk (H w (Below.refl _ _))
  clear H
  go_enter Try.func43, Try.ntmps43
  go_wp2_with (go_at_call 64; refine HO.it.mono ?_; rintro e w1 ⟨rfl, hb1⟩)
  go_ret2
  exact ⟨rfl, hb1⟩
theorem low_err {w : World} {P : Value} {s : ByteArray} {E : Int} (hE : (E == 0) = false) (H : FindE w P s E) : Calls Try.prog 29 #[P, .string s] w fun e w' => e = .returned (.tuple #[.int .i64 0, .int .i64 E]) ∧ Below w.heap.size w w' := by
  have HO := Kp.mk (H w (Below.refl _ _))
  clear H
  go_enter Try.func29, Try.ntmps29
  go_wp2_with (go_at_call 64; refine HO.it.mono ?_; rintro e w1 ⟨rfl, hb1⟩)
  go_ret2
  exact ⟨rfl, hb1⟩
theorem owns_err {w : World} {P : Value} {s : ByteArray} {E : Int} (hE : (E == 0) = false) (H : FindE w P s E) (m t q : Int) : Calls Try.prog 31 #[P, .string s, .int .i64 m, .int .i64 t, .int .i64 q] w fun e w' => e = .returned (.int .i64 E) ∧ Below w.heap.size w w' := by
  have HB : Kp (Below w.heap.size w (w.alloc (.cells #[.int .i64 m] 3))) := ⟨(Below.refl _ w).alloc (Nat.le_refl _) _⟩
  have HO := Kp.mk (H w (Below.refl _ _))
  have HO2 := Kp.mk (H _ HB.it)
  clear H
  go_enter Try.func31, Try.ntmps31
  go_wp2_with (go_at_call 64; (first | refine HO.it.mono ?_ | refine HO2.it.mono ?_); rintro e w1 ⟨rfl, hb1⟩)
  go_ret
  exact ⟨rfl, hb1⟩
theorem leave_err {w : World} {P : Value} {s : ByteArray} {E : Int} (hE2 : (E != 0) = true) (H : FindE w P s E) (m : Int) : Calls Try.prog 45 #[P, .string s, .int .i64 m] w fun e w' => e = .returned (.int .i64 E) ∧ Below w.heap.size w w' := by
  have HB : Kp (Below w.heap.size w (w.alloc (.cells #[.int .i64 m] 3))) := ⟨(Below.refl _ w).alloc (Nat.le_refl _) _⟩
  have HO := Kp.mk (H _ HB.it)
  clear H
  go_enter Try.func45, Try.ntmps45
  go_wp2_with (go_at_call 64; refine HO.it.mono ?_; rintro e w1 ⟨rfl, hb1⟩)
  go_ret
  exact ⟨rfl, HB.it.trans (hb1.mono HB.it.size)⟩
theorem get_err {w : World} {P : Value} {s : ByteArray} {E : Int} (hE : (E == 0) = false) (H : FindE w P s E) : Calls Try.prog 41 #[P, .string s] w fun e w' => e = .returned (.tuple #[.agg #[.string ⟨#[]⟩, .int .i64 0, .int .i64 0, .int .i64 0, .slice none 0 0, .slice none 0 0, .slice none 0 0], .int .i64 E]) ∧ Below w.heap.size w w' := by
  obtain ⟨o0, ho0⟩ : ∃ o0, o0 = Obj.cells #[.string ⟨#[]⟩, .int .i64 0, .int .i64 0, .int .i64 0, .slice none 0 0, .slice none 0 0, .slice none 0 0] 51 := ⟨_, rfl⟩
  have hBa : Kp (Below w.heap.size w (w.alloc o0)) := ⟨(Below.refl _ w).alloc (Nat.le_refl _) _⟩
  have HO := Kp.mk (H _ hBa.it)
  have HB : Kp (Bx (w.alloc o0) w.heap.size ⟨#[]⟩ 0 0 0 (.slice none 0 0) (.slice none 0 0) (.slice none 0 0)) := ⟨by rw [ho0]; exact blk_new _ _⟩
  have hsz : Kp ((w.alloc o0).heap.size = w.heap.size + 1) := ⟨by simp⟩
  rw [ho0] at HO HB hBa hsz
  clear H ho0
  go_enter Try.func41, Try.ntmps41
  go_wp2_with (go_at_call 64; refine HO.it.mono ?_; rintro e w1 ⟨rfl, hb1⟩; have B1 := Kp.mk hb1; have X1 := Kp.mk (HB.it.kept hb1 (by rw [hsz.it]; omega)); have hs1 : w.heap.size < w1.heap.size := (by have := hb1.size; rw [hsz.it] at this; omega); clear hb1; obtain ⟨q0, q1, q2, q3, q4, q5, q6, f0, f1, f2, f3, f4, f5, f6⟩ := X1.it.cells)
  refine bodyPost_ret (res41 _ w.heap.size _ _ _ _ _ _ _ _ _ (blk_set _ (blk_set _ (blk_set _ (blk_set _ (blk_set _ (blk_set _ (blk_set _ X1.it))))))) rfl rfl) rfl ?_
  have K7 := (((((((Kt.refl w.heap.size w.heap.size w1).set (.inl rfl) 0 (.string ⟨#[]⟩)).set (.inl rfl) 1 (.int .i64 0)).set (.inl rfl) 2 (.int .i64 0)).set (.inl rfl) 3 (.int .i64 0)).set (.inl rfl) 4 (Value.slice none 0 0)).set (.inl rfl) 5 (Value.slice none 0 0)).set (.inl rfl) 6 (Value.slice none 0 0)
  exact ⟨rfl, (hBa.it.trans (B1.it.mono (by rw [hsz.it]; omega))).trans (K7.below (Nat.le_refl _) (Nat.le_refl _))⟩
/-- Where a group has too many members, or its numbers have come to their end. -/
theorem join_full {w : World} {p : Nat} {A : Option Addr} {c : Nat} {l : List Gv} (h : Gs w p A c l) (s : ByteArray) (k : Nat) (x : Gv) (hn : whereN s.toList l = k) (hx : l[k]? = some x) (hm : 6 ≤ x.x.mem.length) :
    Calls Try.prog 43 #[.pointer (some ⟨p, 0, none⟩), .string s] w fun e w' => e = .returned (.tuple #[.int .i64 0, .int .i64 7]) ∧ Below w.heap.size w w' := by
  have HG := Kp.mk h
  have HX := Kp.mk hx
  have FI := Kp.mk (find_at h s k hn)
  have hkl : k < l.length := (List.getElem?_eq_some_iff.1 hx).1
  have hk0 : (0 : Int) ≤ ↑k := by omega
  have hk1 : (↑k : Int) < ↑l.length := by omega
  have hmm : 6 ≤ (↑x.x.mem.length : Int) := by omega
  have hbd := h.row.bd
  have hlt := h.lt
  clear h hx hn
  go_enter Try.func43, Try.ntmps43
  go_wp2_with (first | (go_at_call 64; refine FI.it.mono ?_; rintro e w1 ⟨rfl, hb1⟩; have B1 := Kp.mk hb1; have G1 := Kp.mk (HG.it.below hb1); clear hb1; have z0 := G1.it.c0; obtain ⟨g0, rfl, hg0, b0, b1, b2, b3, b4, b5, b6⟩ := G1.it.row.get HX.it))
  go_ret2
  exact ⟨rfl, B1.it⟩
theorem join_range {w : World} {p : Nat} {A : Option Addr} {c : Nat} {l : List Gv} (h : Gs w p A c l) (s : ByteArray) (k : Nat) (x : Gv) (hn : whereN s.toList l = k) (hx : l[k]? = some x) (hm : x.x.mem.length < 6) (ht : 1099511627776 ≤ x.x.term ∨ 1099511627776 ≤ x.x.next) :
    Calls Try.prog 43 #[.pointer (some ⟨p, 0, none⟩), .string s] w fun e w' => e = .returned (.tuple #[.int .i64 0, .int .i64 5]) ∧ Below w.heap.size w w' := by
  have HG := Kp.mk h
  have HX := Kp.mk hx
  have FI := Kp.mk (find_at h s k hn)
  have hkl : k < l.length := (List.getElem?_eq_some_iff.1 hx).1
  have hk0 : (0 : Int) ≤ ↑k := by omega
  have hk1 : (↑k : Int) < ↑l.length := by omega
  have hmm : (↑x.x.mem.length : Int) < 6 := by omega
  have hbd := h.row.bd
  have hlt := h.lt
  clear h hx hn
  by_cases h1 : 1099511627776 ≤ x.x.term
  · clear ht
    go_enter Try.func43, Try.ntmps43
    go_wp2_with (first | (go_at_call 64; refine FI.it.mono ?_; rintro e w1 ⟨rfl, hb1⟩; have B1 := Kp.mk hb1; have G1 := Kp.mk (HG.it.below hb1); clear hb1; have z0 := G1.it.c0; obtain ⟨g0, rfl, hg0, b0, b1, b2, b3, b4, b5, b6⟩ := G1.it.row.get HX.it))
    go_ret2
    exact ⟨rfl, B1.it⟩
  · have h2 : 1099511627776 ≤ x.x.next := by omega
    have h3 : x.x.term < 1099511627776 := by omega
    clear ht h1
    go_enter Try.func43, Try.ntmps43
    go_wp2_with (first | (go_at_call 64; refine FI.it.mono ?_; rintro e w1 ⟨rfl, hb1⟩; have B1 := Kp.mk hb1; have G1 := Kp.mk (HG.it.below hb1); clear hb1; have z0 := G1.it.c0; obtain ⟨g0, rfl, hg0, b0, b1, b2, b3, b4, b5, b6⟩ := G1.it.row.get HX.it))
    go_ret2
    exact ⟨rfl, B1.it⟩
set_option maxHeartbeats 2000000 in
theorem leave_member {w : World} {p : Nat} {A : Option Addr} {c : Nat} {l : List Gv} (h : Gs w p A c l) (s : ByteArray) (k : Nat) (x : Gv) (m : Int) (hn : whereN s.toList l = k) (hx : l[k]? = some x) (hi : inB x.x.mem m = false) :
    Calls Try.prog 45 #[.pointer (some ⟨p, 0, none⟩), .string s, .int .i64 m] w fun e w' => e = .returned (.int .i64 221) ∧ Below w.heap.size w w' := by
  have HX := Kp.mk hx
  have HI := Kp.mk hi
  have hb0 : Below w.heap.size w (w.alloc (.cells #[.int .i64 m] 3)) := (Below.refl _ w).alloc (Nat.le_refl _) _
  have HA : Kp (Gs (w.alloc (.cells #[.int .i64 m] 3)) p A c l) := ⟨h.below hb0⟩
  have B0 := Kp.mk hb0
  have X0 : Kp ((w.alloc (.cells #[.int .i64 m] 3)).heap[w.heap.size]? = some (.cells #[.int .i64 m] 3 (0, 0))) := ⟨blk_new _ _⟩
  have hsz : Kp ((w.alloc (.cells #[.int .i64 m] 3)).heap.size = w.heap.size + 1) := ⟨by simp⟩
  have FI := Kp.mk (find_at HA.it s k hn)
  have hkl : k < l.length := (List.getElem?_eq_some_iff.1 hx).1
  have hk0 : (0 : Int) ≤ ↑k := by omega
  have hk1 : (↑k : Int) < ↑l.length := by omega
  have hbd := h.row.bd
  have hlt := h.lt
  clear h hx hn hb0 hi
  go_enter Try.func45, Try.ntmps45
  go_wp2_with (first | (go_at_call 64; refine FI.it.mono ?_; rintro e w1 ⟨rfl, hb1⟩; have B1 := Kp.mk hb1; have G1 := Kp.mk (HA.it.below hb1); have hsz1 := hb1.size; rw [hsz.it] at hsz1; have X1 : Kp (w1.heap[w.heap.size]? = some (.cells #[.int .i64 m] 3 (0, 0))) := ⟨(hb1.block _ (by rw [hsz.it]; omega)).trans X0.it⟩; clear hb1; have z0 := G1.it.c0; obtain ⟨g0, rfl, hg0, b0, b1, b2, b3, b4, b5, b6⟩ := G1.it.row.get HX.it; have K1 := Kp.mk (G1.it.ok x (List.mem_of_getElem? HX.it)); have x1 := blk_cell X1.it (show (#[Value.int .i64 m])[0]? = some _ from rfl)))
  have CT : Kp (∀ q, Calls Try.prog 19 #[.slice x.mA x.x.mem.length x.mc, .int .i64 m] (w1.drewN q) fun e w' => e = .returned (.bool false) ∧ w' = w1.drewN q) := ⟨fun q => by have := contains_any x.mA x.x.mem.length x.mc x.x.mem m (w1.drewN q) (K1.it.m.drewN q); rw [HI.it] at this; exact this.mono fun _ _ ⟨a, b⟩ => ⟨a, b.symm⟩⟩
  go_quiet ((go_at_call 19; exact Calls.quiet_of_same (CT.it _)))
  go_wp2
  go_ret
  exact ⟨rfl, below_drewN (B0.it.trans (B1.it.mono (by rw [hsz.it]; omega))) _⟩
set_option maxHeartbeats 2000000 in
theorem leave_range {w : World} {p : Nat} {A : Option Addr} {c : Nat} {l : List Gv} (h : Gs w p A c l) (s : ByteArray) (k : Nat) (x : Gv) (m : Int) (hn : whereN s.toList l = k) (hx : l[k]? = some x) (hi : inB x.x.mem m = true) (ht : 1099511627776 ≤ x.x.term) :
    Calls Try.prog 45 #[.pointer (some ⟨p, 0, none⟩), .string s, .int .i64 m] w fun e w' => e = .returned (.int .i64 5) ∧ Below w.heap.size w w' := by
  have HX := Kp.mk hx
  have HI := Kp.mk hi
  have hb0 : Below w.heap.size w (w.alloc (.cells #[.int .i64 m] 3)) := (Below.refl _ w).alloc (Nat.le_refl _) _
  have HA : Kp (Gs (w.alloc (.cells #[.int .i64 m] 3)) p A c l) := ⟨h.below hb0⟩
  have B0 := Kp.mk hb0
  have X0 : Kp ((w.alloc (.cells #[.int .i64 m] 3)).heap[w.heap.size]? = some (.cells #[.int .i64 m] 3 (0, 0))) := ⟨blk_new _ _⟩
  have hsz : Kp ((w.alloc (.cells #[.int .i64 m] 3)).heap.size = w.heap.size + 1) := ⟨by simp⟩
  have FI := Kp.mk (find_at HA.it s k hn)
  have hkl : k < l.length := (List.getElem?_eq_some_iff.1 hx).1
  have hk0 : (0 : Int) ≤ ↑k := by omega
  have hk1 : (↑k : Int) < ↑l.length := by omega
  have hbd := h.row.bd
  have hlt := h.lt
  clear h hx hn hb0 hi
  go_enter Try.func45, Try.ntmps45
  go_wp2_with (first | (go_at_call 64; refine FI.it.mono ?_; rintro e w1 ⟨rfl, hb1⟩; have B1 := Kp.mk hb1; have G1 := Kp.mk (HA.it.below hb1); have hsz1 := hb1.size; rw [hsz.it] at hsz1; have X1 : Kp (w1.heap[w.heap.size]? = some (.cells #[.int .i64 m] 3 (0, 0))) := ⟨(hb1.block _ (by rw [hsz.it]; omega)).trans X0.it⟩; clear hb1; have z0 := G1.it.c0; obtain ⟨g0, rfl, hg0, b0, b1, b2, b3, b4, b5, b6⟩ := G1.it.row.get HX.it; have K1 := Kp.mk (G1.it.ok x (List.mem_of_getElem? HX.it)); have x1 := blk_cell X1.it (show (#[Value.int .i64 m])[0]? = some _ from rfl)))
  have CT : Kp (∀ q, Calls Try.prog 19 #[.slice x.mA x.x.mem.length x.mc, .int .i64 m] (w1.drewN q) fun e w' => e = .returned (.bool true) ∧ w' = w1.drewN q) := ⟨fun q => by have := contains_any x.mA x.x.mem.length x.mc x.x.mem m (w1.drewN q) (K1.it.m.drewN q); rw [HI.it] at this; exact this.mono fun _ _ ⟨a, b⟩ => ⟨a, b.symm⟩⟩
  go_quiet ((go_at_call 19; exact Calls.quiet_of_same (CT.it _)))
  go_wp2
  go_ret
  exact ⟨rfl, below_drewN (B0.it.trans (B1.it.mono (by rw [hsz.it]; omega))) _⟩
end Go.Proofs.Ytemnhmnompehoaa
