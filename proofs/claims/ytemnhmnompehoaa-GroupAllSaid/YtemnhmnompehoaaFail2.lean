/-
  Where Add, Commit fail.
-/
import Derived.Test.YtemnhmnompehoaaFail
import Derived.Test.YtemnhmnompehoaaAdd
namespace Go.Proofs.Ytemnhmnompehoaa
open Go Go.RowKit
attribute [local go_sem ↓] Go.wp_at_zero Go.wp_at_succ

theorem add_check {w : World} {p : Nat} {A : Option Addr} {c : Nat} {l : List Gv} (h : Gs w p A c l) (s : ByteArray) (n sub att : Int) (hc : checkE s n = 220) :
    Calls Try.prog 44 #[.pointer (some ⟨p, 0, none⟩), .string s, .int .i64 n, .int .i64 sub, .int .i64 att] w fun e w' => e = .returned (.int .i64 220) ∧ Below w.heap.size w w' := by
  have hb0 : Below w.heap.size w (w.alloc (.cells #[.string s] 9)) := (Below.refl _ w).alloc (Nat.le_refl _) _
  have HA : Kp (Gs (w.alloc (.cells #[.string s] 9)) p A c l) := ⟨h.below hb0⟩
  have B0 := Kp.mk hb0
  have X0 : Kp ((w.alloc (.cells #[.string s] 9)).heap[w.heap.size]? = some (.cells #[.string s] 9 (0, 0))) := ⟨blk_new _ _⟩
  have hsz : Kp ((w.alloc (.cells #[.string s] 9)).heap.size = w.heap.size + 1) := ⟨by simp⟩
  have hlt := h.lt
  have HC := Kp.mk hc
  have DE := Kp.mk (dead_no HA.it)
  clear h hb0 hc
  go_enter Try.func44, Try.ntmps44
  go_wp2_with (first | (go_at_call 66; refine DE.it.mono ?_; rintro e w1 ⟨rfl, rfl⟩) | (go_at_call 48; refine (check_any s n _).mono ?_; rintro e w1 ⟨rfl, hb1⟩; rw [HC.it]; have B1 := Kp.mk hb1; have G1 := Kp.mk (HA.it.below hb1); have hsz1 := hb1.size; rw [hsz.it] at hsz1; have X1 : Kp (w1.heap[w.heap.size]? = some (.cells #[.string s] 9 (0, 0))) := ⟨(hb1.block _ (by rw [hsz.it]; omega)).trans X0.it⟩; clear hb1; have z0 := G1.it.c0))
  go_ret
  exact ⟨rfl, B0.it.trans (B1.it.mono (by rw [hsz.it]; omega))⟩
theorem add_there {w : World} {p : Nat} {A : Option Addr} {c : Nat} {l : List Gv} (h : Gs w p A c l) (s : ByteArray) (n sub att : Int) (hc : checkE s n = 0) (hno : l.any (isN s.toList) = true) :
    Calls Try.prog 44 #[.pointer (some ⟨p, 0, none⟩), .string s, .int .i64 n, .int .i64 sub, .int .i64 att] w fun e w' => e = .returned (.int .i64 70) ∧ Below w.heap.size w w' := by
  have hb0 : Below w.heap.size w (w.alloc (.cells #[.string s] 9)) := (Below.refl _ w).alloc (Nat.le_refl _) _
  have HA : Kp (Gs (w.alloc (.cells #[.string s] 9)) p A c l) := ⟨h.below hb0⟩
  have B0 := Kp.mk hb0
  have X0 : Kp ((w.alloc (.cells #[.string s] 9)).heap[w.heap.size]? = some (.cells #[.string s] 9 (0, 0))) := ⟨blk_new _ _⟩
  have hsz : Kp ((w.alloc (.cells #[.string s] 9)).heap.size = w.heap.size + 1) := ⟨by simp⟩
  have hlt := h.lt
  have HC := Kp.mk hc
  have HN := Kp.mk hno
  have DE := Kp.mk (dead_no HA.it)
  clear h hb0 hc hno
  go_enter Try.func44, Try.ntmps44
  go_wp2_with (first | (go_at_call 66; refine DE.it.mono ?_; rintro e w1 ⟨rfl, rfl⟩) | (go_at_call 48; refine (check_any s n _).mono ?_; rintro e w1 ⟨rfl, hb1⟩; rw [HC.it]; have B1 := Kp.mk hb1; have G1 := Kp.mk (HA.it.below hb1); have hsz1 := hb1.size; rw [hsz.it] at hsz1; have X1 : Kp (w1.heap[w.heap.size]? = some (.cells #[.string s] 9 (0, 0))) := ⟨(hb1.block _ (by rw [hsz.it]; omega)).trans X0.it⟩; clear hb1; have z0 := G1.it.c0) | (go_at_call 75; refine (has76 A l.length c l s w.heap.size _ X1.it G1.it.row).mono ?_; rintro e w2 ⟨rfl, hb2⟩; rw [HN.it]; have B2 := Kp.mk hb2; have G2 := Kp.mk (G1.it.below hb2); have hsz2 := hb2.size; clear hb2; have z1 := G2.it.c0))
  go_ret
  exact ⟨rfl, (B0.it.trans (B1.it.mono (by rw [hsz.it]; omega))).trans (B2.it.mono (by omega))⟩
theorem add_full {w : World} {p : Nat} {A : Option Addr} {c : Nat} {l : List Gv} (h : Gs w p A c l) (s : ByteArray) (n sub att : Int) (hc : checkE s n = 0) (hno : l.any (isN s.toList) = false) (hl : 3 ≤ l.length) :
    Calls Try.prog 44 #[.pointer (some ⟨p, 0, none⟩), .string s, .int .i64 n, .int .i64 sub, .int .i64 att] w fun e w' => e = .returned (.int .i64 7) ∧ Below w.heap.size w w' := by
  have hb0 : Below w.heap.size w (w.alloc (.cells #[.string s] 9)) := (Below.refl _ w).alloc (Nat.le_refl _) _
  have HA : Kp (Gs (w.alloc (.cells #[.string s] 9)) p A c l) := ⟨h.below hb0⟩
  have B0 := Kp.mk hb0
  have X0 : Kp ((w.alloc (.cells #[.string s] 9)).heap[w.heap.size]? = some (.cells #[.string s] 9 (0, 0))) := ⟨blk_new _ _⟩
  have hsz : Kp ((w.alloc (.cells #[.string s] 9)).heap.size = w.heap.size + 1) := ⟨by simp⟩
  have hlt := h.lt
  have HC := Kp.mk hc
  have HN := Kp.mk hno
  have hll : 3 ≤ (↑l.length : Int) := by omega
  have DE := Kp.mk (dead_no HA.it)
  clear h hb0 hc hno
  go_enter Try.func44, Try.ntmps44
  go_wp2_with (first | (go_at_call 66; refine DE.it.mono ?_; rintro e w1 ⟨rfl, rfl⟩) | (go_at_call 48; refine (check_any s n _).mono ?_; rintro e w1 ⟨rfl, hb1⟩; rw [HC.it]; have B1 := Kp.mk hb1; have G1 := Kp.mk (HA.it.below hb1); have hsz1 := hb1.size; rw [hsz.it] at hsz1; have X1 : Kp (w1.heap[w.heap.size]? = some (.cells #[.string s] 9 (0, 0))) := ⟨(hb1.block _ (by rw [hsz.it]; omega)).trans X0.it⟩; clear hb1; have z0 := G1.it.c0) | (go_at_call 75; refine (has76 A l.length c l s w.heap.size _ X1.it G1.it.row).mono ?_; rintro e w2 ⟨rfl, hb2⟩; rw [HN.it]; have B2 := Kp.mk hb2; have G2 := Kp.mk (G1.it.below hb2); have hsz2 := hb2.size; clear hb2; have z1 := G2.it.c0))
  go_ret
  exact ⟨rfl, (B0.it.trans (B1.it.mono (by rw [hsz.it]; omega))).trans (B2.it.mono (by omega))⟩
theorem add_arg {w : World} {p : Nat} {A : Option Addr} {c : Nat} {l : List Gv} (h : Gs w p A c l) (s : ByteArray) (n sub att : Int) (hc : checkE s n = 0) (hno : l.any (isN s.toList) = false) (hl : l.length < 3) (ha : sub < 1 ∨ 1099511627776 < sub ∨ att < 0 ∨ 1099511627776 < att) :
    Calls Try.prog 44 #[.pointer (some ⟨p, 0, none⟩), .string s, .int .i64 n, .int .i64 sub, .int .i64 att] w fun e w' => e = .returned (.int .i64 1) ∧ Below w.heap.size w w' := by
  have hb0 : Below w.heap.size w (w.alloc (.cells #[.string s] 9)) := (Below.refl _ w).alloc (Nat.le_refl _) _
  have HA : Kp (Gs (w.alloc (.cells #[.string s] 9)) p A c l) := ⟨h.below hb0⟩
  have B0 := Kp.mk hb0
  have X0 : Kp ((w.alloc (.cells #[.string s] 9)).heap[w.heap.size]? = some (.cells #[.string s] 9 (0, 0))) := ⟨blk_new _ _⟩
  have hsz : Kp ((w.alloc (.cells #[.string s] 9)).heap.size = w.heap.size + 1) := ⟨by simp⟩
  have hlt := h.lt
  have HC := Kp.mk hc
  have HN := Kp.mk hno
  have hll : (↑l.length : Int) < 3 := by omega
  have DE := Kp.mk (dead_no HA.it)
  clear h hb0 hc hno
  by_cases h1 : sub < 1
  · clear ha
    go_enter Try.func44, Try.ntmps44
    go_wp2_with (first | (go_at_call 66; refine DE.it.mono ?_; rintro e w1 ⟨rfl, rfl⟩) | (go_at_call 48; refine (check_any s n _).mono ?_; rintro e w1 ⟨rfl, hb1⟩; rw [HC.it]; have B1 := Kp.mk hb1; have G1 := Kp.mk (HA.it.below hb1); have hsz1 := hb1.size; rw [hsz.it] at hsz1; have X1 : Kp (w1.heap[w.heap.size]? = some (.cells #[.string s] 9 (0, 0))) := ⟨(hb1.block _ (by rw [hsz.it]; omega)).trans X0.it⟩; clear hb1; have z0 := G1.it.c0) | (go_at_call 75; refine (has76 A l.length c l s w.heap.size _ X1.it G1.it.row).mono ?_; rintro e w2 ⟨rfl, hb2⟩; rw [HN.it]; have B2 := Kp.mk hb2; have G2 := Kp.mk (G1.it.below hb2); have hsz2 := hb2.size; clear hb2; have z1 := G2.it.c0))
    go_ret
    exact ⟨rfl, (B0.it.trans (B1.it.mono (by rw [hsz.it]; omega))).trans (B2.it.mono (by omega))⟩
  by_cases h2 : 1099511627776 < sub
  · clear ha
    have h1 : 1 ≤ sub := by omega
    have h2 : sub > 1099511627776 := by omega
    go_enter Try.func44, Try.ntmps44
    go_wp2_with (first | (go_at_call 66; refine DE.it.mono ?_; rintro e w1 ⟨rfl, rfl⟩) | (go_at_call 48; refine (check_any s n _).mono ?_; rintro e w1 ⟨rfl, hb1⟩; rw [HC.it]; have B1 := Kp.mk hb1; have G1 := Kp.mk (HA.it.below hb1); have hsz1 := hb1.size; rw [hsz.it] at hsz1; have X1 : Kp (w1.heap[w.heap.size]? = some (.cells #[.string s] 9 (0, 0))) := ⟨(hb1.block _ (by rw [hsz.it]; omega)).trans X0.it⟩; clear hb1; have z0 := G1.it.c0) | (go_at_call 75; refine (has76 A l.length c l s w.heap.size _ X1.it G1.it.row).mono ?_; rintro e w2 ⟨rfl, hb2⟩; rw [HN.it]; have B2 := Kp.mk hb2; have G2 := Kp.mk (G1.it.below hb2); have hsz2 := hb2.size; clear hb2; have z1 := G2.it.c0))
    go_ret
    exact ⟨rfl, (B0.it.trans (B1.it.mono (by rw [hsz.it]; omega))).trans (B2.it.mono (by omega))⟩
  by_cases h3 : att < 0
  · clear ha
    have h1 : 1 ≤ sub := by omega
    have h2 : sub ≤ 1099511627776 := by omega
    go_enter Try.func44, Try.ntmps44
    go_wp2_with (first | (go_at_call 66; refine DE.it.mono ?_; rintro e w1 ⟨rfl, rfl⟩) | (go_at_call 48; refine (check_any s n _).mono ?_; rintro e w1 ⟨rfl, hb1⟩; rw [HC.it]; have B1 := Kp.mk hb1; have G1 := Kp.mk (HA.it.below hb1); have hsz1 := hb1.size; rw [hsz.it] at hsz1; have X1 : Kp (w1.heap[w.heap.size]? = some (.cells #[.string s] 9 (0, 0))) := ⟨(hb1.block _ (by rw [hsz.it]; omega)).trans X0.it⟩; clear hb1; have z0 := G1.it.c0) | (go_at_call 75; refine (has76 A l.length c l s w.heap.size _ X1.it G1.it.row).mono ?_; rintro e w2 ⟨rfl, hb2⟩; rw [HN.it]; have B2 := Kp.mk hb2; have G2 := Kp.mk (G1.it.below hb2); have hsz2 := hb2.size; clear hb2; have z1 := G2.it.c0))
    go_ret
    exact ⟨rfl, (B0.it.trans (B1.it.mono (by rw [hsz.it]; omega))).trans (B2.it.mono (by omega))⟩
  · have h4 : 1099511627776 < att := by omega
    have h1 : 1 ≤ sub := by omega
    have h2 : sub ≤ 1099511627776 := by omega
    have h3 : 0 ≤ att := by omega
    clear ha
    go_enter Try.func44, Try.ntmps44
    go_wp2_with (first | (go_at_call 66; refine DE.it.mono ?_; rintro e w1 ⟨rfl, rfl⟩) | (go_at_call 48; refine (check_any s n _).mono ?_; rintro e w1 ⟨rfl, hb1⟩; rw [HC.it]; have B1 := Kp.mk hb1; have G1 := Kp.mk (HA.it.below hb1); have hsz1 := hb1.size; rw [hsz.it] at hsz1; have X1 : Kp (w1.heap[w.heap.size]? = some (.cells #[.string s] 9 (0, 0))) := ⟨(hb1.block _ (by rw [hsz.it]; omega)).trans X0.it⟩; clear hb1; have z0 := G1.it.c0) | (go_at_call 75; refine (has76 A l.length c l s w.heap.size _ X1.it G1.it.row).mono ?_; rintro e w2 ⟨rfl, hb2⟩; rw [HN.it]; have B2 := Kp.mk hb2; have G2 := Kp.mk (G1.it.below hb2); have hsz2 := hb2.size; clear hb2; have z1 := G2.it.c0))
    go_ret
    exact ⟨rfl, (B0.it.trans (B1.it.mono (by rw [hsz.it]; omega))).trans (B2.it.mono (by omega))⟩

set_option maxHeartbeats 2000000 in
theorem commit_back {w : World} {p : Nat} {A : Option Addr} {c : Nat} {l : List Gv} (h : Gs w p A c l) (s : ByteArray) (k : Nat) (x : Gv) (hn : whereN s.toList l = k) (hx : l[k]? = some x) (m t : Int) (j : Nat) (pos : Int)
    (hi : inB x.x.mem m = true) (ht : (t == x.x.term) = true) (hj : j < x.x.own.length) (hd : rd x.x.own j = m) (hja : j < x.x.att.length) (hp0 : pos < rd x.x.att j) :
    Calls Try.prog 46 #[.pointer (some ⟨p, 0, none⟩), .string s, .int .i64 m, .int .i64 t, .int .i64 j, .int .i64 pos] w fun e w' => e = .returned (.int .i64 82) ∧ Below w.heap.size w w' := by
  have HX := Kp.mk hx
  have HA := Kp.mk h
  have HN := Kp.mk hn
  have OI := Kp.mk (owns_6 h s k x hn hx m t j hi ht hj hd)
  have hkl : k < l.length := (List.getElem?_eq_some_iff.1 hx).1
  have hk0 : (0 : Int) ≤ ↑k := by omega
  have hk1 : (↑k : Int) < ↑l.length := by omega
  have hbd := h.row.bd
  have hlt := h.lt
  have hj0 : (0 : Int) ≤ ↑j := by omega
  have hj1 : (↑j : Int) < ↑x.x.att.length := by omega
  have hat0 : 0 < x.x.att.length := by omega
  obtain ⟨b, o, hA, _, _⟩ := (h.ok x (List.mem_of_getElem? hx)).t.cells (by omega)
  have HT := Kp.mk hA
  clear h hx hn hi ht hd hA
  go_enter Try.func46, Try.ntmps46
  go_wp2_with (first | (go_at_call 31; refine OI.it.mono ?_; rintro e w1 ⟨rfl, hb1⟩; have B1 := Kp.mk hb1; have G1 := Kp.mk (HA.it.below hb1); clear hb1) | (go_at_call 64; refine (find_at G1.it s k HN.it).mono ?_; rintro e w2 ⟨rfl, hb2⟩; have B2 := Kp.mk hb2; have G2 := Kp.mk (G1.it.below hb2); clear hb2; have z0 := G2.it.c0; obtain ⟨g0, rfl, hg0, b0, b1, b2, b3, b4, b5, b6⟩ := G2.it.row.get HX.it; rw [HT.it] at b6; obtain ⟨b', o', hA', hbl, hcc⟩ := (G2.it.ok x (List.mem_of_getElem? HX.it)).t.get hja; rw [HT.it] at hA'; cases hA'))
  go_ret
  exact ⟨rfl, B1.it.trans (B2.it.mono B1.it.size)⟩
theorem commit_range {w : World} {p : Nat} {A : Option Addr} {c : Nat} {l : List Gv} (h : Gs w p A c l) (s : ByteArray) (k : Nat) (x : Gv) (hn : whereN s.toList l = k) (hx : l[k]? = some x) (m t : Int) (j : Nat) (pos : Int)
    (hi : inB x.x.mem m = true) (ht : (t == x.x.term) = true) (hj : j < x.x.own.length) (hd : rd x.x.own j = m) (hja : j < x.x.att.length) (hp0 : rd x.x.att j ≤ pos) (hp1 : 1099511627776 < pos) :
    Calls Try.prog 46 #[.pointer (some ⟨p, 0, none⟩), .string s, .int .i64 m, .int .i64 t, .int .i64 j, .int .i64 pos] w fun e w' => e = .returned (.int .i64 5) ∧ Below w.heap.size w w' := by
  have HX := Kp.mk hx
  have HA := Kp.mk h
  have HN := Kp.mk hn
  have OI := Kp.mk (owns_6 h s k x hn hx m t j hi ht hj hd)
  have hkl : k < l.length := (List.getElem?_eq_some_iff.1 hx).1
  have hk0 : (0 : Int) ≤ ↑k := by omega
  have hk1 : (↑k : Int) < ↑l.length := by omega
  have hbd := h.row.bd
  have hlt := h.lt
  have hj0 : (0 : Int) ≤ ↑j := by omega
  have hj1 : (↑j : Int) < ↑x.x.att.length := by omega
  have hat0 : 0 < x.x.att.length := by omega
  obtain ⟨b, o, hA, _, _⟩ := (h.ok x (List.mem_of_getElem? hx)).t.cells (by omega)
  have HT := Kp.mk hA
  clear h hx hn hi ht hd hA
  go_enter Try.func46, Try.ntmps46
  go_wp2_with (first | (go_at_call 31; refine OI.it.mono ?_; rintro e w1 ⟨rfl, hb1⟩; have B1 := Kp.mk hb1; have G1 := Kp.mk (HA.it.below hb1); clear hb1) | (go_at_call 64; refine (find_at G1.it s k HN.it).mono ?_; rintro e w2 ⟨rfl, hb2⟩; have B2 := Kp.mk hb2; have G2 := Kp.mk (G1.it.below hb2); clear hb2; have z0 := G2.it.c0; obtain ⟨g0, rfl, hg0, b0, b1, b2, b3, b4, b5, b6⟩ := G2.it.row.get HX.it; rw [HT.it] at b6; obtain ⟨b', o', hA', hbl, hcc⟩ := (G2.it.ok x (List.mem_of_getElem? HX.it)).t.get hja; rw [HT.it] at hA'; cases hA'))
  go_ret
  exact ⟨rfl, B1.it.trans (B2.it.mono B1.it.size)⟩
end Go.Proofs.Ytemnhmnompehoaa
