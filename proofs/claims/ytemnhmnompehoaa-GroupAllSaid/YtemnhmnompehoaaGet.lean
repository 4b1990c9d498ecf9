/-
  Reading: Get, Owns, Low.
-/
import Derived.Test.YtemnhmnompehoaaJoin
namespace Go.Proofs.Ytemnhmnompehoaa
open Go Go.RowKit
attribute [local go_sem ↓] Go.wp_at_zero Go.wp_at_succ

theorem res41 (W : World) (B : Nat) (a : ByteArray) (s t n : Int) (m o p v : Value) (tmps : Array Value) (hB : Bx W B a s t n m o p) (h4 : tmps[4]? = some (.pointer (some ⟨B, 0, none⟩))) (h5 : tmps[5]? = some v) :
    (results Try.f41 tmps).run Try.prog W = .ok (.tuple #[.agg #[.string a, .int .i64 s, .int .i64 t, .int .i64 n, m, o, p], v]) W := by
  obtain ⟨z0, z1, z2, z3, z4, z5, z6, _⟩ := hB.cells
  simp [results, Try.results41, go_sem, h4, h5, z0, z1, z2, z3, z4, z5, z6]

set_option maxHeartbeats 4000000 in
theorem get_ok {w : World} {p : Nat} {A : Option Addr} {c : Nat} {l : List Gv} (h : Gs w p A c l) (s : ByteArray) (k : Nat) (x : Gv) (hn : whereN s.toList l = k) (hx : l[k]? = some x) :
    Calls Try.prog 41 #[.pointer (some ⟨p, 0, none⟩), .string s] w fun e w' =>
    ∃ E1 d1 E2 d2 E3 d3, e = .returned (.tuple #[.agg #[.string x.x.name, .int .i64 x.x.sub, .int .i64 x.x.term, .int .i64 x.x.next, .slice E1 x.x.mem.length d1, .slice E2 x.x.own.length d2, .slice E3 x.x.att.length d3], .int .i64 0]) ∧
      Fresh w' w.heap.size ⟨x.x, E1, d1, E2, d2, E3, d3⟩ ∧ Below w.heap.size w w' := by
  obtain ⟨o0, ho0⟩ : ∃ o0, o0 = Obj.cells #[.string ⟨#[]⟩, .int .i64 0, .int .i64 0, .int .i64 0, .slice none 0 0, .slice none 0 0, .slice none 0 0] 51 := ⟨_, rfl⟩
  have HX := Kp.mk hx
  have HA : Kp (Gs (w.alloc o0) p A c l) := ⟨h.below ((Below.refl _ w).alloc (Nat.le_refl _) _)⟩
  have FI := Kp.mk (find_at HA.it s k hn)
  have hkl : k < l.length := (List.getElem?_eq_some_iff.1 hx).1
  have hk0 : (0 : Int) ≤ ↑k := by omega
  have hk1 : (↑k : Int) < ↑l.length := by omega
  have hbd := h.row.bd
  have hlt := h.lt
  have HB : Kp (Bx (w.alloc o0) w.heap.size ⟨#[]⟩ 0 0 0 (.slice none 0 0) (.slice none 0 0) (.slice none 0 0)) := ⟨by rw [ho0]; exact blk_new _ _⟩
  have hBa : Kp (Below w.heap.size w (w.alloc o0)) := ⟨(Below.refl _ w).alloc (Nat.le_refl _) _⟩
  have hsz : Kp ((w.alloc o0).heap.size = w.heap.size + 1) := ⟨by simp⟩
  rw [ho0] at FI HA HB hBa hsz
  clear h hx hn ho0
  go_enter Try.func41, Try.ntmps41
  go_wp2_with (first | (go_at_call 64; refine FI.it.mono ?_; rintro e w1 ⟨rfl, hb1⟩; have B1 := Kp.mk hb1; have G1 := Kp.mk (HA.it.below hb1); have hsz1 := hb1.size; rw [hsz.it] at hsz1; have X1 := Kp.mk (HB.it.kept hb1 (by rw [hsz.it]; omega)); clear hb1; have z0 := G1.it.c0; obtain ⟨g0, rfl, hg0, b0, b1, b2, b3, b4, b5, b6⟩ := G1.it.row.get HX.it) | (go_at_call 67; refine (copied_any x _ (G1.it.ok x (List.mem_of_getElem? HX.it))).mono ?_; rintro e w2 ⟨E1, d1, E2, d2, E3, d3, rfl, o1, o2, o3, j1, j2, j3, hb2⟩; have F2 : Kp (Fresh w2 w1.heap.size ⟨x.x, E1, d1, E2, d2, E3, d3⟩) := ⟨⟨o1, o2, o3, j1, j2, j3⟩⟩; have B2 := Kp.mk hb2; clear o1 o2 o3 j1 j2 j3 hb2; have X2 := Kp.mk (X1.it.kept B2.it (by omega)); obtain ⟨q0, q1, q2, q3, q4, q5, q6, f0, f1, f2, f3, f4, f5, f6⟩ := X2.it.cells))
  refine bodyPost_ret (res41 _ w.heap.size _ _ _ _ _ _ _ _ _ (blk_set _ (blk_set _ (blk_set _ (blk_set _ (blk_set _ (blk_set _ (blk_set _ X2.it))))))) rfl rfl) rfl ?_
  have K7 := (((((((Kt.refl w.heap.size w.heap.size w2).set (.inl rfl) 0 (.string x.x.name)).set (.inl rfl) 1 (.int .i64 x.x.sub)).set (.inl rfl) 2 (.int .i64 x.x.term)).set (.inl rfl) 3 (.int .i64 x.x.next)).set (.inl rfl) 4 (Value.slice E1 x.x.mem.length d1)).set (.inl rfl) 5 (Value.slice E2 x.x.own.length d2)).set (.inl rfl) 6 (Value.slice E3 x.x.att.length d3)
  exact ⟨_, _, _, _, _, _, rfl, (F2.it.kt K7 (by omega) (by omega)).relax (by omega), ((hBa.it.trans (B1.it.mono (by rw [hsz.it]; omega))).trans (B2.it.mono (by omega))).trans (K7.below (Nat.le_refl _) (Nat.le_refl _))⟩

def Gp.ownsE (x : Gp) (m t q : Int) : Int := if ¬ m ∈ x.mem then 221 else if t ≠ x.term then 222 else if q < 0 ∨ x.own.length ≤ q then 1 else if rd x.own q.toNat ≠ m then 223 else 0

theorem cell_att {w : World} {A : Option Addr} {n b o : Nat} {xs : List Int} (h : Rd w A n xs) (hA : A = some ⟨b, o, none⟩) (j : Nat) (hj : j < xs.length) : w.cell? ⟨b, o + j, none⟩ = some (.int .i64 (xs.getD j 0)) := by
  obtain ⟨b', o', e, _, hc⟩ := h.get (k := j) (by rw [← h.len]; exact hj)
  rw [hA] at e
  cases e
  exact hc
set_option maxHeartbeats 4000000 in
theorem low_ok {w : World} {p : Nat} {A : Option Addr} {c : Nat} {l : List Gv} (h : Gs w p A c l) (s : ByteArray) (k : Nat) (x : Gv) (hn : whereN s.toList l = k) (hx : l[k]? = some x) (ha : 0 < x.x.att.length) (hs : x.x.small) :
    Calls Try.prog 29 #[.pointer (some ⟨p, 0, none⟩), .string s] w fun e w' =>
    e = .returned (.tuple #[.int .i64 (Lib.minOf x.x.att), .int .i64 0]) ∧ Below w.heap.size w w' := by
  have HX := Kp.mk hx
  have HA := Kp.mk h
  have FI := Kp.mk (find_at h s k hn)
  have HS := Kp.mk hs
  have hkl : k < l.length := (List.getElem?_eq_some_iff.1 hx).1
  have hk0 : (0 : Int) ≤ ↑k := by omega
  have hk1 : (↑k : Int) < ↑l.length := by omega
  have hbd := h.row.bd
  have hlt := h.lt
  obtain ⟨b, o, hA, _, _⟩ := (h.ok x (List.mem_of_getElem? hx)).t.cells ha
  have HT := Kp.mk hA
  clear h hx hn hs hA
  go_enter Try.func29, Try.ntmps29
  go_wp2_with (first | (go_at_call 64; refine FI.it.mono ?_; rintro e w1 ⟨rfl, hb1⟩; have B1 := Kp.mk hb1; have G1 := Kp.mk (HA.it.below hb1); clear hb1; have z0 := G1.it.c0; obtain ⟨g0, rfl, hg0, b0, b1, b2, b3, b4, b5, b6⟩ := G1.it.row.get HX.it; rw [HT.it] at b6) | (go_at_call 65; refine (Try.slices_Min_int b o _ _ x.x.att _ ha (Nat.le_refl _) (by have := HS.it.t; omega) (fun j hj => cell_att (G1.it.ok x (List.mem_of_getElem? HX.it)).t HT.it j hj)).mono ?_; rintro e w2 ⟨rfl, rfl⟩; rw [List.take_length]))
  go_ret2
  exact ⟨rfl, B1.it⟩

set_option maxHeartbeats 4000000 in
theorem owns_1 {w : World} {p : Nat} {A : Option Addr} {c : Nat} {l : List Gv} (h : Gs w p A c l) (s : ByteArray) (k : Nat) (x : Gv) (hn : whereN s.toList l = k) (hx : l[k]? = some x) (m t : Int) (q : Int) (hi : inB x.x.mem m = false) :
    Calls Try.prog 31 #[.pointer (some ⟨p, 0, none⟩), .string s, .int .i64 m, .int .i64 t, .int .i64 q] w fun e w' =>
    e = .returned (.int .i64 221) ∧ Below w.heap.size w w' := by
  have HX := Kp.mk hx
  have HA := Kp.mk h
  have FI := Kp.mk (find_at h s k hn)
  have HI := Kp.mk hi
  have hkl : k < l.length := (List.getElem?_eq_some_iff.1 hx).1
  have hk0 : (0 : Int) ≤ ↑k := by omega
  have hk1 : (↑k : Int) < ↑l.length := by omega
  have hbd := h.row.bd
  have hlt := h.lt
  clear h hx hn hi
  go_enter Try.func31, Try.ntmps31
  go_wp2_with (first | (go_at_call 64; refine FI.it.mono ?_; rintro e w1 ⟨rfl, hb1⟩; have B1 := Kp.mk hb1; have G1 := Kp.mk (HA.it.below hb1); have K1 := Kp.mk ((G1.it.ok x (List.mem_of_getElem? HX.it)).below ((Below.refl _ w1).alloc (Nat.le_refl _) (Obj.cells #[.string x.x.name, .int .i64 x.x.sub, .int .i64 x.x.term, .int .i64 x.x.next, .slice x.mA x.x.mem.length x.mc, .slice x.oA x.x.own.length x.oc, .slice x.tA x.x.att.length x.tc] 51))); clear hb1; have z0 := G1.it.c0; obtain ⟨g0, rfl, hg0, b0, b1, b2, b3, b4, b5, b6⟩ := G1.it.row.get HX.it) | (go_at_call 19; refine (contains_any _ _ _ _ m _ K1.it.m).mono ?_; rintro e w2 ⟨rfl, rfl⟩; rw [HI.it]))
  go_ret
  exact ⟨rfl, B1.it.trans (((Below.refl _ w1).alloc (Nat.le_refl _) _).mono B1.it.size)⟩
set_option maxHeartbeats 4000000 in
theorem owns_2 {w : World} {p : Nat} {A : Option Addr} {c : Nat} {l : List Gv} (h : Gs w p A c l) (s : ByteArray) (k : Nat) (x : Gv) (hn : whereN s.toList l = k) (hx : l[k]? = some x) (m t : Int) (q : Int) (hi : inB x.x.mem m = true) (ht : (t == x.x.term) = false) :
    Calls Try.prog 31 #[.pointer (some ⟨p, 0, none⟩), .string s, .int .i64 m, .int .i64 t, .int .i64 q] w fun e w' =>
    e = .returned (.int .i64 222) ∧ Below w.heap.size w w' := by
  have HX := Kp.mk hx
  have HA := Kp.mk h
  have FI := Kp.mk (find_at h s k hn)
  have HI := Kp.mk hi
  have hkl : k < l.length := (List.getElem?_eq_some_iff.1 hx).1
  have hk0 : (0 : Int) ≤ ↑k := by omega
  have hk1 : (↑k : Int) < ↑l.length := by omega
  have hbd := h.row.bd
  have hlt := h.lt
  clear h hx hn hi
  go_enter Try.func31, Try.ntmps31
  go_wp2_with (first | (go_at_call 64; refine FI.it.mono ?_; rintro e w1 ⟨rfl, hb1⟩; have B1 := Kp.mk hb1; have G1 := Kp.mk (HA.it.below hb1); have K1 := Kp.mk ((G1.it.ok x (List.mem_of_getElem? HX.it)).below ((Below.refl _ w1).alloc (Nat.le_refl _) (Obj.cells #[.string x.x.name, .int .i64 x.x.sub, .int .i64 x.x.term, .int .i64 x.x.next, .slice x.mA x.x.mem.length x.mc, .slice x.oA x.x.own.length x.oc, .slice x.tA x.x.att.length x.tc] 51))); clear hb1; have z0 := G1.it.c0; obtain ⟨g0, rfl, hg0, b0, b1, b2, b3, b4, b5, b6⟩ := G1.it.row.get HX.it) | (go_at_call 19; refine (contains_any _ _ _ _ m _ K1.it.m).mono ?_; rintro e w2 ⟨rfl, rfl⟩; rw [HI.it]))
  go_ret
  exact ⟨rfl, B1.it.trans (((Below.refl _ w1).alloc (Nat.le_refl _) _).mono B1.it.size)⟩
set_option maxHeartbeats 4000000 in
theorem owns_3 {w : World} {p : Nat} {A : Option Addr} {c : Nat} {l : List Gv} (h : Gs w p A c l) (s : ByteArray) (k : Nat) (x : Gv) (hn : whereN s.toList l = k) (hx : l[k]? = some x) (m t : Int) (q : Int) (hi : inB x.x.mem m = true) (ht : (t == x.x.term) = true) (hq : q < 0) :
    Calls Try.prog 31 #[.pointer (some ⟨p, 0, none⟩), .string s, .int .i64 m, .int .i64 t, .int .i64 q] w fun e w' =>
    e = .returned (.int .i64 1) ∧ Below w.heap.size w w' := by
  have HX := Kp.mk hx
  have HA := Kp.mk h
  have FI := Kp.mk (find_at h s k hn)
  have HI := Kp.mk hi
  have hkl : k < l.length := (List.getElem?_eq_some_iff.1 hx).1
  have hk0 : (0 : Int) ≤ ↑k := by omega
  have hk1 : (↑k : Int) < ↑l.length := by omega
  have hbd := h.row.bd
  have hlt := h.lt
  clear h hx hn hi
  go_enter Try.func31, Try.ntmps31
  go_wp2_with (first | (go_at_call 64; refine FI.it.mono ?_; rintro e w1 ⟨rfl, hb1⟩; have B1 := Kp.mk hb1; have G1 := Kp.mk (HA.it.below hb1); have K1 := Kp.mk ((G1.it.ok x (List.mem_of_getElem? HX.it)).below ((Below.refl _ w1).alloc (Nat.le_refl _) (Obj.cells #[.string x.x.name, .int .i64 x.x.sub, .int .i64 x.x.term, .int .i64 x.x.next, .slice x.mA x.x.mem.length x.mc, .slice x.oA x.x.own.length x.oc, .slice x.tA x.x.att.length x.tc] 51))); clear hb1; have z0 := G1.it.c0; obtain ⟨g0, rfl, hg0, b0, b1, b2, b3, b4, b5, b6⟩ := G1.it.row.get HX.it) | (go_at_call 19; refine (contains_any _ _ _ _ m _ K1.it.m).mono ?_; rintro e w2 ⟨rfl, rfl⟩; rw [HI.it]))
  go_ret
  exact ⟨rfl, B1.it.trans (((Below.refl _ w1).alloc (Nat.le_refl _) _).mono B1.it.size)⟩
set_option maxHeartbeats 4000000 in
theorem owns_4 {w : World} {p : Nat} {A : Option Addr} {c : Nat} {l : List Gv} (h : Gs w p A c l) (s : ByteArray) (k : Nat) (x : Gv) (hn : whereN s.toList l = k) (hx : l[k]? = some x) (m t : Int) (q : Int) (hi : inB x.x.mem m = true) (ht : (t == x.x.term) = true) (hq0 : 0 ≤ q) (hq : (x.x.own.length : Int) ≤ q) :
    Calls Try.prog 31 #[.pointer (some ⟨p, 0, none⟩), .string s, .int .i64 m, .int .i64 t, .int .i64 q] w fun e w' =>
    e = .returned (.int .i64 1) ∧ Below w.heap.size w w' := by
  have HX := Kp.mk hx
  have HA := Kp.mk h
  have FI := Kp.mk (find_at h s k hn)
  have HI := Kp.mk hi
  have hkl : k < l.length := (List.getElem?_eq_some_iff.1 hx).1
  have hk0 : (0 : Int) ≤ ↑k := by omega
  have hk1 : (↑k : Int) < ↑l.length := by omega
  have hbd := h.row.bd
  have hlt := h.lt
  clear h hx hn hi
  go_enter Try.func31, Try.ntmps31
  go_wp2_with (first | (go_at_call 64; refine FI.it.mono ?_; rintro e w1 ⟨rfl, hb1⟩; have B1 := Kp.mk hb1; have G1 := Kp.mk (HA.it.below hb1); have K1 := Kp.mk ((G1.it.ok x (List.mem_of_getElem? HX.it)).below ((Below.refl _ w1).alloc (Nat.le_refl _) (Obj.cells #[.string x.x.name, .int .i64 x.x.sub, .int .i64 x.x.term, .int .i64 x.x.next, .slice x.mA x.x.mem.length x.mc, .slice x.oA x.x.own.length x.oc, .slice x.tA x.x.att.length x.tc] 51))); clear hb1; have z0 := G1.it.c0; obtain ⟨g0, rfl, hg0, b0, b1, b2, b3, b4, b5, b6⟩ := G1.it.row.get HX.it) | (go_at_call 19; refine (contains_any _ _ _ _ m _ K1.it.m).mono ?_; rintro e w2 ⟨rfl, rfl⟩; rw [HI.it]))
  go_ret
  exact ⟨rfl, B1.it.trans (((Below.refl _ w1).alloc (Nat.le_refl _) _).mono B1.it.size)⟩
set_option maxHeartbeats 4000000 in
theorem owns_5 {w : World} {p : Nat} {A : Option Addr} {c : Nat} {l : List Gv} (h : Gs w p A c l) (s : ByteArray) (k : Nat) (x : Gv) (hn : whereN s.toList l = k) (hx : l[k]? = some x) (m t : Int) (j : Nat) (hi : inB x.x.mem m = true) (ht : (t == x.x.term) = true) (hj : j < x.x.own.length) (hd : (rd x.x.own j == m) = false) :
    Calls Try.prog 31 #[.pointer (some ⟨p, 0, none⟩), .string s, .int .i64 m, .int .i64 t, .int .i64 j] w fun e w' =>
    e = .returned (.int .i64 223) ∧ Below w.heap.size w w' := by
  have HX := Kp.mk hx
  have HA := Kp.mk h
  have FI := Kp.mk (find_at h s k hn)
  have HI := Kp.mk hi
  have hkl : k < l.length := (List.getElem?_eq_some_iff.1 hx).1
  have hk0 : (0 : Int) ≤ ↑k := by omega
  have hk1 : (↑k : Int) < ↑l.length := by omega
  have hbd := h.row.bd
  have hlt := h.lt
  have hj0 : (0 : Int) ≤ ↑j := by omega
  have hj1 : (↑j : Int) < ↑x.x.own.length := by omega
  obtain ⟨b, o, hA, _, _⟩ := (h.ok x (List.mem_of_getElem? hx)).o.cells (by omega)
  have HT := Kp.mk hA
  clear hA
  clear h hx hn hi
  go_enter Try.func31, Try.ntmps31
  go_wp2_with (first | (go_at_call 64; refine FI.it.mono ?_; rintro e w1 ⟨rfl, hb1⟩; have B1 := Kp.mk hb1; have G1 := Kp.mk (HA.it.below hb1); have K1 := Kp.mk ((G1.it.ok x (List.mem_of_getElem? HX.it)).below ((Below.refl _ w1).alloc (Nat.le_refl _) (Obj.cells #[.string x.x.name, .int .i64 x.x.sub, .int .i64 x.x.term, .int .i64 x.x.next, .slice x.mA x.x.mem.length x.mc, .slice (some ⟨b, o, none⟩) x.x.own.length x.oc, .slice x.tA x.x.att.length x.tc] 51))); clear hb1; have z0 := G1.it.c0; obtain ⟨g0, rfl, hg0, b0, b1, b2, b3, b4, b5, b6⟩ := G1.it.row.get HX.it; rw [HT.it] at b5; obtain ⟨b', o', hA', hbl, hcc⟩ := (G1.it.ok x (List.mem_of_getElem? HX.it)).o.get hj; rw [HT.it] at hA'; cases hA') | (go_at_call 19; refine (contains_any _ _ _ _ m _ K1.it.m).mono ?_; rintro e w2 ⟨rfl, rfl⟩; rw [HI.it]))
  go_ret
  exact ⟨rfl, B1.it.trans (((Below.refl _ w1).alloc (Nat.le_refl _) _).mono B1.it.size)⟩
set_option maxHeartbeats 4000000 in
theorem owns_6 {w : World} {p : Nat} {A : Option Addr} {c : Nat} {l : List Gv} (h : Gs w p A c l) (s : ByteArray) (k : Nat) (x : Gv) (hn : whereN s.toList l = k) (hx : l[k]? = some x) (m t : Int) (j : Nat) (hi : inB x.x.mem m = true) (ht : (t == x.x.term) = true) (hj : j < x.x.own.length) (hd : rd x.x.own j = m) :
    Calls Try.prog 31 #[.pointer (some ⟨p, 0, none⟩), .string s, .int .i64 m, .int .i64 t, .int .i64 j] w fun e w' =>
    e = .returned (.int .i64 0) ∧ Below w.heap.size w w' := by
  have HX := Kp.mk hx
  have HA := Kp.mk h
  have FI := Kp.mk (find_at h s k hn)
  have HI := Kp.mk hi
  have hkl : k < l.length := (List.getElem?_eq_some_iff.1 hx).1
  have hk0 : (0 : Int) ≤ ↑k := by omega
  have hk1 : (↑k : Int) < ↑l.length := by omega
  have hbd := h.row.bd
  have hlt := h.lt
  have hj0 : (0 : Int) ≤ ↑j := by omega
  have hj1 : (↑j : Int) < ↑x.x.own.length := by omega
  obtain ⟨b, o, hA, _, _⟩ := (h.ok x (List.mem_of_getElem? hx)).o.cells (by omega)
  have HT := Kp.mk hA
  clear hA
  clear h hx hn hi
  go_enter Try.func31, Try.ntmps31
  go_wp2_with (first | (go_at_call 64; refine FI.it.mono ?_; rintro e w1 ⟨rfl, hb1⟩; have B1 := Kp.mk hb1; have G1 := Kp.mk (HA.it.below hb1); have K1 := Kp.mk ((G1.it.ok x (List.mem_of_getElem? HX.it)).below ((Below.refl _ w1).alloc (Nat.le_refl _) (Obj.cells #[.string x.x.name, .int .i64 x.x.sub, .int .i64 x.x.term, .int .i64 x.x.next, .slice x.mA x.x.mem.length x.mc, .slice (some ⟨b, o, none⟩) x.x.own.length x.oc, .slice x.tA x.x.att.length x.tc] 51))); clear hb1; have z0 := G1.it.c0; obtain ⟨g0, rfl, hg0, b0, b1, b2, b3, b4, b5, b6⟩ := G1.it.row.get HX.it; rw [HT.it] at b5; obtain ⟨b', o', hA', hbl, hcc⟩ := (G1.it.ok x (List.mem_of_getElem? HX.it)).o.get hj; rw [HT.it] at hA'; cases hA'; (try rw [hd] at hcc)) | (go_at_call 19; refine (contains_any _ _ _ _ m _ K1.it.m).mono ?_; rintro e w2 ⟨rfl, rfl⟩; rw [HI.it]))
  go_ret
  exact ⟨rfl, B1.it.trans (((Below.refl _ w1).alloc (Nat.le_refl _) _).mono B1.it.size)⟩
