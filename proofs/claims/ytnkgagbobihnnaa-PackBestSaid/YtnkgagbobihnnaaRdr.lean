/-
  A reader of the wire: what it holds, its small calls.
-/
import Derived.Test.YtnkgagbobihnnaaPkk
import Derived.Test.YtnkgagbobihnnaaRFro
import Derived.BigQuiet
import Derived.IntWalk
namespace Go.Proofs.Ytnkgagbobihnnaa
open Go Go.RowKit
attribute [local go_sem ↓] Go.wp_at_zero Go.wp_at_succ

theorem Rb.grown {w w' : World} {A : Option Addr} {n : Nat} {xs : List UInt8} {g : Nat} (h : Rb w A n xs) (hg : w.grownBy w' (some g)) (hne : 0 < n → ∀ b o, A = some ⟨b, o, none⟩ → b ≠ g) : Rb w' A n xs :=
  ⟨h.len, h.bd, fun hn => by
    obtain ⟨b, o, e, hlt, hc⟩ := h.cells hn
    refine ⟨b, o, e, Nat.lt_of_lt_of_le hlt hg.size, fun j hj => ?_⟩
    have := hg.block b hlt (by have := hne hn b o e; simpa using this)
    rw [← hc j hj]
    unfold World.cell?
    rw [this]⟩
theorem OwnB.form4 {W : World} {base : Nat} {v : Value} {l : List UInt8} (h : OwnB W base v l) (hl : l.length ≤ 140737488355328) :
    ∃ A c, v = .slice A l.length c ∧ (0 < l.length → ∃ g, A = some ⟨g, 0, none⟩) ∧ (∀ b o, A = some ⟨b, o, none⟩ → b < W.heap.size) ∧ l.length ≤ c ∧ c < 9223372036854775808 ∧ Rb W A l.length l := by
  obtain ⟨A, c, e, _, hc, hr⟩ := h.form hl
  unfold OwnB at h
  subst e
  rcases h.2 with ⟨e, h0⟩ | ⟨g, cap, cur, e, hb, hh, h1, h2, h3, h4⟩
  · simp only [Value.slice.injEq] at e
    obtain ⟨rfl, _, rfl⟩ := e
    exact ⟨none, 0, rfl, fun h => by omega, fun _ _ e => (by cases e), hc, by omega, hr⟩
  · simp only [Value.slice.injEq] at e
    obtain ⟨rfl, _, rfl⟩ := e
    refine ⟨_, _, rfl, fun _ => ⟨g, rfl⟩, fun b o e => ?_, hc, by unfold maxLen at h2; omega, hr⟩
    cases e
    exact (Array.getElem?_eq_some_iff.1 hh).1
/-- Block p is a reader of the bytes l, which lie in block g; it stands at a; its error is e. -/
structure RDR (w : World) (p : Nat) (A : Option Addr) (n c : Nat) (l : List UInt8) (a e : Nat) : Prop where
  blk : w.heap[p]? = some (.cells #[.slice A n c, .int .i64 a, .int .i64 e, .bool true] 80 (0, 0))
  row : Rb w A n l
  ne : ∀ b o, A = some ⟨b, o, none⟩ → b ≠ p
  pos : a ≤ n
  cap : n ≤ c
  small : c < 9223372036854775808
theorem RDR.cells {w : World} {p n c : Nat} {A : Option Addr} {l : List UInt8} {a e : Nat} (h : RDR w p A n c l a e) :
    w.cell? ⟨p, 0, none⟩ = some (.slice A n c) ∧ w.cell? ⟨p, 1, none⟩ = some (.int .i64 a) ∧ w.cell? ⟨p, 2, none⟩ = some (.int .i64 e) ∧ w.cell? ⟨p, 3, none⟩ = some (.bool true) ∧ w.frozen? ⟨p, 1, none⟩ = false ∧ w.frozen? ⟨p, 2, none⟩ = false :=
  ⟨blk_cell h.blk rfl, blk_cell h.blk rfl, blk_cell h.blk rfl, blk_cell h.blk rfl, blk_free h.blk, blk_free h.blk⟩
theorem RDR.at {w : World} {p n c : Nat} {A : Option Addr} {l : List UInt8} {a e : Nat} (h : RDR w p A n c l a e) {b : Nat} (hb : b ≤ n) : RDR (w.setCell ⟨p, 1, none⟩ (.int .i64 b)) p A n c l b e :=
  ⟨by rw [blk_set _ h.blk]; rfl, h.row.grown (grown_set (World.grownBy.refl w (some p)) _ _) (fun _ => h.ne), h.ne, hb, h.cap, h.small⟩
theorem RDR.er {w : World} {p n c : Nat} {A : Option Addr} {l : List UInt8} {a e : Nat} (h : RDR w p A n c l a e) (b : Nat) : RDR (w.setCell ⟨p, 2, none⟩ (.int .i64 b)) p A n c l a b :=
  ⟨by rw [blk_set _ h.blk]; rfl, h.row.grown (grown_set (World.grownBy.refl w (some p)) _ _) (fun _ => h.ne), h.ne, h.pos, h.cap, h.small⟩
theorem RDR.drew {w : World} {p n c : Nat} {A : Option Addr} {l : List UInt8} {a e : Nat} (h : RDR w p A n c l a e) : RDR w.drew p A n c l a e := ⟨h.blk, h.row.below (below_drewN (Below.refl _ _) 1), h.ne, h.pos, h.cap, h.small⟩
theorem RDR.below {w w' : World} {p n c : Nat} {A : Option Addr} {l : List UInt8} {a e : Nat} (h : RDR w p A n c l a e) (hb : Below w.heap.size w w') : RDR w' p A n c l a e :=
  ⟨(hb.block p (Array.getElem?_eq_some_iff.1 h.blk).1).trans h.blk, h.row.below hb, h.ne, h.pos, h.cap, h.small⟩

theorem RDR.drewN {w : World} {p n c : Nat} {A : Option Addr} {l : List UInt8} {a e : Nat} (h : RDR w p A n c l a e) (m : Nat) : RDR (w.drewN m) p A n c l a e := ⟨h.blk, h.row.below (below_drewN (Below.refl _ _) m), h.ne, h.pos, h.cap, h.small⟩
theorem RDR.at2 {w : World} {p n c : Nat} {A : Option Addr} {l : List UInt8} {a e k : Nat} (h : RDR w p A n c l a e) (hb : a + k ≤ n) : RDR (w.setCell ⟨p, 1, none⟩ (.int .i64 ((a : Int) + (k : Int)))) p A n c l (a + k) e := by
  have := h.at hb
  rwa [Int.natCast_add] at this
theorem grown_drewN {w w' : World} {r : Option Nat} (h : w.grownBy w' r) (m : Nat) : w.grownBy (w'.drewN m) r := ⟨h.os, h.tape, h.output, h.size, h.block⟩
theorem Rb.mid {w : World} {g n k a : Nat} {l : List UInt8} (h : Rb w (some ⟨g, 0, none⟩) n l) (hk : a + k ≤ n) : Rb w (some ⟨g, a, none⟩) k ((l.drop a).take k) := by
  have h1 := (h.drop_some (k := a) (by omega)).take (k := k) (by omega)
  rwa [Nat.zero_add] at h1
theorem dead75 {w : World} {p n c : Nat} {A : Option Addr} {l : List UInt8} {a e : Nat} (h : RDR w p A n c l a e) : Calls Try.prog 75 #[.pointer (some ⟨p, 0, none⟩)] w fun r w' => r = .returned (.bool false) ∧ w = w' := by
  obtain ⟨h0, h1, h2, h3, f1, f2⟩ := h.cells
  clear h
  go_enter Try.func75, Try.ntmps75
  go_wp2
  go_ret
  exact ⟨rfl, rfl⟩
theorem err51 {w : World} {p n c : Nat} {A : Option Addr} {l : List UInt8} {a e : Nat} (h : RDR w p A n c l a e) : Calls Try.prog 51 #[.pointer (some ⟨p, 0, none⟩)] w fun r w' => r = .returned (.int .i64 e) ∧ w = w' := by
  obtain ⟨h0, h1, h2, h3, f1, f2⟩ := h.cells
  have HD := Kp.mk (dead75 h)
  clear h
  go_enter Try.func51, Try.ntmps51
  go_wp2_with (go_at_call 75; refine HD.it.mono ?_; rintro e w1 ⟨rfl, rfl⟩)
  go_ret
  exact ⟨rfl, rfl⟩
theorem left82 {w : World} {p n c : Nat} {A : Option Addr} {l : List UInt8} {a e : Nat} (h : RDR w p A n c l a e) : Calls Try.prog 82 #[.pointer (some ⟨p, 0, none⟩)] w fun r w' => r = .returned (.int .i64 ((n - a : Nat) : Int)) ∧ Below w.heap.size w w' := by
  obtain ⟨h0, h1, h2, h3, f1, f2⟩ := h.cells
  have HD := Kp.mk (dead75 h)
  have hpos := h.pos
  have hn := h.row.bd
  have hw : IntKind.i64.wrap ((n : Int) - (a : Int)) = ((n - a : Nat) : Int) := by rw [← Int.ofNat_sub hpos]; exact IntWalk.i64_in _ (by omega)
  clear h
  go_enter Try.func82, Try.ntmps82
  go_wp2_with (first | (go_at_call 75; refine HD.it.mono ?_; rintro e w1 ⟨rfl, rfl⟩) | go_quiet (fail))
  go_ret
  exact ⟨rfl, below_drewN (Below.refl _ _) _⟩
theorem fail77 {w : World} {p n c : Nat} {A : Option Addr} {l : List UInt8} {a : Nat} (h : RDR w p A n c l a 0) (k : Nat) : Calls Try.prog 77 #[.pointer (some ⟨p, 0, none⟩), .int .i64 k] w fun r w' => r = .returned (.tuple #[]) ∧ RDR w' p A n c l a k ∧ w.grownBy w' (some p) := by
  obtain ⟨h0, h1, h2, h3, f1, f2⟩ := h.cells
  have H := Kp.mk h
  clear h
  go_enter Try.func77, Try.ntmps77
  go_wp2
  refine bodyPost_end (results_none rfl _ _ _) rfl ?_
  exact ⟨rfl, H.it.er k, grown_set (World.grownBy.refl w (some p)) _ _⟩
/-- k bytes are there: they come. -/
theorem bytes76 {w : World} {p g n c : Nat} {l : List UInt8} {a : Nat} (h : RDR w p (some ⟨g, 0, none⟩) n c l a 0) (k : Nat) (hk : a + k ≤ n) : Calls Try.prog 76 #[.pointer (some ⟨p, 0, none⟩), .int .i64 k] w fun r w' =>
    ∃ o, r = .returned (.slice (some ⟨g, o, none⟩) k (c - a)) ∧ Rb w' (some ⟨g, o, none⟩) k ((l.drop a).take k) ∧ RDR w' p (some ⟨g, 0, none⟩) n c l (a + k) 0 ∧ w.grownBy w' (some p) := by
  have H := Kp.mk h
  have H2 := Kp.mk (h.at hk)
  have G2 := Kp.mk (grown_set (World.grownBy.refl w (some p)) 1 (.int .i64 (a + k : Nat)))
  have hn := h.row.bd
  have hcap := h.cap
  have hsm := h.small
  have hw : IntKind.i64.wrap ((n : Int) - (a : Int)) = (n : Int) - (a : Int) := IntWalk.i64_in _ (by omega)
  have hw2 : IntKind.i64.wrap ((a : Int) + (k : Int)) = ((a + k : Nat) : Int) := by rw [IntWalk.i64_in _ (by omega)]; simp
  have hw3 : IntKind.i64.wrap (((a + k : Nat) : Int) - (k : Int)) = (a : Int) := by rw [IntWalk.i64_in _ (by omega)]; omega
  have hd : decide ((k : Int) > (n : Int) - (a : Int)) = false := by simp; omega
  obtain ⟨h0, h1, h2, h3, f1, f2⟩ := h.cells
  obtain ⟨W2, hW2⟩ : ∃ W2, W2 = w.setCell ⟨p, 1, none⟩ (.int .i64 (a + k : Nat)) := ⟨_, rfl⟩
  clear h
  go_enter Try.func76, Try.ntmps76
  go_wp2_with (go_quiet (fail))
  · go_ret
    have hk0 : k = 0 := by omega
    have hca : c = a := by omega
    subst hk0
    subst hca
    exact ⟨0, rfl, ⟨by simp, by omega, fun h => absurd h (by omega)⟩, ((H.it.drewN _).at2 hk).drewN _, grown_drewN (grown_set (grown_drewN (World.grownBy.refl w (some p)) _) 1 _) _⟩
  · go_ret
    exact ⟨a, rfl, ((((H.it.drewN _).at2 hk).drewN _).row.mid hk), ((H.it.drewN _).at2 hk).drewN _, grown_drewN (grown_set (grown_drewN (World.grownBy.refl w (some p)) _) 1 _) _⟩
/-- All is read. -/
theorem end55 {w : World} {p n c : Nat} {A : Option Addr} {l : List UInt8} (h : RDR w p A n c l n 0) : Calls Try.prog 55 #[.pointer (some ⟨p, 0, none⟩)] w fun r w' => r = .returned (.int .i64 0) ∧ Below w.heap.size w w' := by
  have HE := Kp.mk (err51 h)
  have HL := Kp.mk (left82 h)
  have e : n - n = 0 := by omega
  rw [e] at HL
  clear h e
  go_enter Try.func55, Try.ntmps55
  go_wp2_with (first | (go_at_call 51; refine HE.it.mono ?_; rintro e w1 ⟨rfl, rfl⟩) | (go_at_call 82; refine HL.it.mono ?_; rintro e w1 ⟨rfl, hb1⟩))
  go_ret
  exact ⟨rfl, hb1⟩
/-- A new reader. -/
theorem read49 (A : Option Addr) (n c : Nat) (bs : List UInt8) (w : World) (h : Rb w A n bs) (hnil : A = none → c = 0) (hn : n ≤ 1000000000) : Calls Try.prog 49 #[.slice A n c] w fun r w' =>
    ∃ p g c', r = .returned (.pointer (some ⟨p, 0, none⟩)) ∧ RDR w' p g n c' bs 0 0 ∧ (0 < n → ∃ b, g = some ⟨b, 0, none⟩) ∧ w.heap.size ≤ p ∧ Below w.heap.size w w' := by
  have E := Kp.mk hnil
  have HR := Kp.mk (h.below ((Below.refl w.heap.size w).alloc (Nat.le_refl _) (.cells #[] 5)))
  have HO := Kp.mk (ownB_empty w)
  have HZ := Kp.mk ((Below.refl w.heap.size w).alloc (Nat.le_refl _) (.cells #[] 5)).size
  have HL : Kp (([] : List UInt8).length + bs.length ≤ 140737488355328) := ⟨by rw [h.len]; simp; omega⟩
  have HLN := Kp.mk h.len
  have HL9 : Kp (bs.length ≤ 140737488355328) := ⟨by rw [h.len]; omega⟩
  clear h hnil
  go_enter Try.func49, Try.ntmps49
  go_wp2_with (refine app_bs rfl (.tmp 3) (.tmp 4) rfl w.heap.size _ [] A n c bs rfl rfl HO.it HR.it E.it HZ.it HL.it ?_; intro v1 w1 ho1 hg1; have O1 := Kp.mk ho1; have B1 := Kp.mk (below_ownB ((Below.refl w.heap.size w).alloc (Nat.le_refl _) (.cells #[] 5)) HZ.it HO.it (Nat.le_refl _) hg1); clear ho1 hg1; obtain ⟨A1, c1, hv1, hA1, hN1, hc1, hs1, hR1⟩ := O1.it.form4 (by rw [List.nil_append]; exact HL9.it); rw [List.nil_append, HLN.it] at hv1 hA1 hc1 hR1; subst hv1; have HA1 := Kp.mk hA1; have HN1 := Kp.mk hN1; have HR1 := Kp.mk hR1; have HC1 := Kp.mk hc1; have HS1 := Kp.mk hs1; clear hA1 hN1 hR1 hc1 hs1 O1)
  go_ret
  have hb2 := (Below.refl w1.heap.size w1).alloc (Nat.le_refl _) (.cells #[.slice A1 n c1, .int .i64 0, .int .i64 0, .bool true] 80)
  exact ⟨_, A1, c1, rfl, ⟨blk_new _ _, HR1.it.below hb2, fun b o e => Nat.ne_of_lt (HN1.it b o e), by omega, HC1.it, HS1.it⟩, HA1.it, B1.it.size, B1.it.trans (hb2.mono B1.it.size)⟩
end Go.Proofs.Ytnkgagbobihnnaa
