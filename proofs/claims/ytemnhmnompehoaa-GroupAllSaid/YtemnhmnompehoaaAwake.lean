/-
  awake: what must go through does.
-/
import Derived.Test.YtemnhmnompehoaaAdd
namespace Go.Proofs.Ytemnhmnompehoaa
open Go Go.RowKit
attribute [local go_sem ↓] Go.wp_at_zero Go.wp_at_succ

abbrev gN : ByteArray := ⟨#[103]⟩
def G0 : Gp := Gp.fresh gN 4 1 0
def G1 : Gp := G0.joined
def G2 : Gp := G1.joined
def G3 : Gp := G2.done 0 5
def G4 : Gp := G3.left 1
theorem team12 : team [1, 2] = [1, 2] := by
  unfold team sorted
  rw [List.mergeSort_of_pairwise (by simp)]
  kernel_rfl
theorem share1 : share [0, 0, 0, 0] [1] = [1, 1, 1, 1] := by kernel_rfl
theorem share2 : share [1, 1, 1, 1] [1, 2] = [1, 1, 2, 2] := by
  unfold share roomF
  rw [team12, List.mergeSort_of_pairwise (by simp [leH, hasF])]
  kernel_rfl
theorem share3 : share [1, 1, 2, 2] [2] = [2, 2, 2, 2] := by kernel_rfl
theorem g_check : checkE gN 4 = 0 := by kernel_rfl
theorem g1_is : G1 = ⟨gN, 1, 1, 2, [1], [1, 1, 1, 1], [0, 0, 0, 0]⟩ := by
  have e : G1 = ⟨gN, 1, 1, 2, [1], share [0, 0, 0, 0] [1], [0, 0, 0, 0]⟩ := rfl
  rw [e, share1]
theorem g2_is : G2 = ⟨gN, 1, 2, 3, [1, 2], [1, 1, 2, 2], [0, 0, 0, 0]⟩ := by
  have e : G2 = ⟨gN, 1, 2, 3, [1, 2], share G1.own [1, 2], [0, 0, 0, 0]⟩ := by unfold G2 Gp.joined Gp.anew; rw [g1_is]; rfl
  rw [e, g1_is, share2]
theorem g3_is : G3 = ⟨gN, 1, 2, 3, [1, 2], [1, 1, 2, 2], [5, 0, 0, 0]⟩ := by
  unfold G3 Gp.done
  rw [g2_is]
  rfl
theorem g4_is : G4 = ⟨gN, 1, 3, 3, [2], [2, 2, 2, 2], [5, 0, 0, 0]⟩ := by
  unfold G4 Gp.left Gp.anew
  rw [g3_is]
  show (⟨gN, 1, 3, 3, [2], share [1, 1, 2, 2] [2], [5, 0, 0, 0]⟩ : Gp) = _
  rw [share3]
theorem g0_is : G0 = ⟨gN, 1, 0, 1, [], [0, 0, 0, 0], [0, 0, 0, 0]⟩ := rfl
theorem where0 {x : Gv} (h : x.x.name = gN) : whereN gN.toList [x] = ((0 : Nat) : Int) := by
  have e : isN gN.toList x = true := by unfold isN; rw [h]; simp
  exact whereN_hit (l := [x]) (k := 0) rfl e (fun j y hj => absurd hj (by omega))
theorem wfs {l : List Int} (h : ∀ m ∈ l, 0 ≤ m ∧ m ≤ 10) : ∀ m ∈ l, Wf m := fun m hm => wf_of (by have := h m hm; omega) (by have := h m hm; omega)
theorem below_gr {w a b : World} {p : Nat} (h : Below w.heap.size w a) (hp : w.heap.size ≤ p) (hg : a.grownBy b (some p)) : Below w.heap.size w b := h.grown hg h.size (fun k hk => by cases hk; exact hp)

/-- A group that was handed out, in a block of the caller's. -/
structure Hd (W : World) (p q : Nat) (s t n : Int) (m : Value) (A : Option Addr) (c : Nat) (xs : List Int) (o : Value) : Prop where
  bx : Bx W q gN s t n m (.slice A xs.length c) o
  ow : Own W (p + 1) (.slice A xs.length c) xs
  ne : q ≠ p
theorem Hd.lt {W : World} {p q : Nat} {s t n : Int} {m : Value} {A : Option Addr} {c : Nat} {xs : List Int} {o : Value} (h : Hd W p q s t n m A c xs o) : q < W.heap.size := (Array.getElem?_eq_some_iff.1 h.bx).1
theorem Hd.past {W W' : World} {p q : Nat} {s t n : Int} {m : Value} {A : Option Addr} {c : Nat} {xs : List Int} {o : Value} (h : Hd W p q s t n m A c xs o) (hg : W.grownBy W' (some p)) : Hd W' p q s t n m A c xs o :=
  ⟨(hg.block q h.lt (by intro e; injection e with e; exact h.ne e)).trans h.bx, h.ow.kept hg (.inl (by intro e; have := h.ow.base_le p e; omega)), h.ne⟩
theorem Hd.below {W W' : World} {p q : Nat} {s t n : Int} {m : Value} {A : Option Addr} {c : Nat} {xs : List Int} {o : Value} (h : Hd W p q s t n m A c xs o) (hb : Below W.heap.size W W') : Hd W' p q s t n m A c xs o := h.past (grows_below hb (Nat.le_refl _) _)

theorem rd_of {W : World} {base n c : Nat} {A : Option Addr} {xs : List Int} (h : Own W base (.slice A n c) xs) (hn : xs.length = n) (hb : n ≤ 1000) : Rd W A n xs := by
  subst hn
  obtain ⟨A', c', e, _, _, _, r⟩ := h.form3 (by omega)
  cases e
  exact r
theorem rd_lit (W : World) (xs : List Int) (hb : xs.length ≤ 1000) : Rd (W.alloc (.cells (row xs) 3)) (some ⟨W.heap.size, 0, none⟩) xs.length xs := Blk.rd (blk_new _ _) (by omega)
set_option maxRecDepth 100000 in
set_option maxHeartbeats 8000000 in
theorem awake_any (w : World) : Calls Try.prog 13 #[] w fun e w' => e = .returned (.bool true) ∧ Below w.heap.size w w' := by
  go_enter Try.func13, Try.ntmps13
  go_wp2_with fail
  go_at_call 22
  refine (new_any w).mono ?_
  rintro e w1 ⟨rfl, hw1⟩
  have S1 : Kp (Gs w1 w.heap.size none 0 []) := ⟨by rw [hw1]; exact gs_new w⟩
  have B1 : Kp (Below w.heap.size w w1) := ⟨by rw [hw1]; exact (Below.refl _ w).alloc (Nat.le_refl _) _⟩
  clear hw1
  go_wp2_with fail
  go_at_call 44
  refine (add_ok S1.it gN 4 1 0 g_check (by omega) (by omega) rfl (by simp) (by omega) (by omega) (by omega) (by omega)).mono ?_
  rintro e w2 ⟨rfl, A2, c2, x2, g2, hx2, hg2⟩
  have S2 : Kp (Gs w2 w.heap.size A2 c2 [x2]) := ⟨g2⟩
  have B2 : Kp (Below w.heap.size w w2) := ⟨below_gr B1.it (Nat.le_refl _) hg2⟩
  have X2 : Kp (x2.x = ⟨gN, 1, 0, 1, [], [0, 0, 0, 0], [0, 0, 0, 0]⟩) := ⟨hx2⟩
  clear g2 hx2 hg2
  have J2 := join_ok S2.it gN 0 x2 (where0 (by rw [X2.it])) rfl (by rw [X2.it]; decide) (by rw [X2.it]; decide) (by rw [X2.it]; decide) (by rw [X2.it]; decide) (by rw [X2.it]; decide) (by rw [X2.it]; exact ⟨by decide, by decide, by decide⟩) (by rw [X2.it]; exact wfs (by decide)) (by rw [X2.it]; exact wfs (by decide))
  rw [X2.it] at J2
  have J2 := Kp.mk J2
  go_wp2_with fail
  go_at_call 43
  refine J2.it.mono ?_
  rintro e w3 ⟨rfl, A3, c3, x3, g3, hx3, hg3⟩
  have S3 : Kp (Gs w3 w.heap.size A3 c3 [x3]) := ⟨g3⟩
  have B3 : Kp (Below w.heap.size w w3) := ⟨below_gr B2.it (Nat.le_refl _) hg3⟩
  have X3 : Kp (x3.x = ⟨gN, 1, 1, 2, [1], [1, 1, 1, 1], [0, 0, 0, 0]⟩) := ⟨by rw [hx3, ← g1_is]; rfl⟩
  clear g3 hx3 hg3 J2
  have J3 := join_ok S3.it gN 0 x3 (where0 (by rw [X3.it])) rfl (by rw [X3.it]; decide) (by rw [X3.it]; decide) (by rw [X3.it]; decide) (by rw [X3.it]; decide) (by rw [X3.it]; decide) (by rw [X3.it]; exact ⟨by decide, by decide, by decide⟩) (by rw [X3.it]; exact wfs (by decide)) (by rw [X3.it]; exact wfs (by decide))
  rw [X3.it] at J3
  have J3 := Kp.mk J3
  go_wp2_with fail
  go_at_call 43
  refine J3.it.mono ?_
  rintro e w4 ⟨rfl, A4, c4, x4, g4, hx4, hg4⟩
  have S4 : Kp (Gs w4 w.heap.size A4 c4 [x4]) := ⟨g4⟩
  have B4 : Kp (Below w.heap.size w w4) := ⟨below_gr B3.it (Nat.le_refl _) hg4⟩
  have X4 : Kp (x4.x = ⟨gN, 1, 2, 3, [1, 2], [1, 1, 2, 2], [0, 0, 0, 0]⟩) := ⟨by rw [hx4, ← g2_is, ← g1_is]; rfl⟩
  clear g4 hx4 hg4 J3
  have K4 := get_ok S4.it gN 0 x4 (where0 (by rw [X4.it])) rfl
  rw [X4.it] at K4
  have K4 := Kp.mk K4
  go_wp2_with fail
  go_at_call 41
  refine K4.it.mono ?_
  rintro e w5 ⟨E1, d1, E2, d2, E3, d3, rfl, hf5, hb5⟩
  have HF5 := Kp.mk hf5
  have B5 := Kp.mk (B4.it.trans (hb5.mono B4.it.size))
  have S5 := Kp.mk (S4.it.below hb5)
  clear hf5 hb5 K4
  go_wp2_with fail
  obtain ⟨w6, hw6⟩ : ∃ w6, w6 = w5.alloc (Obj.cells #[Value.string gN, Value.int IntKind.i64 1, Value.int IntKind.i64 2, Value.int IntKind.i64 3, Value.slice E1 2 d1, Value.slice E2 4 d2, Value.slice E3 4 d3] 51) := ⟨_, rfl⟩
  have hpw4 : w.heap.size < w4.heap.size := S4.it.lt
  have hpw5 : w.heap.size < w5.heap.size := S5.it.lt
  have B6 : Kp (Below w.heap.size w w6) := ⟨by rw [hw6]; exact B5.it.alloc (by omega) _⟩
  have S6 : Kp (Gs w6 w.heap.size A4 c4 [x4]) := ⟨by rw [hw6]; exact S5.it.below ((Below.refl _ _).alloc (Nat.le_refl _) _)⟩
  have D6 : Kp (Hd w6 w.heap.size w5.heap.size 1 2 3 (.slice E1 2 d1) E2 d2 [1, 1, 2, 2] (.slice E3 4 d3)) := ⟨⟨by rw [hw6]; exact blk_new _ _, by rw [hw6]; exact (HF5.it.o.relax (by omega)).alloc _, by omega⟩⟩
  have C6 := commit_err gN 1 1 0 5 222 rfl (owns_2 S6.it gN 0 x4 (where0 (by rw [X4.it])) rfl 1 1 0 (by rw [X4.it]; rfl) (by rw [X4.it]; rfl))
  have C6 := Kp.mk C6
  rw [← hw6]
  clear hw6
  go_at_call 46
  refine C6.it.mono ?_
  rintro e w7 ⟨rfl, hb7⟩
  have S7 := Kp.mk (S6.it.below hb7)
  have D7 := Kp.mk (D6.it.below hb7)
  have B7 := Kp.mk (B6.it.trans (hb7.mono B6.it.size))
  clear C6 hb7
  have C7 := commit_ok S7.it gN 0 x4 (where0 (by rw [X4.it])) rfl 1 2 0 5 (by rw [X4.it]; rfl) (by rw [X4.it]; rfl) (by rw [X4.it]; decide) (by rw [X4.it]; rfl) (by rw [X4.it]; decide) (by rw [X4.it]; decide) (by decide) (by rw [X4.it]; exact ⟨by decide, by decide, by decide⟩)
  have C7 := Kp.mk C7
  go_wp2_with fail
  go_at_call 46
  refine C7.it.mono ?_
  rintro e w8 ⟨rfl, A8, c8, x8, g8, hx8, hg8⟩
  have S8 : Kp (Gs w8 w.heap.size A8 c8 [x8]) := ⟨g8⟩
  have B8 : Kp (Below w.heap.size w w8) := ⟨below_gr B7.it (Nat.le_refl _) hg8⟩
  have D8 := Kp.mk (D7.it.past hg8)
  have X8 : Kp (x8.x = ⟨gN, 1, 2, 3, [1, 2], [1, 1, 2, 2], [5, 0, 0, 0]⟩) := ⟨by rw [hx8, X4.it]; rfl⟩
  clear g8 hx8 hg8 C7
  have L8 := low_ok S8.it gN 0 x8 (where0 (by rw [X8.it])) rfl (by rw [X8.it]; decide) (by rw [X8.it]; exact ⟨by decide, by decide, by decide⟩)
  have e8 : Lib.minOf x8.x.att = 0 := by rw [X8.it]; rfl
  rw [e8] at L8
  have L8 := Kp.mk L8
  clear e8
  go_wp2_with fail
  go_at_call 29
  refine L8.it.mono ?_
  rintro e w9 ⟨rfl, hb9⟩
  have S9 := Kp.mk (S8.it.below hb9)
  have D9 := Kp.mk (D8.it.below hb9)
  have B9 := Kp.mk (B8.it.trans (hb9.mono B8.it.size))
  clear L8 hb9
  have V9 := leave_ok S9.it gN 0 x8 1 (where0 (by rw [X8.it])) rfl (by rw [X8.it]; rfl) (by rw [X8.it]; decide) (by rw [X8.it]; decide) (by rw [X8.it]; exact ⟨by decide, by decide, by decide⟩) (by rw [X8.it]; exact wfs (by decide)) (by rw [X8.it]; exact wfs (by decide))
  have V9 := Kp.mk V9
  go_wp2_with fail
  go_at_call 45
  refine V9.it.mono ?_
  rintro e wa ⟨rfl, Aa, ca, xa, ga, hxa, hga⟩
  have Sa : Kp (Gs wa w.heap.size Aa ca [xa]) := ⟨ga⟩
  have Ba : Kp (Below w.heap.size w wa) := ⟨below_gr B9.it (Nat.le_refl _) hga⟩
  have Da := Kp.mk (D9.it.past hga)
  have Xa : Kp (xa.x = ⟨gN, 1, 3, 3, [2], [2, 2, 2, 2], [5, 0, 0, 0]⟩) := ⟨by rw [hxa, X8.it, ← g4_is]; unfold G4; rw [g3_is]⟩
  clear ga hxa hga V9
  have Ka := get_ok Sa.it gN 0 xa (where0 (by rw [Xa.it])) rfl
  rw [Xa.it] at Ka
  have Ka := Kp.mk Ka
  go_wp2_with fail
  go_at_call 41
  refine Ka.it.mono ?_
  rintro e wb ⟨F1, f1, F2, f2, F3, f3, rfl, hfb, hbb⟩
  have HFb := Kp.mk hfb
  have Bb := Kp.mk (Ba.it.trans (hbb.mono Ba.it.size))
  have Db := Kp.mk (Da.it.below hbb)
  clear hfb hbb Ka
  obtain ⟨_, _, t2, _, _, t5, _⟩ := Db.it.bx.cells
  have hq := Db.it.lt
  have hqn : ¬ wb.heap.size = w5.heap.size := by omega
  have RE : Kp (Rd wb E2 4 [1, 1, 2, 2]) := ⟨rd_of Db.it.ow rfl (by omega)⟩
  have RF : Kp (Rd wb F2 4 [2, 2, 2, 2]) := ⟨rd_of HFb.it.o rfl (by omega)⟩
  go_wp2_with fail
  obtain ⟨wc, hwc⟩ : ∃ wc, wc = wb.alloc (Obj.cells #[Value.string gN, Value.int IntKind.i64 1, Value.int IntKind.i64 3, Value.int IntKind.i64 3, Value.slice F1 1 f1, Value.slice F2 4 f2, Value.slice F3 4 f3] 51) := ⟨_, rfl⟩
  have hsc : wc.heap.size = wb.heap.size + 1 := by rw [hwc]; simp
  have hbc : Below wb.heap.size wb wc := by rw [hwc]; exact (Below.refl _ _).alloc (Nat.le_refl _) _
  have Xc : Bx wc wb.heap.size gN 1 3 3 (.slice F1 1 f1) (.slice F2 4 f2) (.slice F3 4 f3) := by rw [hwc]; exact blk_new _ _
  have Bc := Kp.mk (Bb.it.trans (hbc.mono Bb.it.size))
  have REc := RE.it.below hbc
  have RFc := Kp.mk (RF.it.below hbc)
  rw [← hwc, ← hsc]
  clear hwc
  have E1c := equal_gr E2 (some ⟨wc.heap.size, 0, none⟩) 4 d2 4 4 [1, 1, 2, 2] [1, 1, 2, 2] (wc.alloc (.cells (row [1, 1, 2, 2]) 3)) (REc.below ((Below.refl _ _).alloc (Nat.le_refl _) _)) (rd_lit wc [1, 1, 2, 2] (by decide))
  rw [eqB_refl] at E1c
  go_at_call 15
  refine E1c.mono ?_
  rintro e wd ⟨rfl, hbd⟩
  have hwd : Below wc.heap.size wc wd := ((Below.refl _ wc).alloc (Nat.le_refl _) _).trans (hbd.mono (by simp))
  have Xd := Kp.mk (Xc.kept hwd (by omega))
  have RFd := Kp.mk (RFc.it.below hwd)
  have Bd := Kp.mk (Bc.it.trans (hwd.mono Bc.it.size))
  have hszd := hwd.size
  obtain ⟨_, _, _, _, _, s5, _⟩ := Xd.it.cells
  clear E1c hbd hwd REc hbc Xc
  rw [hsc]
  go_wp2_with fail
  have E2c := equal_gr F2 (some ⟨wd.heap.size, 0, none⟩) 4 f2 4 4 [2, 2, 2, 2] [2, 2, 2, 2] (wd.alloc (.cells (row [2, 2, 2, 2]) 3)) (RFd.it.below ((Below.refl _ _).alloc (Nat.le_refl _) _)) (rd_lit wd [2, 2, 2, 2] (by decide))
  rw [eqB_refl] at E2c
  go_at_call 15
  refine E2c.mono ?_
  rintro e we ⟨rfl, hbe⟩
  have Be := Kp.mk (Bd.it.trans ((((Below.refl _ wd).alloc (Nat.le_refl _) _).trans (hbe.mono (by simp))).mono Bd.it.size))
  clear E2c hbe
  go_wp2
  go_ret
  exact ⟨rfl, Be.it⟩
