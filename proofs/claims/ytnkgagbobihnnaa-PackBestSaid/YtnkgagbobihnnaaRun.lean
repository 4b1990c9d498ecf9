/-
  Bytes as signs: the program's Runs.
-/
import Derived.Test.YtnkgagbobihnnaaUnt
namespace Go.Proofs.Ytnkgagbobihnnaa
open Go Go.RowKit
attribute [local go_sem ↓] Go.wp_at_zero Go.wp_at_succ

/-- How many times 0 comes, as digits one and two, the lowest first. -/
def digs (n : Nat) : List Int := if n = 0 then [] else (((n - 1) % 2 : Nat) : Int) :: digs ((n - 1) / 2)
termination_by n
theorem digs_zero : digs 0 = [] := by rw [digs]; rfl
theorem digs_pos {n : Nat} (h : 0 < n) : digs n = (((n - 1) % 2 : Nat) : Int) :: digs ((n - 1) / 2) := by rw [digs, if_neg (by omega)]
theorem digs_len (n : Nat) : (digs n).length ≤ n := by
  induction n using Nat.strongRecOn with
  | ind n ih =>
    rcases Nat.eq_zero_or_pos n with h | h
    · subst h; rw [digs_zero]; exact Nat.le_refl _
    · rw [digs_pos h, List.length_cons]
      have := ih ((n - 1) / 2) (by omega)
      omega

/-- Block N has this number, block O this slice. -/
def NB (w : World) (N : Nat) (n : Nat) : Prop := w.heap[N]? = some (.cells #[.int .i64 (n : Int)] 3 (0, 0))
def OB (w : World) (O : Nat) (v : Value) : Prop := w.heap[O]? = some (.cells #[v] 22 (0, 0))
theorem NB.cell {w : World} {N n : Nat} (h : NB w N n) : w.cell? ⟨N, 0, none⟩ = some (.int .i64 (n : Int)) := blk_cell h rfl
theorem OB.cell {w : World} {O : Nat} {v : Value} (h : OB w O v) : w.cell? ⟨O, 0, none⟩ = some v := blk_cell h rfl
theorem NB.lt {w : World} {N n : Nat} (h : NB w N n) : N < w.heap.size := (Array.getElem?_eq_some_iff.1 h).1
theorem OB.lt {w : World} {O : Nat} {v : Value} (h : OB w O v) : O < w.heap.size := (Array.getElem?_eq_some_iff.1 h).1
theorem NB.free {w : World} {N n : Nat} (h : NB w N n) : w.frozen? ⟨N, 0, none⟩ = false := blk_free h
theorem OB.free {w : World} {O : Nat} {v : Value} (h : OB w O v) : w.frozen? ⟨O, 0, none⟩ = false := blk_free h
theorem NB.store {w : World} {N n : Nat} (h : NB w N n) (m : Nat) : NB (w.setCell ⟨N, 0, none⟩ (.int .i64 (m : Int))) N m := by
  unfold NB
  rw [blk_set _ h]
  rfl
theorem OB.store {w : World} {O : Nat} {v : Value} (h : OB w O v) (u : Value) : OB (w.setCell ⟨O, 0, none⟩ u) O u := by
  unfold OB
  rw [blk_set _ h]
  rfl
theorem NB.kept {w w' : World} {N n : Nat} {r : Option Nat} (h : NB w N n) (hg : w.grownBy w' r) (hne : some N ≠ r) : NB w' N n := (hg.block N h.lt hne).trans h
theorem OB.kept {w w' : World} {O : Nat} {v : Value} {r : Option Nat} (h : OB w O v) (hg : w.grownBy w' r) (hne : some O ≠ r) : OB w' O v := (hg.block O h.lt hne).trans h
theorem NB.other {w : World} {N n b o : Nat} {v : Value} (h : NB w N n) (hne : N ≠ b) : NB (w.setCell ⟨b, o, none⟩ v) N n := by unfold NB; rw [other_block _ _ _ hne]; exact h
theorem OB.other {w : World} {O b o : Nat} {u v : Value} (h : OB w O u) (hne : O ≠ b) : OB (w.setCell ⟨b, o, none⟩ v) O u := by unfold OB; rw [other_block _ _ _ hne]; exact h
theorem Own.past {W : World} {base G : Nat} {v : Value} {xs : List Int} (h : Own W base v xs) (hG : G < base) : v.ownBlock ≠ some G := fun h9 => by have := h.base_le G h9; omega
theorem Own.cellset {W : World} {base b o : Nat} {v u : Value} {xs : List Int} (h : Own W base v xs) (hb : b < base) : Own (W.setCell ⟨b, o, none⟩ u) base v xs := by
  refine h.kept (r := some b) (grown_set ?_ _ _) (.inl (h.past hb))
  exact ⟨rfl, rfl, rfl, Nat.le_refl _, fun _ _ _ => rfl⟩
theorem Own.long {W : World} {base : Nat} {v : Value} {xs : List Int} (h : Own W base v xs) (hl : xs.length ≤ 10000000) : ∃ A c, v = .slice A xs.length c := by
  obtain ⟨A, c, e, _⟩ := h.form3 (by omega)
  exact ⟨A, c, e⟩

set_option maxRecDepth 100000 in
set_option maxHeartbeats 4000000 in
theorem flush_any (N O base G n : Nat) (v : Value) (xs : List Int) (w0 w : World) (hN : NB w N n) (hO : OB w O v) (hv : Own w base v xs) (hne : N ≠ O) (hNb : N < base) (hOb : O < base) (hbs : base ≤ w.heap.size)
    (hGN : G ≤ N) (hGO : G ≤ O) (hB : Below G w0 w) (hl : xs.length + n ≤ 1000000) :
    Calls Try.prog 48 #[.pointer (some ⟨N, 0, none⟩), .pointer (some ⟨O, 0, none⟩)] w fun e w' =>
      e = .returned (.tuple #[]) ∧ ∃ v', NB w' N 0 ∧ OB w' O v' ∧ Own w' base v' (xs ++ digs n) ∧ Below G w0 w' ∧ base ≤ w'.heap.size := by
  have N0 := Kp.mk hN
  have O0 := Kp.mk hO
  have V0 := Kp.mk hv
  have B0 := Kp.mk hB
  have S0 := Kp.mk hbs
  have HL := Kp.mk hl
  have HNE := Kp.mk hne
  have HNB := Kp.mk hNb
  have HOB := Kp.mk hOb
  have HGN := Kp.mk hGN
  have HGO := Kp.mk hGO
  clear hN hO hv hB hbs hl hne hNb hOb hGN hGO
  go_enter Try.func48, Try.ntmps48
  go_wp2
  go_loopw [] (fun wr => ∃ (m : Nat) (u : Value) (ys : List Int), m ≤ 1000000 ∧ Kp (NB wr N m) ∧ Kp (OB wr O u) ∧ Kp (Own wr base u ys) ∧ Kp (ys ++ digs m = xs ++ digs n) ∧ Kp (ys.length + m ≤ 1000000) ∧ Kp (Below G w0 wr) ∧ Kp (base ≤ wr.heap.size)) (fun wr => match wr.cell? ⟨N, 0, none⟩ with | some (.int _ x) => x.toNat | _ => 0)
  case atStart => exact ⟨n, v, xs, by have := HL.it; omega, N0, O0, V0, ⟨rfl⟩, HL, B0, S0⟩
  case round =>
    obtain ⟨m, u, ys, hm, N1, O1, V1, E1, L1, B1, S1⟩ := hrel
    have hcn := N1.it.cell
    rcases Nat.eq_zero_or_pos m with h0 | h0
    · subst h0
      have hd : decide (((0 : Nat) : Int) > 0) = false := by decide
      go_wp2
      refine bodyPost_end (results_none rfl _ _ _) rfl ?_
      refine ⟨rfl, u, N1.it, O1.it, ?_, B1.it, S1.it⟩
      have h9 := E1.it
      rw [digs_zero, List.append_nil] at h9
      rw [← h9]
      exact V1.it
    · obtain ⟨q, rfl⟩ : ∃ q, m = q + 1 := ⟨m - 1, by omega⟩
      have hco := O1.it.cell
      obtain ⟨A, c, hu⟩ := V1.it.long (by have := L1.it; omega)
      obtain ⟨k, hk⟩ : ∃ k, k = ys.length := ⟨_, rfl⟩
      rw [← hk] at hu
      have HK := Kp.mk hk
      clear hk
      subst hu
      have hfo := O1.it.free
      have hfn := N1.it.free
      have HYL : Kp (ys.length + 1 ≤ 17592186044416) := ⟨by have := L1.it; omega⟩
      have hd : decide (((q + 1 : Nat) : Int) > 0) = true := by simp
      clear hfn
      go_wp2_with (refine app_own rfl (.tmp 7) (.tmp 12) rfl base _ ys ((q : Int) % 2) rfl rfl V1.it S1.it HYL.it ?_
                   intro v1 w1 hn1 hg1 hat1
                   obtain ⟨A1, c1, hv1⟩ := hn1.long (by rw [List.length_append, List.length_singleton]; have := L1.it; omega)
                   rw [List.length_append, List.length_singleton, ← HK.it] at hv1
                   subst hv1
                   have V2 := Kp.mk hn1
                   have G2 : Kp (World.grownBy _ w1 (Value.slice A k c).ownBlock) := ⟨hg1⟩
                   have N2 : Kp (NB w1 N (q + 1)) := ⟨N1.it.kept G2.it fun h9 => V1.it.past HNB.it h9.symm⟩
                   have O2 : Kp (OB w1 O (.slice A k c)) := ⟨O1.it.kept G2.it fun h9 => V1.it.past HOB.it h9.symm⟩
                   have hco2 := O2.it.cell
                   have hfo2 := O2.it.free
                   have N3 : Kp (NB (w1.setCell ⟨O, 0, none⟩ (.slice A1 (k + 1) c1)) N (q + 1)) := ⟨N2.it.other HNE.it⟩
                   have hcn3 := N3.it.cell
                   have hfn3 := N3.it.free
                   clear hn1 hg1 hat1)
      have hq2 : ((q : Int) / 2) = ((q / 2 : Nat) : Int) := by omega
      have hq3 : ((q : Int) % 2) = ((q % 2 : Nat) : Int) := by omega
      rw [hq2]
      rw [hq3] at V2
      have hgb : G ≤ base := by have := HGN.it; have := HNB.it; omega
      have W1 : Below G w0 w1 := below_own B1.it (Nat.le_trans hgb S1.it) V1.it hgb G2.it
      have N4 := N3.it.store (q / 2)
      have O4 : OB ((w1.setCell ⟨O, 0, none⟩ (.slice A1 (k + 1) c1)).setCell ⟨N, 0, none⟩ (.int .i64 ((q / 2 : Nat) : Int))) O (.slice A1 (k + 1) c1) := (O2.it.store _).other (fun h9 => HNE.it h9.symm)
      have hdg := digs_pos (n := q + 1) (by omega)
      rw [Nat.add_sub_cancel] at hdg
      refine ⟨⟨q / 2, _, ys ++ [((q % 2 : Nat) : Int)], by omega, ⟨N4⟩, ⟨O4⟩, ⟨(V2.it.cellset HOB.it).cellset HNB.it⟩, ⟨by rw [← E1.it, hdg, List.append_assoc]; rfl⟩, ⟨by have := L1.it; rw [List.length_append, List.length_singleton]; omega⟩, ⟨(W1.setCell HGO.it _).setCell HGN.it _⟩, ⟨by rw [size_set, size_set]; exact Nat.le_trans S1.it G2.it.size⟩⟩, ?_⟩
      rw [N4.cell, hcn]
      show ((q / 2 : Nat) : Int).toNat < ((q + 1 : Nat) : Int).toNat
      omega
end Go.Proofs.Ytnkgagbobihnnaa
