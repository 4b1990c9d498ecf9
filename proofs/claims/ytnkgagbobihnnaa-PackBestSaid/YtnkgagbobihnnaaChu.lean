/-
  slices.Chunk: what it hands back stops.
-/
import Derived.Test.YtnkgagbobihnnaaReg2
import Derived.RangeFuncNested
import Derived.RangeFuncBound
import Derived.RangeFuncCalls
import Derived.RangeFuncLeaves
import Derived.RangeFuncBox
import Derived.Shelf.Abstract
import Derived.Shelf.RegionOpen
import Derived.OwnWalkIn
import Derived.TacticsInMore
import Derived.LoopNIn
import Derived.LoopIn
import Derived.TacticsIn
import Derived.RegionIn
namespace Go.Proofs.Ytnkgagbobihnnaa
open Go Go.RowKit Go.Shelf
attribute [local go_sem] Oper.semAt_some

/-- How many parts; how long the k-th one is. -/
def cks (n : Nat) : Nat := (n + 4095) / 4096
def cl (n k : Nat) : Nat := min 4096 (n - 4096 * k)
/-- What a round keeps: all but block q of what lay below n₀. -/
structure KpC (q n₀ : Nat) (W W' : World) : Prop where
  size : W.heap.size ≤ W'.heap.size
  same : ∀ i, i < n₀ → i ≠ q → W'.heap[i]? = W.heap[i]?
theorem KpC.refl (q n₀ : Nat) (W : World) : KpC q n₀ W W := ⟨Nat.le_refl _, fun _ _ _ => rfl⟩
theorem KpC.drew (q n₀ : Nat) (W : World) : KpC q n₀ W W.drew := ⟨Nat.le_refl _, fun _ _ _ => rfl⟩
theorem KpC.trans {q n₀ : Nat} {A B C : World} (h : KpC q n₀ A B) (k : KpC q n₀ B C) : KpC q n₀ A C := ⟨Nat.le_trans h.size k.size, fun i h1 h2 => (k.same i h1 h2).trans (h.same i h1 h2)⟩
theorem kpC_b {q n₀ : Nat} {w : World} (hn : n₀ ≤ w.heap.size) (W : World) (l : Nat) (o o' : Obj) (hl : w.heap.size ≤ l) (_ : W.heap[l]? = some o) (_ : o.isCells = false) (_ : o.isWalk = false) : KpC q n₀ W (W.putObj l o') :=
  ⟨by simp, fun i h1 _ => World.putObj_heap_other (by omega)⟩
theorem fin_take {N k : Nat} (h : k < N) : (List.finRange N).take (k + 1) = (List.finRange N).take k ++ [⟨k, h⟩] := by
  rw [List.take_succ_eq_append_getElem (by simpa using h)]
  simp
set_option maxRecDepth 100000 in
set_option maxHeartbeats 2000000 in
theorem chunk1_in (F : Fence) (n : Nat) (h93 : F.fn 93) (hro : F.round = none) (hn : 1 ≤ n) (l B1 B2 n₀ q b o len cap : Nat) (hlen : len ≤ 100000000) (hlc : len ≤ cap) (hq : B1 ≠ q ∧ B2 ≠ q ∧ B1 < n₀ ∧ B2 < n₀)
    (J Jx : List (Fin (cks len)) → World → Prop) (hJd : ∀ pre W, J pre W → J pre W.drew)
    (hY : ∀ pre x W, J pre W → pre.length < cks len → YieldAt F (n - 1) Try.prog l #[.slice (some ⟨b, o + 4096 * x.val, none⟩) (cl len x.val) (cl len x.val)] W fun e W' =>
      (e = .returned (.bool true) ∧ J (pre ++ [x]) W' ∧ KpC q n₀ W W') ∨ (e = .returned (.bool false) ∧ Jx (pre ++ [x]) W'))
    (W : World) (h1 : W.cell? ⟨B1, 0, none⟩ = some (.slice (some ⟨b, o, none⟩) len cap)) (h2 : W.cell? ⟨B2, 0, none⟩ = some (.int .i64 4096)) (h0 : J [] W) :
    CallsIn F n Try.prog 93 #[.func (.yield l) #[] #[], .pointer (some ⟨B1, 0, none⟩), .pointer (some ⟨B2, 0, none⟩)] W fun e W' => (∃ v, e = .returned v) ∧
      ((∃ ys, ys = List.finRange (cks len) ∧ J ys W') ∨ (∃ pre, True ∧ Jx pre W')) := by
  have HN : Kp (∀ k, k < cks len ↔ 4096 * k < len) := ⟨fun k => by unfold cks; omega⟩
  refine callsIn_of_wp Try.func93 rfl h93 ?_ hro
  simp only [Try.ntmps93, List.size_toArray, List.length_cons, List.length_nil, Nat.reduceAdd, Nat.reduceSub, Array.replicate_succ, Array.replicate_zero, List.push_toArray, List.append_toArray, List.nil_append, List.cons_append]
  gi_wp2
  gi_loopw [4] (fun i wr => ∃ k : Nat, k ≤ cks len ∧ i = .int .i64 ((4096 * k : Nat) : Int) ∧ Kp (J ((List.finRange (cks len)).take k) wr) ∧ Kp (KpC q n₀ W wr))
    (fun i _ => len + 4096 - (intOf i).toNat)
  case atStart => exact ⟨0, Nat.zero_le _, rfl, ⟨by simpa using h0⟩, ⟨KpC.refl _ _ _⟩⟩
  case round =>
    obtain ⟨k, hk, rfl, hJs, hnx⟩ := hrel
    have c1 : wr.cell? ⟨B1, 0, none⟩ = some (.slice (some ⟨b, o, none⟩) len cap) := by unfold World.cell?; rw [hnx.it.same _ hq.2.2.1 hq.1]; exact h1
    have c2 : wr.cell? ⟨B2, 0, none⟩ = some (.int .i64 4096) := by unfold World.cell?; rw [hnx.it.same _ hq.2.2.2 hq.2.1]; exact h2
    by_cases hlt : k < cks len
    · have hk4 : 4096 * k < len := (HN.it k).1 hlt
      have hYY := hY _ ⟨k, hlt⟩ wr.drew (hJd _ _ hJs.it) (by rw [List.length_take, List.length_finRange]; omega)
      dsimp only at hYY
      have HTK := Kp.mk (fin_take hlt)
      have HNX := Kp.mk hnx.it
      have HCL : Kp (cl len k = min 4096 (len - 4096 * k)) := ⟨rfl⟩
      obtain ⟨X, hX⟩ : ∃ X, X = 4096 * k := ⟨_, rfl⟩
      obtain ⟨M, hM⟩ : ∃ M, M = cl len k := ⟨_, rfl⟩
      rw [← hX] at hk4 hYY HCL ⊢
      rw [← hM] at hYY HCL
      have HX := Kp.mk hX
      obtain ⟨fn, tmps, assign, body, hy, hR⟩ := hYY
      clear hM hX hnx
      have hd : decide ((X : Int) < (len : Int)) = true := by simp; omega
      have hXc : ¬ cap = X := by omega
      have hXl : (X : Int) ≤ (len : Int) := by omega
      by_cases hm : len - X < 4096
      · have hM1 : len - X = M := by rw [HCL.it]; omega
        have HM2 : Kp (X + M = len) := ⟨by omega⟩
        gi_wp2
        gi_region
        all_goals
          gi_wp2
          refine hR.mono ?_
          rintro e W3 (⟨rfl, hJ3, hk3⟩ | ⟨rfl, hJx3⟩)
          · have hnx3 : KpC q n₀ W W3 := (HNX.it.trans (KpC.drew q n₀ wr)).trans hk3
            have HJ3 : Kp (J ((List.finRange (cks len)).take (k + 1)) W3) := ⟨by rw [HTK.it]; exact hJ3⟩
            have c2' : W3.cell? ⟨B2, 0, none⟩ = some (.int .i64 4096) := by unfold World.cell?; rw [hnx3.same _ hq.2.2.2 hq.2.1]; exact h2
            clear hJ3 hk3 c1 c2
            have HNX3 := Kp.mk hnx3
            clear hnx3
            gi_wp2
            go_roundw
            case rel => exact ⟨k + 1, by omega, by rw [HX.it]; go_num, HJ3, HNX3⟩
            case measure => simp [intOf]; omega
          · gi_wp2
            refine bodyPost_ret (results_none rfl _ _ _) rfl ?_
            exact ⟨⟨_, rfl⟩, .inr ⟨_, trivial, hJx3⟩⟩
      · have hM1 : 4096 = M := by rw [HCL.it]; omega
        have HM2 : Kp (X + M ≤ len) := ⟨by omega⟩
        have hm2 : (4096 : Int) ≤ ((len - X : Nat) : Int) := by omega
        subst hM1
        gi_wp2
        gi_region
        all_goals
          gi_wp2
          refine hR.mono ?_
          rintro e W3 (⟨rfl, hJ3, hk3⟩ | ⟨rfl, hJx3⟩)
          · have hnx3 : KpC q n₀ W W3 := (HNX.it.trans (KpC.drew q n₀ wr)).trans hk3
            have HJ3 : Kp (J ((List.finRange (cks len)).take (k + 1)) W3) := ⟨by rw [HTK.it]; exact hJ3⟩
            have c2' : W3.cell? ⟨B2, 0, none⟩ = some (.int .i64 4096) := by unfold World.cell?; rw [hnx3.same _ hq.2.2.2 hq.2.1]; exact h2
            clear hJ3 hk3 c1 c2
            have HNX3 := Kp.mk hnx3
            clear hnx3
            gi_wp2
            go_roundw
            case rel => exact ⟨k + 1, by omega, by rw [HX.it]; go_num, HJ3, HNX3⟩
            case measure => simp [intOf]; omega
          · gi_wp2
            refine bodyPost_ret (results_none rfl _ _ _) rfl ?_
            exact ⟨⟨_, rfl⟩, .inr ⟨_, trivial, hJx3⟩⟩
    · have hge : len ≤ 4096 * k := by have := HN.it k; omega
      have hJe : Kp (J (List.finRange (cks len)) wr) := ⟨by have h9 := hJs.it; rwa [List.take_of_length_le (by simp; omega)] at h9⟩
      generalize 4096 * k = X at hge ⊢
      have hd : decide ((X : Int) < (len : Int)) = false := by simp; omega
      gi_wp2
      go_end0
      exact ⟨⟨_, rfl⟩, .inl ⟨_, rfl, hJe.it⟩⟩
end Go.Proofs.Ytnkgagbobihnnaa
