/-
  slices.Chunk, whole.
-/
import Derived.Test.YtnkgagbobihnnaaChu
namespace Go.Proofs.Ytnkgagbobihnnaa
open Go Go.RowKit Go.Shelf
attribute [local go_sem] Oper.semAt_some

set_option maxRecDepth 100000 in
set_option maxHeartbeats 2000000 in
theorem chunk0_in (F : Fence) (n : Nat) (h93 : F.fn 93) (hro : F.round = none) (l B1 B2 : Nat) (A : Option Addr) (cap : Nat) (J : List (Fin (cks 0)) → World → Prop) (W : World) (h1 : W.cell? ⟨B1, 0, none⟩ = some (.slice A 0 cap)) (h0 : J [] W) :
    CallsIn F n Try.prog 93 #[.func (.yield l) #[] #[], .pointer (some ⟨B1, 0, none⟩), .pointer (some ⟨B2, 0, none⟩)] W fun e W' => (∃ v, e = .returned v) ∧ J [] W' := by
  refine callsIn_of_wp Try.func93 rfl h93 ?_ hro
  simp only [Try.ntmps93, List.size_toArray, List.length_cons, List.length_nil, Nat.reduceAdd, Nat.reduceSub, Array.replicate_succ, Array.replicate_zero, List.push_toArray, List.append_toArray, List.nil_append, List.cons_append]
  gi_wp2
  gi_loopw [4] (fun i wr => i = .int .i64 0 ∧ wr = W) (fun _ _ => 0)
  case atStart => exact ⟨rfl, rfl⟩
  case round =>
    obtain ⟨rfl, rfl⟩ := hrel
    gi_wp2
    go_end0
    exact ⟨⟨_, rfl⟩, h0⟩
/-- What slices.Chunk hands back. -/
theorem chunk_stops (F : Fence) (n : Nat) (h93 : F.fn 93) (hro : F.round = none) (hn : 1 ≤ n) (B1 B2 n₀ q b o len cap : Nat) (A : Option Addr) (hA : 0 < len → A = some ⟨b, o, none⟩) (hlen : len ≤ 100000000) (hlc : len ≤ cap) (hq : B1 ≠ q ∧ B2 ≠ q ∧ B1 < n₀ ∧ B2 < n₀)
    (w : World) (hB : B1 < w.heap.size ∧ B2 < w.heap.size) (h1 : w.cell? ⟨B1, 0, none⟩ = some (.slice A len cap)) (h2 : w.cell? ⟨B2, 0, none⟩ = some (.int .i64 4096)) :
    SeqStopsK F n Try.prog 93 #[.pointer (some ⟨B1, 0, none⟩), .pointer (some ⟨B2, 0, none⟩)] (fun x : Fin (cks len) => #[.slice (some ⟨b, o + 4096 * x.val, none⟩) (cl len x.val) (cl len x.val)]) (KpC q n₀) (fun ys => ys = List.finRange (cks len)) (fun _ => True) (cks len) w := fun l J Jx W hW hJ _ hY h0 => by
  have c1 := (hW.cell (p := ⟨B1, 0, none⟩) hB.1).trans h1
  have c2 := (hW.cell (p := ⟨B2, 0, none⟩) hB.2).trans h2
  rcases Nat.eq_zero_or_pos len with hz | hz
  · subst hz
    refine (chunk0_in F n h93 hro l B1 B2 A cap J W c1 h0).mono ?_
    rintro e W' ⟨he, hj⟩
    exact ⟨he, .inl ⟨_, rfl, hj⟩⟩
  · rw [hA hz] at c1
    refine chunk1_in F n h93 hro hn l B1 B2 n₀ q b o len cap hlen hlc hq J Jx (fun pre W h => hJ _ _ _ none h ⟨rfl, rfl, rfl, Nat.le_refl _, fun _ _ _ => rfl⟩ (fun r e => by cases e)) hY W c1 c2 h0
set_option maxHeartbeats 1000000 in
theorem chunk_any (A : Option Addr) (n c : Nat) (w : World) :
    Calls Try.prog 63 #[.slice A n c, .int .i64 4096] w fun e w' => e = .returned (.func (.func 93) #[] #[.pointer (some ⟨w.heap.size, 0, none⟩), .pointer (some ⟨w.heap.size + 1, 0, none⟩)]) ∧ w' = (w.alloc (.cells #[.slice A n c] 29)).alloc (.cells #[.int .i64 4096] 3) := by
  go_enter Try.func63, Try.ntmps63
  go_wp2
  go_ret
  exact ⟨rfl, rfl⟩
end Go.Proofs.Ytnkgagbobihnnaa
