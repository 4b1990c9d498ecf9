/-
  does: one call on Groups; made, short.
-/
import Derived.Test.YtemnhmnompehoaaMac
namespace Go.Proofs.Ytemnhmnompehoaa
open Go Go.RowKit
attribute [local go_sem ↓] Go.wp_at_zero Go.wp_at_succ

structure Dv where
  op : Int
  name : ByteArray
  parts : Int
  sub : Int
  att : Int
  member : Int
  term : Int
  part : Int
abbrev Dv.cells (k : Dv) : Array Value := #[.int .i64 k.op, .string k.name, .int .i64 k.parts, .int .i64 k.sub, .int .i64 k.att, .int .i64 k.member, .int .i64 k.term, .int .i64 k.part]
def opS (k : Dv) : Nat := ((IntKind.u64.wrap k.op).tmod 10).toNat
theorem opS_eq (k : Dv) : (IntKind.u64.wrap k.op).tmod 10 = (opS k : Int) ∧ opS k < 10 := by
  have h0 := Int.tmod_nonneg (10 : Int) (wrap_u64_nonneg k.op)
  have h1 := Int.tmod_lt_of_pos (IntKind.u64.wrap k.op) (show (0 : Int) < 10 by omega)
  unfold opS
  omega
def stepS (k : Dv) (l : List Gp) : Int × Int × List Gp :=
  if opS k = 0 then (0, (addS k.name k.parts k.sub k.att l).1, (addS k.name k.parts k.sub k.att l).2)
  else if opS k = 1 then dropS k.name l
  else if opS k < 5 then joinS k.name l
  else if opS k = 5 then (0, (leaveS k.name k.member l).1, (leaveS k.name k.member l).2)
  else (0, (commitS k.name k.member k.term k.part k.att l).1, (commitS k.name k.member k.term k.part k.att l).2)
theorem stepS_good {k : Dv} {l : List Gp} (h : Goods l) : Goods (stepS k l).2.2 := by
  unfold stepS
  split
  · exact addS_good h
  split
  · exact dropS_good h
  split
  · exact joinS_good h
  split
  · exact leaveS_good h
  · exact commitS_good h
theorem Nx.behind {w w1 w' : World} {p : Nat} {L : List Gp} (hb : Below w.heap.size w w1) (h : Nx w1 p L w') : Nx w p L w' := by
  obtain ⟨A, c, l, h1, h2, h3⟩ := h
  exact ⟨A, c, l, h1, h2, grown_trans hb h3⟩
set_option maxRecDepth 100000 in
set_option maxHeartbeats 4000000 in
theorem does_any {w : World} {p : Nat} {A : Option Addr} {c : Nat} {l : List Gv} (h : Gs w p A c l) (hg : Goods (l.map Gv.x)) (k : Dv) :
    Calls Try.prog 23 #[.pointer (some ⟨p, 0, none⟩), .agg k.cells] w fun e w' => e = .returned (.tuple #[.int .i64 (stepS k (l.map Gv.x)).1, .int .i64 (stepS k (l.map Gv.x)).2.1]) ∧ Nx w p (stepS k (l.map Gv.x)).2.2 w' := by
  have hb : Below w.heap.size w (w.alloc (.cells k.cells 40)) := (Below.refl _ w).alloc (Nat.le_refl _) _
  have HB := Kp.mk hb
  have HG := Kp.mk (h.below hb)
  have HL := Kp.mk hg
  obtain ⟨ho, ho1⟩ := opS_eq k
  obtain ⟨o, hoo⟩ : ∃ o, o = opS k := ⟨_, rfl⟩
  have HS := Kp.mk (stepS.eq_1 k (l.map Gv.x))
  rw [← hoo] at ho ho1 HS
  clear h hg hb hoo
  by_cases h0 : o = 0
  · subst h0
    rw [if_pos rfl] at HS
    go_enter Try.func23, Try.ntmps23
    go_wp2_with (go_at_call 44; refine (add_any HG.it k.name k.parts k.sub k.att).mono ?_; rintro e w1 ⟨rfl, hn⟩)
    go_ret2
    rw [HS.it]
    exact ⟨rfl, hn.behind HB.it⟩
  by_cases h1 : o = 1
  · subst h1
    rw [if_neg h0, if_pos rfl] at HS
    go_enter Try.func23, Try.ntmps23
    go_wp2_with (go_at_call 42; refine (drop_any HG.it k.name).mono ?_; rintro e w1 ⟨rfl, hn⟩)
    go_ret2
    rw [HS.it]
    exact ⟨rfl, hn.behind HB.it⟩
  rw [if_neg h0, if_neg h1] at HS
  have g0 : ((o : Int) == 0) = false := by rw [beq_eq_false_iff_ne]; omega
  have g1 : ((o : Int) == 1) = false := by rw [beq_eq_false_iff_ne]; omega
  by_cases h2 : o < 5
  · rw [if_pos h2] at HS
    have g2 : (o : Int) < 5 := by omega
    clear h0 h1
    go_enter Try.func23, Try.ntmps23
    go_wp2_with (go_at_call 43; refine (join_any HG.it HL.it k.name).mono ?_; rintro e w1 ⟨rfl, hn⟩)
    go_ret2
    rw [HS.it]
    exact ⟨rfl, hn.behind HB.it⟩
  rw [if_neg h2] at HS
  have g2 : 5 ≤ (o : Int) := by omega
  by_cases h3 : o = 5
  · subst h3
    rw [if_pos rfl] at HS
    clear h0 h1 h2
    go_enter Try.func23, Try.ntmps23
    go_wp2_with (go_at_call 45; refine (leave_any HG.it HL.it k.name k.member).mono ?_; rintro e w1 ⟨rfl, hn⟩)
    go_ret2
    rw [HS.it]
    exact ⟨rfl, hn.behind HB.it⟩
  rw [if_neg h3] at HS
  have g3 : ((o : Int) == 5) = false := by rw [beq_eq_false_iff_ne]; omega
  clear h0 h1 h2 h3
  go_enter Try.func23, Try.ntmps23
  go_wp2_with (go_at_call 46; refine (commit_any HG.it HL.it k.name k.member k.term k.part k.att).mono ?_; rintro e w1 ⟨rfl, hn⟩)
  go_ret2
  rw [HS.it]
  exact ⟨rfl, hn.behind HB.it⟩
end Go.Proofs.Ytemnhmnompehoaa
