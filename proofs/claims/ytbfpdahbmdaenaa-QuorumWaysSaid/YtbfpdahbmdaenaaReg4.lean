/-
  The two region rules of Reg3 with what they ask checked by computation.
-/
import Derived.Test.YtbfpdahbmdaenaaReg3
namespace Go.Proofs.Ytbfpdahbmdaenaa
open Go Go.RowKit

inductive SpW where
  | ex (v : Value)
  | own (N : Nat) (xs : List Int)
  | cel (y : Int)
  | sln (xs : List Int)
  | ror (s : Value) (xs : List Int)
  | rol (xs : List Int) (s : Value)
  | ron (vs ls : List Int)
  | any
  | no
def SpW.holds : SpW → Value → World → Prop
  | .ex u, v, _ => v = u
  | .own N xs, v, w => OwnS N xs v w
  | .cel y, v, w => CelP y v w
  | .sln xs, v, w => SlN xs v w
  | .ror s xs, v, w => ∃ A n c, v = .agg #[s, .slice A n c] ∧ Rd w A n xs ∧ (A = none → c = 0)
  | .rol xs s, v, w => ∃ A n c, v = .agg #[.slice A n c, s] ∧ Rd w A n xs ∧ (A = none → c = 0)
  | .ron vs ls, v, w => RoN vs ls v w
  | .any, _, _ => True
  | .no, _, _ => False
def SpW.calm : SpW → Bool | .ex _ => true | .any => true | .no => true | _ => false
def SpW.isOwn (N : Nat) : SpW → Bool | .own M _ => M == N | _ => false
def SpW.isNo : SpW → Bool | .no => true | _ => false
theorem SpW.mono {s : SpW} {v : Value} {w w' : World} (h : Gr w w') (hs : s.holds v w) : s.holds v w' := by
  cases s with
  | ex u => exact hs
  | own N xs => exact OwnS.mono h hs
  | cel y => exact CelP.mono h hs
  | sln xs => exact SlN.mono h hs
  | ror s xs => obtain ⟨A, n, c, e, r, q⟩ := hs; exact ⟨A, n, c, e, r.below h, q⟩
  | rol xs s => obtain ⟨A, n, c, e, r, q⟩ := hs; exact ⟨A, n, c, e, r.below h, q⟩
  | ron vs ls => exact RoN.mono h hs
  | any => trivial
  | no => exact hs
theorem SpW.calm_mono {s : SpW} {v : Value} {w w' : World} (h : s.calm = true) (hs : s.holds v w) : s.holds v w' := by
  cases s <;> first | exact hs | cases h

section
variable {P : Program} {ops : Array Oper} {Q : Exit → Act → World → Prop}

/-- Each operation ahead of L is waited for by one behind it, up to L. -/
def reachB (ops : Array Oper) (L : Nat) : Bool := (List.range L).all fun j => (List.range (L + 1)).any fun i => decide (j < i) && (depsAt ops i).contains j
theorem reach_ok {L : Nat} (h : reachB ops L = true) (l : Array Bool) (hc : ∀ i, l.getD i false = true → ∀ j, j ∈ depsAt ops i → l.getD j false = true) (hL : ∀ j, j ∈ depsAt ops L → l.getD j false = true) : ∀ j, j < L → l.getD j false = true := by
  unfold reachB at h
  rw [List.all_eq_true] at h
  have key : ∀ d j, L - j ≤ d → j < L → l.getD j false = true := by
    intro d
    induction d with
    | zero => intro j h1 h2; omega
    | succ d ih =>
      intro j h1 h2
      have := h j (List.mem_range.2 h2)
      rw [List.any_eq_true] at this
      obtain ⟨i, hi, hb⟩ := this
      rw [Bool.and_eq_true, decide_eq_true_eq, List.contains_iff_mem] at hb
      rw [List.mem_range] at hi
      by_cases hiL : i = L
      · subst hiL; exact hL j hb.2
      · exact hc i (ih i (by omega) (by omega)) j hb.2
  exact fun j hj => key (L - j) j (Nat.le_refl _) hj
/-- From L on one behind the other. -/
def chainB (ops : Array Oper) (L : Nat) : Bool := decide (L < ops.size) && (List.range ops.size).all fun k => !decide (L < k) || (depsAt ops k).contains (k - 1)
theorem chain_ok {L : Nat} (h : chainB ops L = true) : L < ops.size ∧ ∀ k, L < k → k < ops.size → k - 1 ∈ depsAt ops k := by
  unfold chainB at h
  rw [Bool.and_eq_true, decide_eq_true_eq, List.all_eq_true] at h
  refine ⟨h.1, fun k h1 h2 => ?_⟩
  have := h.2 k (List.mem_range.2 h2)
  simpa [h1] using this

def planB (pl : Plan) (ops : Array Oper) (calm : Nat → Bool) : Bool :=
  dstAt ops pl.p == some pl.dp && pl.D.contains pl.p && !pl.D.contains pl.q && !pl.D.contains pl.K && !(pl.p == pl.q) && !(pl.K == pl.p) && !(pl.K == pl.q) && decide (pl.K < pl.L) && (depsAt ops pl.K).contains pl.p &&
  (List.range ops.size).all (fun i => (depsAt ops i).all fun j => !pl.D.contains j || i == pl.K) &&
  (List.range pl.L).all (fun j => pl.D.contains j || j == pl.K || (depsAt ops j).contains pl.K || j == pl.q || calm j)

theorem plan_ok {pl : Plan} {calm : Nat → Bool} (h : planB pl ops calm = true) : PlanOk pl ops ∧ (∀ i, i < ops.size → ∀ j, j ∈ depsAt ops i → j ∈ pl.D → i = pl.K) ∧ ∀ j, j < pl.L → j ∉ pl.D → j ≠ pl.K → pl.K ∉ depsAt ops j → j = pl.q ∨ calm j = true := by
  unfold planB at h
  simp only [Bool.and_eq_true, beq_iff_eq, Bool.not_eq_true', decide_eq_true_eq, List.contains_iff_mem, List.all_eq_true, List.mem_range, Bool.or_eq_true, beq_eq_false_iff_ne] at h
  obtain ⟨⟨⟨⟨⟨⟨⟨⟨⟨⟨h1, h2⟩, h3⟩, h4⟩, h5⟩, h6⟩, h7⟩, h8⟩, h9⟩, h10⟩, h11⟩ := h
  have n3 : pl.q ∉ pl.D := fun hm => by rw [List.contains_iff_mem.2 hm] at h3; cases h3
  have n4 : pl.K ∉ pl.D := fun hm => by rw [List.contains_iff_mem.2 hm] at h4; cases h4
  refine ⟨⟨h1, h2, n3, n4, h5, h6, h7, h8, h9⟩, fun i hi j hj hD => ?_, fun j hj hD hK hd => ?_⟩
  · rcases h10 i hi j hj with h | h
    · rw [List.contains_iff_mem.2 hD] at h; cases h
    · exact h
  · rcases h11 j hj with (((h | h) | h) | h) | h
    · exact absurd h hD
    · exact absurd h hK
    · exact absurd h hd
    · exact .inl h
    · exact .inr h

theorem wp_region_plan_sp {id : Nat} {a0 : Act} {w : World} (pl : Plan) (specs : List SpW) (hm : P.follows .mixedOrders = true)
    (hB : planB pl ops (fun j => (specs.getD j .no).calm) = true) (hp : (specs.getD pl.p .no).isOwn w.heap.size = true) (hq : (specs.getD pl.q .no).isOwn w.heap.size || (specs.getD pl.q .no).isNo = true) (hf : fineB ops a0.tmps.size = true) (hr : reachB ops pl.L = true) (hc : chainB ops pl.L = true)
    (hop : ∀ i o, ops[i]? = some o → i < pl.L → i ≠ pl.K → ∀ a W, Below w.heap.size w W → Good3 pl ops w.drew a0 (fun j => (specs.getD j .no).holds) i a W → wpOp P ops Q i (Owes3 pl ((specs.getD i .no).holds) i a W o.dst) a W)
    (hopK : ∀ o, ops[pl.K]? = some o → ∀ a W, Below w.heap.size w W → Good3 pl ops w.drew a0 (fun j => (specs.getD j .no).holds) pl.K a W → wpOp P ops Q pl.K (fun a' w' => ∃ v, a' = a.put o.dst v ∧ W.grownBy w' (a.tmps.getD pl.dp undef).ownBlock ∧ (∀ b, (a.tmps.getD pl.dp undef).ownBlock = some b → w.heap.size ≤ b) ∧ (specs.getD pl.K .no).holds v w') a W)
    (hlast : ∀ a W, Below w.heap.size w W → AllDone3 pl ops w.drew a0 (fun j => (specs.getD j .no).holds) a W → wpOps P ops Q (List.range' pl.L (ops.size - pl.L)) a W) : (Code.region id ops true).wp P Q a0 w := by
  obtain ⟨ok, hD, hcalm⟩ := plan_ok hB
  obtain ⟨hLs, hch⟩ := chain_ok hc
  have liesOwn : ∀ s : SpW, s.isOwn w.heap.size = true → ∀ v W, s.holds v W → Lies v W := by
    intro s hs v W h
    cases s <;> first | exact OwnS.lies h | cases hs
  have ownGrown : ∀ s : SpW, s.isOwn w.heap.size = true → ∀ v r W W', W.grownBy W' r.ownBlock → Dj r v → s.holds v W → s.holds v W' := by
    intro s hs v r W W' hg hd h
    cases s <;> first | exact OwnS.grown h hg hd | cases hs
  refine wp_region_plan pl (fun j => (specs.getD j .no).holds) hm ok hf ?_ hD hLs (reach_ok hr) hch (fun j v w w' h hs => SpW.mono h hs) ?_ (fun i o ho h1 h2 a W hor hG => hop i o ho h1 h2 a W (by
    rcases hor with h | h
    · exact ⟨h.os, h.tape, h.output, h.size, h.block⟩
    · exact h) hG) hopK hlast
  · rintro v W (h | h)
    · exact liesOwn _ hp v W h
    · rcases Bool.or_eq_true_iff.1 hq with h2 | h2
      · exact liesOwn _ h2 v W h
      · cases hs : specs.getD pl.q .no <;> rw [hs] at h2 h <;> first | exact absurd h (fun h => h) | cases h2
  · intro j h0 h1 h2 h3 v W W' r hb hb' hg hd hs
    rcases hcalm j h0 h1 h2 h3 with rfl | h
    · rcases Bool.or_eq_true_iff.1 hq with h4 | h4
      · exact ownGrown _ h4 v r W W' hg (hd rfl) hs
      · cases hs' : specs.getD pl.q .no <;> rw [hs'] at h4 hs <;> first | exact absurd hs (fun h => h) | cases h4
    · exact SpW.calm_mono h hs

theorem wp_region_tail_sp {id : Nat} {a0 : Act} {w : World} (L : Nat) (specs : List SpW) (hm : P.follows .mixedOrders = true) (hf : fineB ops a0.tmps.size = true) (hr : reachB ops L = true) (hc : chainB ops L = true)
    (hop : ∀ i o, ops[i]? = some o → i < L → ∀ a W, Gr w W → Good ops Gr w.drew a0 (fun j => (specs.getD j .no).holds) i a W → wpOp P ops Q i (Owes Gr ((specs.getD i .no).holds) a W o.dst) a W)
    (hlast : ∀ a W, Gr w W → AllDone (ops.extract 0 L) Gr w.drew a0 (fun j => (specs.getD j .no).holds) a W → wpOps P ops Q (List.range' L (ops.size - L)) a W) : (Code.region id ops true).wp P Q a0 w := by
  obtain ⟨hLs, hch⟩ := chain_ok hc
  exact wp_region_tail L (fun j => (specs.getD j .no).holds) hm hf hLs (reach_ok hr) hch (fun j v w w' h hs => SpW.mono h hs) hop hlast
theorem op_value_3 {pl : Plan} {S : Value → World → Prop} {i : Nat} {o : Oper} {a : Act} {w w1 : World} (ho : ops[i]? = some o) (hw : Region.wanted o (yielded ops a.tmps) = true) (hn : ¬ (i = pl.p ∨ i = pl.q)) (v : Value)
    (hrun : (execOp a.eval o).run P w = .ok (.value v) w1) (hr : Gr w w1) (hs : S v w1) : wpOp P ops Q i (Owes3 pl S i a w o.dst) a w :=
  op_value_k ho hw v hrun ⟨v, rfl, hr, hs, fun h => absurd h hn⟩
theorem op_call_3 {pl : Plan} {S : Value → World → Prop} {i : Nat} {o : Oper} {a : Act} {w : World} (ho : ops[i]? = some o) (hw : Region.wanted o (yielded ops a.tmps) = true) (f : FuncId) (args : Array Value)
    (hrun : (execOp a.eval o).run P w = .ok (.enter f args) w) (hc : Calls P f args w fun e w1 => ∃ v, e = .returned v ∧ Gr w w1 ∧ S v w1 ∧ (i = pl.p ∨ i = pl.q → Fresh v w)) : wpOp P ops Q i (Owes3 pl S i a w o.dst) a w :=
  op_call_k ho hw f args hrun (hc.mono fun _ _ ⟨v, he, hg, hs, hf⟩ => ⟨v, he, v, rfl, hg, hs, hf⟩)
theorem wpOps_tail {L : Nat} {a : Act} {w : World} (h : wpList P ops Q (ops.toList.drop L) a w) : wpOps P ops Q (List.range' L (ops.size - L)) a w := by
  have e := wpOps_eq_wpList (P := P) (ops := ops) (Q := Q) (ops.toList.drop L) L (fun j => by rw [List.getElem?_drop, Array.getElem?_toList])
  rw [List.length_drop, Array.length_toList] at e
  rw [e]
  exact h
end

end Go.Proofs.Ytbfpdahbmdaenaa
