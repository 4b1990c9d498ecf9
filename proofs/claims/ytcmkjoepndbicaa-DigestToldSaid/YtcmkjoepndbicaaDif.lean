/-
  diff, plainly; at the bottom.
-/
import Derived.Test.YtcmkjoepndbicaaUnl
import Derived.Test.YtcmkjoepndbicaaBui2
namespace Go.Proofs.Ytcmkjoepndbicaa
open Go Go.RowKit

/-- The keys that are unlike, as far as digests tell. -/
def difK (ka kb : BitVec 64) : Nat → List Pr → List Pr → List ByteArray
  | 0, a, b => if digU ka kb 0 a = digU ka kb 0 b then [] else unl a b
  | f + 1, a, b => if digU ka kb (f + 1) a = digU ka kb (f + 1) b then [] else (List.range 16).flatMap fun i => difK ka kb f (kid ka kb (3 - f) i a) (kid ka kb (3 - f) i b)
def difD (ka kb : BitVec 64) : Nat → List Pr → List Pr → Nat
  | 0, _, _ => 0
  | f + 1, a, b => if digU ka kb (f + 1) a = digU ka kb (f + 1) b then 0 else 16 + ((List.range 16).map fun i => difD ka kb f (kid ka kb (3 - f) i a) (kid ka kb (3 - f) i b)).sum
def difP (ka kb : BitVec 64) : Nat → List Pr → List Pr → Nat
  | 0, a, b => if digU ka kb 0 a = digU ka kb 0 b then 0 else a.length + b.length
  | f + 1, a, b => if digU ka kb (f + 1) a = digU ka kb (f + 1) b then 0 else ((List.range 16).map fun i => difP ka kb f (kid ka kb (3 - f) i a) (kid ka kb (3 - f) i b)).sum
theorem unl_len (a b : List Pr) : (unl a b).length ≤ a.length + b.length := by
  induction h : a.length + b.length using Nat.strongRecOn generalizing a b with
  | _ n ih =>
    subst h
    rcases a with _ | ⟨x, xs⟩
    · rcases b with _ | ⟨y, ys⟩
      · rw [unl_nn]; simp
      · rw [unl_nc]
        have := ih _ (by simp only [List.length_cons]; omega) [] ys rfl
        simp at this ⊢
        omega
    · rcases b with _ | ⟨y, ys⟩
      · rw [unl_cn]
        have := ih _ (by simp only [List.length_cons]; omega) xs [] rfl
        simp at this ⊢
        omega
      · cases h1 : ltB x.1 y.1 with
        | true =>
          rw [unl_lt _ _ h1]
          have := ih _ (by simp only [List.length_cons]; omega) xs (y :: ys) rfl
          simp at this ⊢
          omega
        | false =>
          cases h2 : ltB y.1 x.1 with
          | true =>
            rw [unl_gt _ _ h1 h2]
            have := ih _ (by simp only [List.length_cons]; omega) (x :: xs) ys rfl
            simp at this ⊢
            omega
          | false =>
            have := ih _ (by simp only [List.length_cons]; omega) xs ys rfl
            cases h3 : eqP x y with
            | true => rw [unl_eq _ _ h1 h2 h3]; simp at this ⊢; omega
            | false => rw [unl_ne _ _ h1 h2 h3]; simp at this ⊢; omega
theorem one_of : ∀ d, d < 16 → ((List.range 16).map fun i => if d = i then 1 else 0).sum = 1 := by decide
theorem sum_add (l : List Nat) (f g : Nat → Nat) : (l.map fun i => f i + g i).sum = (l.map f).sum + (l.map g).sum := by
  induction l with
  | nil => rfl
  | cons x l ih => simp only [List.map_cons, List.sum_cons, ih]; omega
theorem sum_le (l : List Nat) (f g : Nat → Nat) (h : ∀ i ∈ l, f i ≤ g i) : (l.map f).sum ≤ (l.map g).sum := by
  induction l with
  | nil => exact Nat.le_refl _
  | cons x l ih =>
    simp only [List.map_cons, List.sum_cons]
    have h1 := h x List.mem_cons_self
    have h2 := ih (fun i hi => h i (List.mem_cons_of_mem _ hi))
    omega
theorem kids_sum (ka kb : BitVec 64) (at_ : Nat) (l : List Pr) : ((List.range 16).map fun i => (kid ka kb at_ i l).length).sum = l.length := by
  induction l with
  | nil => rfl
  | cons x l ih =>
    have e : ∀ i, (kid ka kb at_ i (x :: l)).length = (if dg ka kb at_ x = i then 1 else 0) + (kid ka kb at_ i l).length := by
      intro i
      unfold kid
      rw [List.filter_cons]
      by_cases h : dg ka kb at_ x = i
      · simp [h]; omega
      · simp [h]
    simp only [e]
    rw [sum_add, ih, one_of _ (dg_lt ka kb at_ x), List.length_cons]
    omega
theorem difP_le (ka kb : BitVec 64) : ∀ f (a b : List Pr), difP ka kb f a b ≤ a.length + b.length
  | 0, a, b => by unfold difP; split <;> omega
  | f + 1, a, b => by
    unfold difP
    split
    · omega
    · have := sum_le (List.range 16) _ _ (fun i _ => difP_le ka kb f (kid ka kb (3 - f) i a) (kid ka kb (3 - f) i b))
      rw [sum_add, kids_sum, kids_sum] at this
      exact this
theorem difK_le (ka kb : BitVec 64) : ∀ f (a b : List Pr), (difK ka kb f a b).length ≤ a.length + b.length
  | 0, a, b => by
    unfold difK
    split
    · simp
    · exact unl_len a b
  | f + 1, a, b => by
    unfold difK
    split
    · simp
    · rw [List.length_flatMap]
      have := sum_le (List.range 16) _ _ (fun i _ => difK_le ka kb f (kid ka kb (3 - f) i a) (kid ka kb (3 - f) i b))
      rw [sum_add, kids_sum, kids_sum] at this
      exact this
theorem sum_const (l : List Nat) (f : Nat → Nat) (c : Nat) (h : ∀ i ∈ l, f i ≤ c) : (l.map f).sum ≤ l.length * c := by
  induction l with
  | nil => simp
  | cons x l ih =>
    simp only [List.map_cons, List.sum_cons, List.length_cons]
    have h1 := h x List.mem_cons_self
    have h2 := ih (fun i hi => h i (List.mem_cons_of_mem _ hi))
    rw [Nat.succ_mul]
    omega
theorem difD_le (ka kb : BitVec 64) : ∀ f (a b : List Pr), difD ka kb f a b + 16 ≤ 2 * 16 ^ (f + 1)
  | 0, a, b => by unfold difD; omega
  | f + 1, a, b => by
    unfold difD
    have hp : 16 ≤ 16 ^ (f + 1) := Nat.le_self_pow (by omega) 16
    have e : (16 : Nat) ^ (f + 1 + 1) = 16 * 16 ^ (f + 1) := by rw [Nat.pow_succ]; omega
    split
    · omega
    · have := sum_const (List.range 16) _ (2 * 16 ^ (f + 1) - 16) (fun i _ => by have := difD_le ka kb f (kid ka kb (3 - f) i a) (kid ka kb (3 - f) i b); exact Nat.le_sub_of_add_le this)
      rw [List.length_range] at this
      omega

/-- append of strings inside a drawn region. -/
theorem step_ts {ops : Array Oper} {o : Oper} {a : Act} {K : Act → World → Prop} {Q : Exit → Act → World → Prop} {E : Prop} {W : World} (hgd : o.guard = none) (s x : Operand)
    (ho : o.op = .call { callee := .builtin .append, args := #[s, x], argTypes := #[28, 28] })
    (base : Nat) (v : Value) (l : List ByteArray) (A : Option Addr) (n c : Nat) (ys : List ByteArray) (hs : a.eval s = v) (hx : a.eval x = .slice A n c)
    (HO : OwnT W base v l) (HR : RT W A n ys) (hnil : A = none → c = 0) (hbase : base ≤ W.heap.size) (hl : l.length + ys.length ≤ 100000000)
    (h : ∀ v1 w1, OwnT w1 base v1 (l ++ ys) → W.grownBy w1 v.ownBlock → (v1.ownBlock = v.ownBlock ∨ ∃ q, v1.ownBlock = some q ∧ W.heap.size ≤ q) → K (a.put o.dst v1) w1) :
    if Region.wanted o (yielded ops a.tmps) = true then Oper.wp Try.prog o a W K Q else E := by
  have hw : Region.wanted o (yielded ops a.tmps) = true := by simp [Region.wanted, hgd]
  rw [if_pos hw]
  obtain ⟨v1, w1, hr, h1, h2, h3⟩ := run_ts base v l A n c ys o.type HO HR hnil hbase hl
  unfold Oper.wp execOp
  simp only [ho, resolve, invoke, builtin, Sem.run_bind, Sem.run_pure, Result.andThen_ok, List.map_toArray, List.map_cons, List.map_nil, hs, hx, hr]
  exact h v1 w1 h1 h2 h3
theorem step_call {ops : Array Oper} {o : Oper} {a : Act} {K : Act → World → Prop} {Q : Exit → Act → World → Prop} {E : Prop} {W : World} (hgd : o.guard = none) (f : FuncId) (args : Array Value)
    (hrun : (execOp a.eval o).run Try.prog W = .ok (.enter f args) W) (hc : Calls Try.prog f args W fun e w' => ∃ v, e = .returned v ∧ K (a.put o.dst v) w') : if Region.wanted o (yielded ops a.tmps) = true then Oper.wp Try.prog o a W K Q else E := by
  have hw : Region.wanted o (yielded ops a.tmps) = true := by simp [Region.wanted, hgd]
  rw [if_pos hw]
  unfold Oper.wp
  rw [hrun]
  refine hc.mono ?_
  rintro e w1 ⟨v, rfl, h⟩
  exact h
theorem wrap64_small (x : Int) (h0 : 0 ≤ x) (h1 : x < 9223372036854775808) : wrap64 x = x := by unfold wrap64; omega
/-- The block of what it took. -/
def Tk (D P : Nat) (X : Nat) (w : World) : Prop := w.heap[X]? = some (.cells #[.int .i64 (D : Int), .int .i64 (P : Int)] 30 (0, 0))
theorem Tk.opens {D P X : Nat} {w : World} (h : Tk D P X w) : w.cell? ⟨X, 0, none⟩ = some (.int .i64 (D : Int)) ∧ w.cell? ⟨X, 1, none⟩ = some (.int .i64 (P : Int)) ∧ w.frozen? ⟨X, 0, none⟩ = false ∧ w.frozen? ⟨X, 1, none⟩ = false ∧ X < w.heap.size :=
  ⟨blk_cell h rfl, blk_cell h rfl, blk_free h, blk_free h, (Array.getElem?_eq_some_iff.1 h).1⟩
theorem Tk.below {D P X : Nat} {w w' : World} (h : Tk D P X w) (hb : Below w.heap.size w w') : Tk D P X w' := (hb.block _ (Array.getElem?_eq_some_iff.1 h).1).trans h
/-- Nothing was written but block X and a row's. -/
structure Kt (X : Nat) (o : Option Nat) (w w' : World) : Prop where
  os : w'.os = w.os
  tape : w'.tape = w.tape
  output : w'.output = w.output
  size : w.heap.size ≤ w'.heap.size
  block : ∀ b, b < w.heap.size → b ≠ X → o ≠ some b → w'.heap[b]? = w.heap[b]?
theorem Kt.refl (X : Nat) (o : Option Nat) (w : World) : Kt X o w w := ⟨rfl, rfl, rfl, Nat.le_refl _, fun _ _ _ _ => rfl⟩
theorem Kt.same {X : Nat} {o : Option Nat} {w w' : World} (h : Kt X o w w') {S : Nat → Prop} (hS : ∀ b, S b → b ≠ X ∧ o ≠ some b) : Same S w w' := ⟨h.size, fun b hb hl => h.block b hl (hS b hb).1 (hS b hb).2⟩
/-- What diff does, f times deep yet. -/
def DiffOk (ka kb : BitVec 64) (f : Nat) : Prop := ∀ (X a b : Nat) (la lb : List Pr) (A3 : Option Addr) (k3 c3 : Nat) (out : List ByteArray) (D P : Nat) (w : World),
    Tr ka kb (fun q => q ≠ X ∧ (Value.slice A3 k3 c3).ownBlock ≠ some q) f la w a → Tr ka kb (fun q => q ≠ X ∧ (Value.slice A3 k3 c3).ownBlock ≠ some q) f lb w b → OwnT w (X + 1) (.slice A3 k3 c3) out → Tk D P X w →
    la.length ≤ 1000 → lb.length ≤ 1000 → out.length + 10000000 * f ≤ 90000000 → D + 100000000 * f ≤ 900000000 → P + 100000000 * f ≤ 900000000 →
    Calls Try.prog 46 #[.pointer (some ⟨a, 0, none⟩), .pointer (some ⟨b, 0, none⟩), .int .i64 ((4 - f : Nat) : Int), .pointer (some ⟨X, 0, none⟩), .slice A3 k3 c3] w fun e w' =>
      ∃ v, e = .returned v ∧ OwnT w' (X + 1) v (out ++ difK ka kb f la lb) ∧ Tk (D + difD ka kb f la lb) (P + difP ka kb f la lb) X w' ∧ (v.ownBlock = (Value.slice A3 k3 c3).ownBlock ∨ ∃ q, v.ownBlock = some q ∧ w.heap.size ≤ q) ∧ Kt X (Value.slice A3 k3 c3).ownBlock w w'
end Go.Proofs.Ytcmkjoepndbicaa
