/-
  A block packed, plainly.
-/
import Derived.Test.YtnkgagbobihnnaaKft
import Derived.Test.YtnkgagbobihnnaaLns
import Derived.Test.YtnkgagbobihnnaaOrd
import Derived.Test.YtnkgagbobihnnaaRuns
namespace Go.Proofs.Ytnkgagbobihnnaa
open Go Go.RowKit

theorem digs_bit (n : Nat) : ∀ x, x ∈ digs n → x = 0 ∨ x = 1 := by
  induction n using Nat.strongRecOn with
  | ind n ih =>
    intro x hx
    rcases Nat.eq_zero_or_pos n with h | h
    · subst h; rw [digs_zero] at hx; cases hx
    · rw [digs_pos h] at hx
      rcases List.mem_cons.1 hx with e | e
      · omega
      · exact ih _ (by omega) x e
theorem runsS_sign (bs : List UInt8) : ∀ k, ∀ x, x ∈ (runsS bs k).1 → 0 ≤ x ∧ x ≤ 257
  | 0, x, h => by cases h
  | k + 1, x, h => by
    unfold runsS at h
    split at h
    · exact runsS_sign bs k x h
    · rename_i h0
      rcases List.mem_append.1 h with h | h
      · rcases List.mem_append.1 h with h | h
        · exact runsS_sign bs k x h
        · have := digs_bit _ x h; omega
      · have := List.mem_singleton.1 h
        have := (bs.getD k 0).toNat_lt
        omega
theorem runsP_sign {bs : List UInt8} {x : Int} (h : x ∈ runsP bs) : 0 ≤ x ∧ x ≤ 257 := by
  unfold runsP at h
  rcases List.mem_append.1 h with h | h
  · rcases List.mem_append.1 h with h | h
    · exact runsS_sign bs _ x h
    · have := digs_bit _ x h; omega
  · have := List.mem_singleton.1 h; omega
theorem runsP_len (bs : List UInt8) : (runsP bs).length ≤ bs.length + 1 := by
  unfold runsP
  rw [List.length_append, List.length_append, List.length_singleton]
  have := runsS_len bs bs.length
  have := digs_len (runsS bs bs.length).2
  omega
/-- The k-th sign. -/
def sgn (sg : List Int) (k : Nat) : Nat := (rd sg k).toNat
/-- How often each sign comes among the first k. -/
def cnS (sg : List Int) : Nat → Nat → Nat
  | 0, _ => 0
  | k + 1, y => cnS sg k y + if y = sgn sg k then 1 else 0
theorem cnS_le (sg : List Int) (y : Nat) : ∀ k, cnS sg k y ≤ k
  | 0 => Nat.le_refl _
  | k + 1 => by
    have := cnS_le sg y k
    show cnS sg k y + (if y = sgn sg k then 1 else 0) ≤ k + 1
    split <;> omega
theorem AS_one {m s : Nat} (h : s < m) : AS (fun y => if y = s then 1 else 0) m = 1 := by
  induction m with
  | zero => omega
  | succ m ih =>
    show AS (fun y => if y = s then 1 else 0) m + (if m = s then 1 else 0) = 1
    by_cases e : m = s
    · subst e
      rw [if_pos rfl]
      have : AS (fun y => if y = m then 1 else 0) m = AS (fun _ => 0) m := AS_congr fun j hj => if_neg (by omega)
      rw [this]
      have : ∀ k, AS (fun _ => 0) k = 0 := fun k => by induction k with
        | zero => rfl
        | succ k ih => show AS (fun _ => 0) k + 0 = 0; rw [ih]
      rw [this]
    · rw [if_neg e, ih (by omega)]
theorem AS_cnS {sg : List Int} (hs : ∀ k, k < sg.length → sgn sg k < 258) : ∀ k, k ≤ sg.length → AS (cnS sg k) 258 = k
  | 0, _ => by
    have : ∀ k, AS (fun _ => 0) k = 0 := fun k => by induction k with
      | zero => rfl
      | succ k ih => show AS (fun _ => 0) k + 0 = 0; rw [ih]
    exact this _
  | k + 1, h => by
    have ih := AS_cnS hs k (by omega)
    have : AS (cnS sg (k + 1)) 258 = AS (fun y => cnS sg k y + if y = sgn sg k then 1 else 0) 258 := rfl
    rw [this, AS_add, ih, AS_one (hs k (by omega))]
def cntW (sg : List Int) : List Int := tab 258 (cnS sg sg.length)
theorem sumOK_tab {m : Nat} {f : Nat → Nat} (h : AS f m ≤ 1099511627776) : ∀ k, k ≤ m → sumOK (tab m f) k = some (AS f k)
  | 0, _ => rfl
  | k + 1, hk => by
    have ih := sumOK_tab h k (by omega)
    have h1 : AS f k + f k ≤ 1099511627776 := Nat.le_trans (AS_mono f hk) h
    show (match sumOK (tab m f) k with | none => none | some s => _) = _
    rw [ih, tab_rd f (by omega)]
    show (if _ then _ else _) = _
    rw [if_neg (by omega), Int.toNat_natCast]
    rfl
/-- What a block's signs are told by. -/
structure Wts (sg : List Int) : Prop where
  len : (lengthsN (cntW sg)).length = 258
  ok : lengthsP (cntW sg) = (0, lengthsN (cntW sg))
  rng : ∀ j, j < 258 → 0 ≤ rd (lengthsN (cntW sg)) j ∧ rd (lengthsN (cntW sg)) j ≤ 31
  cod : ∃ O, codesP (lengthsN (cntW sg)) = (0, O) ∧ GoodC 258 O
theorem wts_ok {sg : List Int} (hs : ∀ k, k < sg.length → sgn sg k < 258) (hl : sg.length ≤ 100000) : Wts sg := by
  have hcl : (cntW sg).length = 258 := tab_len _ _
  have hsum : sumOK (cntW sg) (cntW sg).length = some sg.length := by
    rw [hcl]
    have h9 := AS_cnS hs sg.length (Nat.le_refl _)
    have := sumOK_tab (m := 258) (f := cnS sg sg.length) (by omega) 258 (Nat.le_refl _)
    rw [h9] at this
    exact this
  have hg := growN_le hsum (by omega)
  have hlen : (lengthsN (cntW sg)).length = 258 := by unfold lengthsN; rw [tab_len, hcl]
  have hrng : ∀ j, j < 258 → 0 ≤ rd (lengthsN (cntW sg)) j ∧ rd (lengthsN (cntW sg)) j ≤ 31 := fun j hj => by
    unfold lengthsN
    rw [tab_rd _ (by rw [hcl]; exact hj)]
    have := hg j
    omega
  refine ⟨hlen, ?_, hrng, ?_⟩
  · unfold lengthsP
    rw [hsum]
    have : (lengthsN (cntW sg)).any (fun x => decide (31 < x)) = false := by
      rw [List.any_eq_false]
      intro x hx
      obtain ⟨k, hk, rfl⟩ := List.getElem_of_mem hx
      have := (hrng k (by omega)).2
      rw [rd_lt hk] at this
      simp; omega
    simp [this]
  · have := codes_fit (ls := lengthsN (cntW sg)) (by rw [hlen]; exact hrng) (growN_kft (fun i => Nat.le_trans (hg i) (by omega))).1
    rw [hlen] at this
    exact this
/-- The codes of the first k signs. -/
def codeB (sg ls cs : List Int) (k : Nat) : List Nat := (List.range k).flatMap fun j => dg (rd cs (sgn sg j)).toNat (rd ls (sgn sg j)).toNat
theorem codeB_succ (sg ls cs : List Int) (k : Nat) : codeB sg ls cs (k + 1) = codeB sg ls cs k ++ dg (rd cs (sgn sg k)).toNat (rd ls (sgn sg k)).toNat := by
  unfold codeB; rw [List.range_succ, List.flatMap_append]; simp
def signsP (b : List UInt8) : List Int := runsP (frontP (turnP b).1)
/-- All bits of a block. -/
def bitsP (b : List UInt8) : List Nat := dg (turnP b).2 12 ++ lensB (lengthsN (cntW (signsP b))) ++ codeB (signsP b) (lengthsN (cntW (signsP b))) (codesP (lengthsN (cntW (signsP b)))).2 (signsP b).length
def smallP (b : List UInt8) : List UInt8 := pk (bitsP b)
theorem turnP_len (b : List UInt8) : (turnP b).1.length = b.length := by
  show (turnL b (tl b)).length = _
  unfold turnL
  rw [List.length_map]
  exact (tl_is b).len
theorem signsP_len (b : List UInt8) : (signsP b).length ≤ b.length + 1 := by
  have := runsP_len (frontP (turnP b).1)
  rw [frontP_len, turnP_len] at this
  exact this
theorem signsP_lt (b : List UInt8) : ∀ k, k < (signsP b).length → sgn (signsP b) k < 258 ∧ rd (signsP b) k = (sgn (signsP b) k : Nat) := fun k hk => by
  unfold sgn
  have h := runsP_sign (bs := frontP (turnP b).1) (x := rd (signsP b) k) (by
    rw [rd_lt hk]; exact List.getElem_mem _)
  omega
end Go.Proofs.Ytnkgagbobihnnaa
