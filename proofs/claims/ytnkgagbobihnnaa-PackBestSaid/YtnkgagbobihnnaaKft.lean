/-
  Lengths that fit have codes, plainly.
-/
import Derived.Test.YtnkgagbobihnnaaFib
import Derived.Test.YtnkgagbobihnnaaCod
namespace Go.Proofs.Ytnkgagbobihnnaa
open Go Go.RowKit

def AS (f : Nat → Nat) : Nat → Nat
  | 0 => 0
  | k + 1 => AS f k + f k
theorem AS_add (f g : Nat → Nat) : ∀ k, AS (fun j => f j + g j) k = AS f k + AS g k
  | 0 => rfl
  | k + 1 => by
    show AS (fun j => f j + g j) k + (f k + g k) = AS f k + f k + (AS g k + g k)
    rw [AS_add f g k]; omega
theorem AS_congr {f g : Nat → Nat} : ∀ {k : Nat}, (∀ j, j < k → f j = g j) → AS f k = AS g k
  | 0, _ => rfl
  | k + 1, h => by
    show AS f k + f k = AS g k + g k
    rw [AS_congr (fun j hj => h j (by omega)), h k (by omega)]
theorem AS_le {f g : Nat → Nat} : ∀ {k : Nat}, (∀ j, j < k → f j ≤ g j) → AS f k ≤ AS g k
  | 0, _ => Nat.le_refl _
  | k + 1, h => by
    have h1 := AS_le (k := k) (f := f) (g := g) (fun j hj => h j (by omega))
    have h2 := h k (by omega)
    show AS f k + f k ≤ AS g k + g k
    omega
theorem AS_mono (f : Nat → Nat) {k m : Nat} (h : k ≤ m) : AS f k ≤ AS f m := by
  induction m with
  | zero => obtain rfl : k = 0 := by omega
            exact Nat.le_refl _
  | succ m ih =>
    rcases Nat.eq_or_lt_of_le h with e | e
    · rw [e]; exact Nat.le_refl _
    · have := ih (by omega)
      show AS f k ≤ AS f m + f m
      omega
def ln (ls : List Int) (j : Nat) : Nat := (rd ls j).toNat
/-- What the lengths up to m take of 2^31. -/
def kft (ls : List Int) (m : Nat) : Nat := AS (fun j => if 1 ≤ ln ls j ∧ ln ls j ≤ m then 2 ^ (31 - ln ls j) else 0) ls.length
def kfr (ls : List Int) (m k : Nat) : Nat := AS (fun j => if ln ls j = m + 1 then 2 ^ (30 - m) else 0) k
theorem kft_succ (ls : List Int) {m : Nat} (hm : m < 31) : kft ls (m + 1) = kft ls m + kfr ls m ls.length := by
  unfold kft kfr
  rw [← AS_add]
  refine AS_congr fun j _ => ?_
  by_cases h1 : 1 ≤ ln ls j ∧ ln ls j ≤ m
  · rw [if_pos h1, if_pos ⟨h1.1, by omega⟩, if_neg (by omega)]; omega
  · by_cases h2 : ln ls j = m + 1
    · rw [if_neg h1, if_pos h2, if_pos ⟨by omega, by omega⟩, h2, show 31 - (m + 1) = 30 - m by omega]; omega
    · rw [if_neg h1, if_neg h2, if_neg (by omega)]
theorem kft_zero (ls : List Int) : kft ls 0 = 0 := by
  unfold kft
  have : AS (fun j => if 1 ≤ ln ls j ∧ ln ls j ≤ 0 then 2 ^ (31 - ln ls j) else 0) ls.length = AS (fun _ => 0) ls.length := AS_congr fun j _ => if_neg (by omega)
  rw [this]
  have : ∀ k, AS (fun _ => 0) k = 0 := fun k => by induction k with
    | zero => rfl
    | succ k ih => show AS (fun _ => 0) k + 0 = 0; rw [ih]
  exact this _
theorem kft_mono (ls : List Int) {m : Nat} (h : m ≤ 31) : kft ls m ≤ kft ls 31 := by
  unfold kft
  refine AS_le fun j _ => ?_
  by_cases h1 : 1 ≤ ln ls j ∧ ln ls j ≤ m
  · rw [if_pos h1, if_pos ⟨h1.1, by omega⟩]; exact Nat.le_refl _
  · rw [if_neg h1]; exact Nat.zero_le _
/-- What is good of codes. -/
def GoodC (n : Nat) (O : List Int) : Prop := O.length = n ∧ ∀ j, j < n → 0 ≤ rd O j ∧ rd O j < 2147483648
theorem rdset_ne {l : List Int} {k j : Nat} {v : Int} (h : k ≠ j) : rd (l.set k v) j = rd l j := by
  unfold rd
  rw [List.getD_eq_getElem?_getD, List.getD_eq_getElem?_getD, List.getElem?_set, if_neg h]
theorem GoodC.set {n : Nat} {O : List Int} (h : GoodC n O) {k : Nat} {v : Int} (h0 : 0 ≤ v) (h1 : v < 2147483648) : GoodC n (O.set k v) :=
  ⟨by rw [List.length_set]; exact h.1, fun j hj => by
    by_cases e : k = j
    · subst e
      rw [rd_set (by rw [h.1]; exact hj)]
      exact ⟨h0, h1⟩
    · rw [rdset_ne e]; exact h.2 j hj⟩
theorem row_ok {ls : List Int} (hls : ∀ j, j < ls.length → 0 ≤ rd ls j ∧ rd ls j ≤ 31) (hk : kft ls 31 ≤ 2147483648) {m X : Nat} {O : List Int} (hm : m < 31) (hX : X * 2 ^ (31 - m) = kft ls m) (hO : GoodC ls.length O) :
    ∀ k, k ≤ ls.length → ∃ Y P, rowC ls (m + 1) (2 * X, O) k = .ok (Y, P) ∧ Y * 2 ^ (30 - m) = kft ls m + kfr ls m k ∧ GoodC ls.length P
  | 0, _ => ⟨2 * X, O, rfl, by
      rw [← hX]
      show 2 * X * 2 ^ (30 - m) = X * 2 ^ (31 - m) + 0
      rw [show 31 - m = (30 - m) + 1 by omega, Nat.pow_succ, Nat.add_zero, Nat.mul_comm 2 X, Nat.mul_assoc, Nat.mul_comm 2], hO⟩
  | k + 1, h => by
    obtain ⟨Y, P, h1, h2, h3⟩ := row_ok hls hk hm hX hO k (by omega)
    have hb := hls k (by omega)
    have hr : rowC ls (m + 1) (2 * X, O) (k + 1) = stepC ls (m + 1) (Y, P) k := by rw [rowC_succ, h1]; rfl
    have hs : kfr ls m (k + 1) = kfr ls m k + (if ln ls k = m + 1 then 2 ^ (30 - m) else 0) := rfl
    have hsum : kft ls m + kfr ls m (k + 1) ≤ 2147483648 := by
      have a1 : kfr ls m (k + 1) ≤ kfr ls m ls.length := AS_mono _ h
      have a2 := kft_succ ls hm
      have a3 := kft_mono ls (m := m + 1) (by omega)
      omega
    rw [hr, hs]
    unfold stepC
    rw [if_neg (by omega)]
    by_cases e : rd ls k = ((m + 1 : Nat) : Int)
    · have e2 : ln ls k = m + 1 := by unfold ln; omega
      rw [if_pos e, if_pos e2]
      rw [hs, if_pos e2] at hsum
      have hpow : (2147483648 : Nat) = 2 ^ (m + 1) * 2 ^ (30 - m) := by rw [← Nat.pow_add, show m + 1 + (30 - m) = 31 by omega]
      have hY : Y + 1 ≤ 2 ^ (m + 1) := by
        have : (Y + 1) * 2 ^ (30 - m) ≤ 2 ^ (m + 1) * 2 ^ (30 - m) := by rw [← hpow, Nat.add_mul]; omega
        exact Nat.le_of_mul_le_mul_right this (Nat.two_pow_pos _)
      have hp31 : 2 ^ (m + 1) ≤ 2 ^ 31 := Nat.pow_le_pow_right (by omega) (by omega)
      refine ⟨Y + 1, P.set k (Y : Int), ?_, by rw [Nat.add_mul]; omega, h3.set (by omega) (by omega)⟩
      show (if 2 ^ (m + 1) ≤ Y then _ else _) = _
      rw [if_neg (by omega)]
    · have e2 : ¬ ln ls k = m + 1 := by unfold ln; omega
      rw [if_neg e, if_neg e2]
      exact ⟨Y, P, rfl, by omega, h3⟩
theorem all_ok {ls : List Int} (hls : ∀ j, j < ls.length → 0 ≤ rd ls j ∧ rd ls j ≤ 31) (hk : kft ls 31 ≤ 2147483648) : ∀ m, m ≤ 31 → ∃ X O, allC ls m = .ok (X, O) ∧ X * 2 ^ (31 - m) = kft ls m ∧ GoodC ls.length O
  | 0, _ => ⟨0, List.replicate ls.length 0, rfl, by rw [kft_zero, Nat.zero_mul], List.length_replicate, fun j hj => by
      have : rd (List.replicate ls.length 0) j = 0 := by
        unfold rd
        rw [List.getD_eq_getElem?_getD, List.getElem?_replicate, if_pos hj]; rfl
      rw [this]; omega⟩
  | m + 1, h => by
    obtain ⟨X, O, h1, h2, h3⟩ := all_ok hls hk m (by omega)
    obtain ⟨Y, P, g1, g2, g3⟩ := row_ok hls hk (by omega) h2 h3 ls.length (Nat.le_refl _)
    refine ⟨Y, P, by rw [allC_succ, h1]; exact g1, ?_, g3⟩
    rw [kft_succ ls (by omega), ← g2, show 31 - (m + 1) = 30 - m by omega]
theorem codes_fit {ls : List Int} (hls : ∀ j, j < ls.length → 0 ≤ rd ls j ∧ rd ls j ≤ 31) (hk : kft ls 31 ≤ 2147483648) : ∃ O, codesP ls = (0, O) ∧ GoodC ls.length O := by
  obtain ⟨X, O, h1, _, h3⟩ := all_ok hls hk 31 (Nat.le_refl _)
  exact ⟨O, codes_ok h1, h3⟩
/-- A knot's lengths take what its part takes. -/
theorem krF_perm (o : Nat → Nat) (D : Nat) {l m : List Nat} (h : l.Perm m) : krF o D l = krF o D m := by
  induction h with
  | nil => rfl
  | cons x _ ih => simp only [krF, ih]
  | swap x y l => simp only [krF]; omega
  | trans _ _ h1 h2 => exact h1.trans h2
theorem AS_flat (f : Nat → Nat) (l : List Nat) (hn : l.Nodup) : ∀ n, (∀ i, i ∈ l → i < n) → AS (fun j => if j ∈ l then f j else 0) n = (l.map f).sum := by
  intro n hl
  have key : ∀ (n : Nat), AS (fun j => if j ∈ l then f j else 0) n = (((List.range n).filter (fun j => decide (j ∈ l))).map f).sum := by
    intro n
    induction n with
    | zero => rfl
    | succ n ih =>
      show AS (fun j => if j ∈ l then f j else 0) n + (if n ∈ l then f n else 0) = _
      rw [ih, List.range_succ, List.filter_append, List.map_append, List.sum_append]
      by_cases h : n ∈ l <;> simp [h]
  rw [key n]
  have hp : ((List.range n).filter (fun j => decide (j ∈ l))).Perm l := by
    refine (List.perm_ext_iff_of_nodup (List.nodup_range.filter _) hn).2 fun a => ?_
    rw [List.mem_filter, List.mem_range]
    constructor
    · rintro ⟨_, h⟩; simpa using h
    · intro h; exact ⟨hl a h, by simpa using h⟩
  exact (hp.map f).sum_nat
theorem krF_sum (o : Nat → Nat) (D : Nat) : ∀ l : List Nat, krF o D l = (l.map fun i => 2 ^ (D - o i)).sum
  | [] => rfl
  | i :: l => by
    show 2 ^ (D - o i) + krF o D l = _
    rw [krF_sum o D l, List.map_cons, List.sum_cons]
/-- Lengths by weights, if they are short enough, have codes. -/
theorem growN_kft {ws : List Int} (h31 : ∀ i, growN (knots ws ws.length) i ≤ 31) : kft (lengthsN ws) 31 ≤ 2147483648 ∧ (2 ≤ (knots ws ws.length).length → kft (lengthsN ws) 31 = 2147483648) := by
  have hlen : (lengthsN ws).length = ws.length := by unfold lengthsN; rw [tab_len]
  have hln : ∀ j, j < ws.length → ln (lengthsN ws) j = growN (knots ws ws.length) j := fun j hj => by
    unfold ln lengthsN
    rw [tab_rd _ hj]; omega
  have e1 : kft (lengthsN ws) 31 = AS (fun j => if 1 ≤ growN (knots ws ws.length) j then 2 ^ (31 - growN (knots ws ws.length) j) else 0) ws.length := by
    unfold kft
    rw [hlen]
    refine AS_congr fun j hj => ?_
    rw [hln j hj]
    have := h31 j
    by_cases h : 1 ≤ growN (knots ws ws.length) j
    · rw [if_pos h, if_pos ⟨h, this⟩]
    · rw [if_neg h, if_neg (fun h9 => h h9.1)]
  rw [e1]
  rcases Nat.lt_or_ge (knots ws ws.length).length 2 with h2 | h2
  · refine ⟨?_, fun h9 => by omega⟩
    rcases Nat.eq_zero_or_pos (knots ws ws.length).length with h0 | h0
    · have : ∀ j, growN (knots ws ws.length) j = 0 := fun j => by
        unfold growN
        rw [if_neg (by omega), h0]
        rfl
      have e2 : AS (fun j => if 1 ≤ growN (knots ws ws.length) j then 2 ^ (31 - growN (knots ws ws.length) j) else 0) ws.length = AS (fun j => if j ∈ ([] : List Nat) then 1 else 0) ws.length := AS_congr fun j _ => by rw [this j]; simp
      rw [e2, AS_flat _ _ List.nodup_nil _ (fun i hi => by cases hi)]
      exact Nat.zero_le _
    · have hl1 : (knots ws ws.length).length = 1 := by omega
      obtain ⟨k, hk⟩ : ∃ k, flat (knots ws ws.length) = [k] := List.length_eq_one_iff.1 (by
        have h9 : (flat (knots ws ws.length)).length = (knots ws ws.length).length := knots_flat' ws _
        omega)
      have e3 : ∀ j, growN (knots ws ws.length) j = if j ∈ [k] then 1 else 0 := fun j => by
        unfold growN
        rw [if_pos hl1, hk]
      have e2 : AS (fun j => if 1 ≤ growN (knots ws ws.length) j then 2 ^ (31 - growN (knots ws ws.length) j) else 0) ws.length = AS (fun j => if j ∈ [k] then 2 ^ 30 else 0) ws.length := AS_congr fun j _ => by
        rw [e3 j]
        by_cases h : j ∈ [k]
        · simp only [if_pos h]; rfl
        · simp only [if_neg h]; rfl
      rw [e2, AS_flat _ _ (by simp) _ (fun i hi => by
        have := knots_lt ws ws.length i (by rw [hk]; exact hi)
        exact this)]
      simp
  · have hG : ∃ n, (knots ws ws.length).length = n + 1 ∧ 1 ≤ n := ⟨(knots ws ws.length).length - 1, by omega, by omega⟩
    obtain ⟨n, hn, hn1⟩ := hG
    have hI : Inv (fun i => (rd ws i).toNat) (fun _ => 0) (knots ws ws.length) := knots_inv ws _
    obtain ⟨c, _, _, hF⟩ := grow_all (fun i => (rd ws i).toNat) n (knots ws ws.length) (fun _ => 0) hn hI
    have hgo : growN (knots ws ws.length) = grow n (knots ws ws.length) (fun _ => 0) := by
      unfold growN
      rw [if_neg (by omega), hn, Nat.add_sub_cancel]
    have hfull := hF 31 (fun i hi => by rw [← hgo]; exact h31 i)
    rw [← hgo] at hfull
    have hz : ∀ i, i ∉ flat (knots ws ws.length) → growN (knots ws ws.length) i = 0 := fun i hi => by
      rw [hgo, grow_zero n _ _ hn i hi]
    have hone : ∀ i, i ∈ flat (knots ws ws.length) → 1 ≤ growN (knots ws ws.length) i := fun i hi => by
      rcases Nat.eq_zero_or_pos (growN (knots ws ws.length) i) with h0 | h0
      · exfalso
        obtain ⟨m, hm⟩ := perm_of_mem hi
        rw [krF_perm _ _ hm] at hfull
        have h9 : krF (growN (knots ws ws.length)) 31 (i :: m) = 2 ^ (31 - growN (knots ws ws.length) i) + krF (growN (knots ws ws.length)) 31 m := rfl
        rw [h9, h0] at hfull
        have hml : m ≠ [] := by
          rintro rfl
          have := hm.length_eq
          rw [knots_flat' ws] at this
          simp at this
          omega
        cases m with
        | nil => exact hml rfl
        | cons j m =>
          have h8 : krF (growN (knots ws ws.length)) 31 (j :: m) = 2 ^ (31 - growN (knots ws ws.length) j) + krF (growN (knots ws ws.length)) 31 m := rfl
          have := Nat.two_pow_pos (31 - growN (knots ws ws.length) j)
          omega
      · exact h0
    have e2 : AS (fun j => if 1 ≤ growN (knots ws ws.length) j then 2 ^ (31 - growN (knots ws ws.length) j) else 0) ws.length = AS (fun j => if j ∈ flat (knots ws ws.length) then 2 ^ (31 - growN (knots ws ws.length) j) else 0) ws.length := AS_congr fun j _ => by
      by_cases h : j ∈ flat (knots ws ws.length)
      · rw [if_pos h, if_pos (hone j h)]
      · rw [if_neg h, if_neg (by rw [hz j h]; omega)]
    rw [e2, AS_flat _ _ (knots_nodup ws _) _ (knots_lt ws _), ← krF_sum, hfull]
    exact ⟨Nat.le_refl _, fun _ => rfl⟩
where
  knots_flat' (ws : List Int) : ∀ k, (flat (knots ws k)).length = (knots ws k).length
    | 0 => rfl
    | k + 1 => by
      have ih := knots_flat' ws k
      unfold knots
      split
      · rw [flat_app, List.length_append, List.length_append, ih]; rfl
      · exact ih
  knots_inv (ws : List Int) (k : Nat) : Inv (fun i => (rd ws i).toNat) (fun _ => 0) (knots ws k) := by
    have key : ∀ k y, y ∈ knots ws k → ∃ i, y = ((rd ws i).toNat, [i]) := by
      intro k
      induction k with
      | zero => intro y hy; cases hy
      | succ k ih =>
        intro y hy
        unfold knots at hy
        split at hy
        · rcases List.mem_append.1 hy with h | h
          · exact ih y h
          · exact ⟨k, List.mem_singleton.1 h⟩
        · exact ih y hy
    refine ⟨knots_nodup ws k, fun y hy => ?_, fun y hy => ?_, fun y hy => ?_⟩
    · obtain ⟨i, rfl⟩ := key k y hy; simp
    · obtain ⟨i, rfl⟩ := key k y hy; exact full_one _ i rfl
    · obtain ⟨i, rfl⟩ := key k y hy; simp [sumF]
end Go.Proofs.Ytnkgagbobihnnaa
