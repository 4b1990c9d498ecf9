/-
  Bits put together, plainly.
-/
import Derived.Test.YtnkgagbobihnnaaRuns
import Derived.Laws.BitsLemmas
namespace Go.Proofs.Ytnkgagbobihnnaa
open Go Go.RowKit

/-- The bytes, and how many bits of the last one are set. -/
def pkS (s : List UInt8 × Nat) (d : Nat) : List UInt8 × Nat :=
  ((if s.2 = 0 then s.1 ++ [UInt8.ofNat (d * 2 ^ (7 - s.2))] else s.1.set (s.1.length - 1) (UInt8.ofNat ((s.1.getD (s.1.length - 1) 0).toNat + d * 2 ^ (7 - s.2)))), (s.2 + 1) % 8)
def pkF (bits : List Nat) : List UInt8 × Nat := bits.foldl pkS ([], 0)
def pk (bits : List Nat) : List UInt8 := (pkF bits).1
/-- A number in so many bits, the highest first. -/
def dg (x many : Nat) : List Nat := (List.range many).map fun d => x / 2 ^ (many - 1 - d) % 2
theorem dg_len (x many : Nat) : (dg x many).length = many := by simp [dg]
theorem dg_take (x : Nat) {many j : Nat} (h : j < many) : (dg x many).take (j + 1) = (dg x many).take j ++ [x / 2 ^ (many - 1 - j) % 2] := by
  have h1 : j < (dg x many).length := by rw [dg_len]; exact h
  have h2 : (dg x many)[j] = x / 2 ^ (many - 1 - j) % 2 := by simp [dg]
  rw [List.take_succ_eq_append_getElem h1, h2]
theorem dg_bit (x many : Nat) : ∀ d, d ∈ dg x many → d ≤ 1 := by
  intro d hd
  obtain ⟨j, _, rfl⟩ := List.mem_map.1 hd
  omega
theorem pkF_snoc (bits : List Nat) (d : Nat) : pkF (bits ++ [d]) = pkS (pkF bits) d := by unfold pkF; rw [List.foldl_append]; rfl
/-- What holds of the bytes: how many there are; the last one's lower bits are 0. -/
structure PkI (bits : List Nat) : Prop where
  n : (pkF bits).2 = bits.length % 8
  len : (pkF bits).1.length = (bits.length + 7) / 8
  low : bits.length % 8 ≠ 0 → ((pkF bits).1.getD ((pkF bits).1.length - 1) 0).toNat % 2 ^ (8 - bits.length % 8) = 0
theorem pk_inv (bits : List Nat) (h : ∀ d, d ∈ bits → d ≤ 1) : PkI bits := by
  have key : ∀ n, ∀ bits : List Nat, bits.length = n → (∀ d, d ∈ bits → d ≤ 1) → PkI bits := by
    intro n
    induction n with
    | zero =>
      intro bits hl _
      obtain rfl : bits = [] := List.eq_nil_of_length_eq_zero hl
      exact ⟨rfl, rfl, fun h9 => absurd rfl h9⟩
    | succ n ih =>
      intro bits hl hb
      obtain ⟨bs, d, rfl⟩ : ∃ bs d, bits = bs ++ [d] := by
        rcases List.eq_nil_or_concat bits with h | ⟨bs, d, h⟩
        · rw [h] at hl; simp at hl
        · exact ⟨bs, d, by rw [h, List.concat_eq_append]⟩
      rw [List.length_append, List.length_singleton] at hl
      have I := ih bs (by omega) (fun x hx => hb x (List.mem_append_left _ hx))
      have hd : d ≤ 1 := hb d (List.mem_append_right _ (List.mem_singleton.2 rfl))
      have e := pkF_snoc bs d
      have hn := I.n
      have hlen := I.len
      have hlow := I.low
      obtain ⟨out, m, hom⟩ : ∃ out m, pkF bs = (out, m) := ⟨_, _, rfl⟩
      rw [hom] at e hn hlen hlow
      simp only at hn hlen hlow
      have e2 : pkF (bs ++ [d]) = ((if m = 0 then out ++ [UInt8.ofNat (d * 2 ^ (7 - m))] else out.set (out.length - 1) (UInt8.ofNat ((out.getD (out.length - 1) 0).toNat + d * 2 ^ (7 - m)))), (m + 1) % 8) := e
      have hm8 : m < 8 := by omega
      refine ⟨?_, ?_, ?_⟩
      · rw [e2, List.length_append, List.length_singleton]
        show (m + 1) % 8 = _
        omega
      · rw [e2, List.length_append, List.length_singleton]
        by_cases h0 : m = 0
        · rw [if_pos h0, List.length_append, List.length_singleton]; omega
        · rw [if_neg h0, List.length_set]; omega
      · rw [e2, List.length_append, List.length_singleton]
        intro h9
        have hpow : (2 : Nat) ^ (8 - (bs.length + 1) % 8) = 2 ^ (7 - m) := by congr 1; omega
        rw [hpow]
        have hm7 : m ≤ 6 := by omega
        have hdv : d * 2 ^ (7 - m) < 256 := by
          have : 2 ^ (7 - m) ≤ 2 ^ 7 := Nat.pow_le_pow_right (by omega) (by omega)
          have : d * 2 ^ (7 - m) ≤ 1 * 2 ^ (7 - m) := Nat.mul_le_mul_right _ hd
          omega
        by_cases h0 : m = 0
        · simp only [if_pos h0]
          rw [List.length_append, List.length_singleton, Nat.add_sub_cancel, List.getD_eq_getElem?_getD, List.getElem?_append_right (Nat.le_refl _), Nat.sub_self]
          show (UInt8.ofNat (d * 2 ^ (7 - m))).toNat % 2 ^ (7 - m) = 0
          rw [UInt8.toNat_ofNat', Nat.mod_eq_of_lt (show d * 2 ^ (7 - m) < 2 ^ 8 from hdv)]
          exact Nat.mul_mod_left _ _
        · simp only [if_neg h0]
          have hol : 0 < out.length := by omega
          rw [List.length_set, List.getD_eq_getElem?_getD, List.getElem?_set, if_pos rfl, if_pos (by omega)]
          show (UInt8.ofNat ((out.getD (out.length - 1) 0).toNat + d * 2 ^ (7 - m))).toNat % 2 ^ (7 - m) = 0
          have hl2 := hlow (by omega)
          rw [show bs.length % 8 = m by omega] at hl2
          have hlt := (out.getD (out.length - 1) 0).toNat_lt
          obtain ⟨q, hq⟩ : ∃ q, (out.getD (out.length - 1) 0).toNat = q := ⟨_, rfl⟩
          rw [hq] at hl2 hlt ⊢
          have e5 : (2 : Nat) ^ (8 - m) = 2 * 2 ^ (7 - m) := by rw [← Nat.pow_succ']; congr 1; omega
          obtain ⟨t, rfl⟩ : ∃ t, q = 2 ^ (8 - m) * t := ⟨q / 2 ^ (8 - m), by have := Nat.div_add_mod q (2 ^ (8 - m)); omega⟩
          have hsum : 2 ^ (8 - m) * t + d * 2 ^ (7 - m) < 256 := by
            have e6 : (256 : Nat) = 2 ^ (8 - m) * 2 ^ m := by rw [← Nat.pow_add, show 8 - m + m = 8 by omega]
            have ht : t < 2 ^ m := by
              have hlt : 2 ^ (8 - m) * t < 256 := hlt
              rw [e6] at hlt
              exact Nat.lt_of_mul_lt_mul_left hlt
            have : 2 ^ (8 - m) * (t + 1) ≤ 2 ^ (8 - m) * 2 ^ m := Nat.mul_le_mul_left _ ht
            rw [Nat.mul_succ, ← e6] at this
            have : d * 2 ^ (7 - m) ≤ 1 * 2 ^ (7 - m) := Nat.mul_le_mul_right _ hd
            have : 0 < 2 ^ (7 - m) := Nat.two_pow_pos _
            omega
          rw [UInt8.toNat_ofNat', Nat.mod_eq_of_lt (show 2 ^ (8 - m) * t + d * 2 ^ (7 - m) < 2 ^ 8 from hsum), e5]
          rw [show 2 * 2 ^ (7 - m) * t + d * 2 ^ (7 - m) = (2 * t + d) * 2 ^ (7 - m) by rw [Nat.add_mul, Nat.mul_comm (2 * t), ← Nat.mul_assoc, Nat.mul_comm 2]]
          exact Nat.mul_mod_left _ _
  exact key _ bits rfl h
theorem last_lt {bits : List Nat} (I : PkI bits) (h0 : bits.length % 8 ≠ 0) : 0 < (pkF bits).1.length := by rw [I.len]; omega
theorem and_one (x : Int) (h₀ : 0 ≤ x) (h₁ : x < 9223372036854775808) : Go.bits .and .i64 x 1 = x % 2 :=
  bits_mask .i64 63 (by decide) (fun n h0 h1 => by rw [IntKind.wrap_i64]; omega) 1 (by decide) x h₀ h₁
theorem and_seven (x : Int) (h₀ : 0 ≤ x) (h₁ : x < 9223372036854775808) : Go.bits .and .i64 x 7 = x % 8 :=
  bits_mask .i64 63 (by decide) (fun n h0 h1 => by rw [IntKind.wrap_i64]; omega) 3 (by decide) x h₀ h₁
end Go.Proofs.Ytnkgagbobihnnaa
