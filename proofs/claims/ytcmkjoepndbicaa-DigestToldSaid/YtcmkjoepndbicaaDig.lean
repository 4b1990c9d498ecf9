/-
  Words that are mixed: digest's and the reference's.
-/
import Derived.Test.YtcmkjoepndbicaaBas
import Derived.Laws.Bits64
import Derived.Laws.Bits64b
namespace Go.Proofs.Ytcmkjoepndbicaa
open Go Go.RowKit

theorem b_xor (x y : BitVec 64) : bits .xor .u64 (x.toNat : Int) (y.toNat : Int) = ((x ^^^ y).toNat : Int) := by
  rw [bits_xor_u64_nat _ _ x.isLt y.isLt, BitVec.toNat_xor]
theorem b_or (x y : BitVec 64) : bits .or .u64 (x.toNat : Int) (y.toNat : Int) = ((x ||| y).toNat : Int) := by
  rw [bits_or_u64_nat _ _ x.isLt y.isLt, BitVec.toNat_or]
theorem b_add (x y : BitVec 64) : IntKind.u64.wrap ((x.toNat : Int) + (y.toNat : Int)) = ((x + y).toNat : Int) := by
  rw [IntKind.wrap_u64, BitVec.toNat_add]
  omega
theorem b_add2 (x y : BitVec 64) : ((x.toNat : Int) + (y.toNat : Int)) % 18446744073709551616 = ((x + y).toNat : Int) := by
  rw [← b_add, IntKind.wrap_u64]
theorem b_shl (x : BitVec 64) (k : Nat) : IntKind.u64.wrap ((x.toNat : Int) * 2 ^ k) = ((x <<< k).toNat : Int) := by
  rw [IntKind.wrap_u64, BitVec.toNat_shiftLeft, Nat.shiftLeft_eq, show (x.toNat : Int) * 2 ^ k = ((x.toNat * 2 ^ k : Nat) : Int) by push_cast; rfl]
  omega
theorem b_shr (x : BitVec 64) (k : Nat) : (x.toNat : Int) / 2 ^ k = ((x >>> k).toNat : Int) := by
  rw [BitVec.toNat_ushiftRight, Nat.shiftRight_eq_div_pow]
  push_cast
  rfl

/-- A word turned left. -/
def rotL (x : BitVec 64) (k : Nat) : BitVec 64 := x <<< k ||| x >>> (64 - k)
theorem rotL_succ (x : BitVec 64) (k : Nat) (hk : k + 1 < 64) (h0 : 0 < k) : rotL (rotL x k) 1 = rotL x (k + 1) := by
  unfold rotL
  apply BitVec.eq_of_getLsbD_eq
  intro i hi
  simp only [BitVec.getLsbD_or, BitVec.getLsbD_shiftLeft, BitVec.getLsbD_ushiftRight]
  by_cases h1 : i < 1
  · have e : i = 0 := by omega
    subst e
    rw [show 64 - 1 + 0 - k = 64 - (k + 1) + 0 by omega]
    have hz : x.getLsbD (64 - k + (64 - 1 + 0)) = false := BitVec.getLsbD_of_ge _ _ (by omega)
    simp [hz]
    omega
  · have hz : (x.getLsbD (64 - k + (64 - 1 + i))) = false := BitVec.getLsbD_of_ge _ _ (by omega)
    by_cases h2 : i - 1 < k
    · have e1 : 64 - k + (i - 1) = 64 - (k + 1) + i := by omega
      have : i < k + 1 := by omega
      simp [h1, h2, hz, hi, e1, this]
      try omega
    · have h3 : ¬ i < k + 1 := by omega
      have e1 : i - 1 - k = i - (k + 1) := by omega
      have hz2 : x.getLsbD (64 - k + (i - 1)) = false := BitVec.getLsbD_of_ge _ _ (by omega)
      have hz3 : x.getLsbD (64 - (k + 1) + i) = false := BitVec.getLsbD_of_ge _ _ (by omega)
      have h5 : i - 1 < 64 := by omega
      rw [hz, hz2, hz3, e1]
      simp [h1, h2, h3, hi, h5]
      intro h
      omega
theorem rotL_one (x : BitVec 64) : (2 * x.toNat + x.toNat / 9223372036854775808) % 18446744073709551616 = (rotL x 1).toNat := by
  unfold rotL
  have h : x <<< 1 &&& x >>> 63 = 0#64 := by
    apply BitVec.eq_of_getLsbD_eq
    intro i hi
    simp only [BitVec.getLsbD_and, BitVec.getLsbD_shiftLeft, BitVec.getLsbD_ushiftRight]
    by_cases h1 : i < 1
    · simp [h1]
    · have : x.getLsbD (63 + i) = false := BitVec.getLsbD_of_ge _ _ (by omega)
      simp [this]
  rw [show 64 - 1 = 63 from rfl, ← BitVec.add_eq_or_of_and_eq_zero _ _ h, BitVec.toNat_add, BitVec.toNat_shiftLeft, BitVec.toNat_ushiftRight, Nat.shiftLeft_eq, Nat.shiftRight_eq_div_pow]
  have := x.isLt
  omega
/-- A word turned left n times by one. -/
def turns (x : BitVec 64) : Nat → BitVec 64
  | 0 => x
  | n + 1 => rotL (turns x n) 1
theorem turns_eq (x : BitVec 64) : ∀ n, 0 < n → n < 64 → turns x n = rotL x n
  | 1, _, _ => rfl
  | n + 2, _, h => by
    show rotL (turns x (n + 1)) 1 = _
    rw [turns_eq x (n + 1) (by omega) (by omega), rotL_succ x (n + 1) (by omega) (by omega)]

structure St where
  a : BitVec 64
  b : BitVec 64
  c : BitVec 64
  d : BitVec 64
/-- They are mixed once. -/
def St.mix (s : St) : St :=
  let a1 := s.a + s.b
  let c1 := s.c + s.d
  let b1 := rotL s.b 13 ^^^ a1
  let d1 := rotL s.d 16 ^^^ c1
  let c2 := c1 + b1
  let a2 := rotL a1 32 + d1
  ⟨a2, rotL b1 17 ^^^ c2, rotL c2 32, rotL d1 21 ^^^ a2⟩
def St.mixes (s : St) : Nat → St
  | 0 => s
  | n + 1 => (s.mixes n).mix
def St.eat (s : St) (m : BitVec 64) : St :=
  let t := ({ s with d := s.d ^^^ m } : St).mixes 2
  { t with a := t.a ^^^ m }
/-- The four cells. -/
def St.cells (s : St) : Array Value := #[.int .u64 (s.a.toNat : Int), .int .u64 (s.b.toNat : Int), .int .u64 (s.c.toNat : Int), .int .u64 (s.d.toNat : Int)]
def St.fin (s : St) : BitVec 64 :=
  let t := ({ s with c := s.c ^^^ 255#64 } : St).mixes 4
  t.a ^^^ t.b ^^^ t.c ^^^ t.d
def St.ini (a b : BitVec 64) : St := ⟨a ^^^ 8317987319222330741#64, b ^^^ 7237128888997146477#64, a ^^^ 7816392313619706465#64, b ^^^ 8387220255154660723#64⟩

/-- The bytes as one number, the lowest first. -/
def wordN : List Nat → Nat
  | [] => 0
  | x :: l => x + 256 * wordN l
theorem wordN_lt : ∀ {l : List Nat}, (∀ x ∈ l, x < 256) → wordN l < 256 ^ l.length
  | [], _ => by simp [wordN]
  | x :: l, h => by
    have := wordN_lt (l := l) (fun y hy => h y (by simp [hy]))
    have h0 := h x (by simp)
    simp only [wordN, List.length_cons, Nat.pow_succ]
    omega
theorem wordN_snoc : ∀ (l : List Nat) (x : Nat), wordN (l ++ [x]) = wordN l + x * 256 ^ l.length
  | [], x => by simp [wordN]
  | y :: l, x => by
    simp only [List.cons_append, wordN, wordN_snoc l x, List.length_cons, Nat.pow_succ, Nat.mul_add]
    rw [show x * (256 ^ l.length * 256) = 256 * (x * 256 ^ l.length) by rw [← Nat.mul_assoc, Nat.mul_comm]]
    omega
def wordB (l : List Nat) : BitVec 64 := BitVec.ofNat 64 (wordN l)
/-- Whole blocks of eight are taken in, then the rest with the length. -/
def sumL (n : Nat) (s : St) (l : List Nat) : BitVec 64 :=
  if h : 8 ≤ l.length then sumL n (s.eat (wordB (l.take 8))) (l.drop 8)
  else (s.eat (BitVec.ofNat 64 (wordN l + n % 256 * 72057594037927936))).fin
termination_by l.length
decreasing_by simp; omega
end Go.Proofs.Ytcmkjoepndbicaa
