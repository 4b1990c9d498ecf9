/-
  The example, plainly: its digests are reckoned by the kernel.
-/
import Derived.Test.YtcmkjoepndbicaaOf2
namespace Go.Proofs.Ytcmkjoepndbicaa
open Go Go.RowKit

def ka1 : BitVec 64 := 506097522914230528#64
def kb1 : BitVec 64 := 1084818905618843912#64
def p1 : Pr := (⟨#[97]⟩, ⟨#[49]⟩)
def bs15 : List UInt8 := [0, 1, 2, 3, 4, 5, 6, 7, 8, 9, 10, 11, 12, 13, 14]
theorem sum15 : sumU ka1 kb1 bs15 = 11613035633349379557#64 := by decide +kernel
theorem place1 : (sumU ka1 kb1 p1.1.data.toList).toNat = 3144613055062689994 := by decide +kernel
theorem numB_one : numB 1 = [1, 1] := by
  have : be 1 = [1] := by rw [be_pos (by omega), show 1 / 256 = 0 from rfl, be_zero]; rfl
  unfold numB
  rw [this]
  rfl
theorem txt_a : txtB p1.1 = [1, 1, 97] := by
  unfold txtB
  rw [show p1.1.size = 1 from rfl, numB_one]
  rfl
theorem txt_1 : txtB p1.2 = [1, 1, 49] := by
  unfold txtB
  rw [show p1.2.size = 1 from rfl, numB_one]
  rfl
theorem pair1 : pairU ka1 kb1 p1 = 9916572075038993895#64 := by
  unfold pairU
  rw [txt_a, txt_1]
  decide +kernel
theorem kid1 (a i : Nat) : kid ka1 kb1 a i [p1] = if 3144613055062689994 / 2 ^ (60 - 4 * a) % 16 = i then [p1] else [] := by
  unfold kid dg
  rw [List.filter_cons, place1]
  by_cases h : 3144613055062689994 / 2 ^ (60 - 4 * a) % 16 = i
  · rw [if_pos h, if_pos (by simpa using h)]; rfl
  · rw [if_neg h, if_neg (by simpa using h)]; rfl
theorem dig0 : digU ka1 kb1 0 [p1] = 5894269371629907992#64 := by
  rw [digU, if_neg (by simp), List.length_singleton, numB_one, List.flatMap_cons, pair1, List.flatMap_nil]
  decide +kernel
theorem digs (f : Nat) (X : BitVec 64) (h : digU ka1 kb1 f [p1] = X) : digU ka1 kb1 (f + 1) [p1] = sumU ka1 kb1 ((List.range 16).flatMap fun i => sgB (if 3144613055062689994 / 2 ^ (60 - 4 * (3 - f)) % 16 = i then X else 0#64).toNat) := by
  show sumU ka1 kb1 ((List.range 16).flatMap fun i => sgB (digU ka1 kb1 f (kid ka1 kb1 (3 - f) i [p1])).toNat) = _
  have e : ∀ i, digU ka1 kb1 f (kid ka1 kb1 (3 - f) i [p1]) = if 3144613055062689994 / 2 ^ (60 - 4 * (3 - f)) % 16 = i then X else 0#64 := by
    intro i
    rw [kid1]
    by_cases hi : 3144613055062689994 / 2 ^ (60 - 4 * (3 - f)) % 16 = i
    · rw [if_pos hi, if_pos hi, h]
    · rw [if_neg hi, if_neg hi, digU_nil]; rfl
  simp only [e]
theorem dig1 : digU ka1 kb1 1 [p1] = 4234428936678314303#64 := (digs 0 _ dig0).trans (by decide +kernel)
theorem dig2 : digU ka1 kb1 2 [p1] = 18325666513313883130#64 := (digs 1 _ dig1).trans (by decide +kernel)
theorem dig3 : digU ka1 kb1 3 [p1] = 3999141139652533469#64 := (digs 2 _ dig2).trans (by decide +kernel)
theorem dig4 : digU ka1 kb1 4 [p1] = 2557021268201134683#64 := (digs 3 _ dig3).trans (by decide +kernel)
theorem difK_nil (ka kb : BitVec 64) (f : Nat) : difK ka kb f [] [] = [] := by cases f <;> simp [difK]
theorem pick16 (s : ByteArray) : ∀ d, d < 16 → (List.range 16).flatMap (fun i => if d = i then [s] else []) = [s]
  | 0, _ => rfl | 1, _ => rfl | 2, _ => rfl | 3, _ => rfl | 4, _ => rfl | 5, _ => rfl | 6, _ => rfl | 7, _ => rfl
  | 8, _ => rfl | 9, _ => rfl | 10, _ => rfl | 11, _ => rfl | 12, _ => rfl | 13, _ => rfl | 14, _ => rfl | 15, _ => rfl
  | k + 16, h => absurd h (by omega)
theorem dif0 : difK ka1 kb1 0 [p1] [] = [p1.1] := by
  unfold difK
  rw [dig0, digU_nil, if_neg (by decide +kernel), unl_cn, unl_nn]
theorem difs (f : Nat) (h : digU ka1 kb1 (f + 1) [p1] ≠ 0) (ih : difK ka1 kb1 f [p1] [] = [p1.1]) : difK ka1 kb1 (f + 1) [p1] [] = [p1.1] := by
  unfold difK
  rw [digU_nil, if_neg h]
  have e : ∀ i, difK ka1 kb1 f (kid ka1 kb1 (3 - f) i [p1]) (kid ka1 kb1 (3 - f) i []) = if 3144613055062689994 / 2 ^ (60 - 4 * (3 - f)) % 16 = i then [p1.1] else [] := by
    intro i
    rw [kid1, show kid ka1 kb1 (3 - f) i [] = [] from rfl]
    by_cases hi : 3144613055062689994 / 2 ^ (60 - 4 * (3 - f)) % 16 = i
    · rw [if_pos hi, if_pos hi, ih]
    · rw [if_neg hi, if_neg hi, difK_nil]
  simp only [e]
  exact pick16 _ _ (Nat.mod_lt _ (by omega))
theorem dif4 : difK ka1 kb1 4 [p1] [] = [p1.1] :=
  difs 3 (by rw [dig4]; decide +kernel) (difs 2 (by rw [dig3]; decide +kernel) (difs 1 (by rw [dig2]; decide +kernel) (difs 0 (by rw [dig1]; decide +kernel) dif0)))
theorem sort1 : sortS [p1.1] = [p1.1] := by
  unfold sortS
  simp
theorem ofP1 : ofP [p1] = [p1] := by
  unfold ofP ofU
  simp [putP, keysP]
theorem ofP0 : ofP [] = [] := by
  unfold ofP ofU
  simp
end Go.Proofs.Ytcmkjoepndbicaa
