/-
  word: up to eight bytes as a number.
-/
import Derived.Test.YtcmkjoepndbicaaEat
import Derived.Test.YtcmkjoepndbicaaByt
namespace Go.Proofs.Ytcmkjoepndbicaa
open Go Go.RowKit

theorem Rb.get {w : World} {A : Option Addr} {n : Nat} {bs : List UInt8} (h : Rb w A n bs) {k : Nat} (hk : k < n) : ∃ b o, A = some ⟨b, o, none⟩ ∧ b < w.heap.size ∧ w.cell? ⟨b, o + k, none⟩ = some (.int .u8 (byte bs k)) := by
  obtain ⟨b, o, e, hl, hc⟩ := h.cells (by omega)
  exact ⟨b, o, e, hl, hc k hk⟩
/-- The bytes as one number, the lowest first. -/
def wordU (bs : List UInt8) : Nat := wordN (bs.map (·.toNat))
theorem wordU_lt (bs : List UInt8) : wordU bs < 256 ^ bs.length := by
  have := wordN_lt (l := bs.map (·.toNat)) (fun x hx => by obtain ⟨y, _, rfl⟩ := List.mem_map.1 hx; exact y.toNat_lt)
  rwa [List.length_map] at this
theorem pow8 (q : Nat) : (256 : Nat) ^ q = 2 ^ (8 * q) := by rw [Nat.pow_mul]
theorem cast8 (c q : Nat) : ((c * 2 ^ (8 * q) : Nat) : Int) = (c : Int) * 2 ^ (8 * q) := by rw [Int.natCast_mul, Int.natCast_pow]; rfl
theorem wordU_succ (bs : List UInt8) (q : Nat) (hq : q < bs.length) : wordU (bs.take (q + 1)) = wordU (bs.take q) + (bs.getD q 0).toNat * 2 ^ (8 * q) := by
  unfold wordU
  rw [List.take_succ_eq_append_getElem hq, List.map_append, List.map_singleton, wordN_snoc, List.length_map, List.length_take, Nat.min_eq_left (by omega), List.getD_eq_getElem?_getD, List.getElem?_eq_getElem hq, pow8]
  rfl
theorem or_add (x c q : Nat) (hx : x < 2 ^ (8 * q)) (hc : c < 256) (hq : q < 8) : bits .or .u64 (x : Int) (IntKind.u64.wrap ((c : Int) * 2 ^ (8 * q))) = ((x + c * 2 ^ (8 * q) : Nat) : Int) := by
  have h8 : 2 ^ (8 * q) ≤ 2 ^ 56 := Nat.pow_le_pow_right (by omega) (by omega)
  have hm : c * 2 ^ (8 * q) ≤ 255 * 2 ^ 56 := Nat.mul_le_mul (by omega) h8
  rw [← cast8, IntKind.wrap_u64, show (((c * 2 ^ (8 * q) : Nat) : Int) % 18446744073709551616) = ((c * 2 ^ (8 * q) : Nat) : Int) by omega, bits_or_u64_nat _ _ (by omega) (by omega)]
  have := Nat.two_pow_add_eq_or_of_lt (i := 8 * q) (b := x) hx c
  rw [Nat.or_comm, Nat.mul_comm c, ← this, Nat.add_comm]
theorem word_any (A : Option Addr) (n c : Nat) (bs : List UInt8) (w : World) (h : Rb w A n bs) (hn : n ≤ 8) :
    Calls Try.prog 53 #[.slice A n c] w fun e w' => e = .returned (.int .u64 ((wordU bs : Nat) : Int)) ∧ w' = w := by
  have H := Kp.mk h
  clear h
  go_enter Try.func53, Try.ntmps53
  go_wp2
  go_loop [3, 8] (fun a i => ∃ q : Nat, q ≤ n ∧ i = .int .i64 q ∧ a = .int .u64 ((wordU (bs.take q) : Nat) : Int)) (fun _ i => n - (intOf i).toNat)
  case atStart => exact ⟨0, by omega, rfl, rfl⟩
  case round =>
    obtain ⟨q, hq, rfl, rfl⟩ := hrel
    by_cases hqn : q < n
    · obtain ⟨b1, o1, hA, _, f1⟩ := H.it.get hqn
      cases hA
      have hd : decide ((q : Int) < (n : Int)) = true := by simp; omega
      obtain ⟨hb0, hb1⟩ := byte_bd bs q
      go_wp2
      go_round
      case rel =>
        refine ⟨q + 1, by omega, by go_num, ?_⟩
        have hlen : q < bs.length := by rw [H.it.len]; exact hqn
        have hlt : wordU (bs.take q) < 2 ^ (8 * q) := by
          have := wordU_lt (bs.take q)
          rwa [List.length_take, Nat.min_eq_left (by omega), pow8] at this
        rw [wordU_succ bs q hlen, ← or_add _ _ q hlt (bs.getD q 0).toNat_lt (by omega)]
        rfl
      case measure => simp [intOf]; omega
    · obtain rfl : q = n := by omega
      go_wp2
      go_ret
      refine ⟨?_, rfl⟩
      rw [List.take_of_length_le (by rw [H.it.len]; omega)]
      rfl
end Go.Proofs.Ytcmkjoepndbicaa
