/-
  Place, Part.
-/
import Derived.Test.YtemnhmnompehoaaRSum
import Derived.Lib.ConvBytes
import Derived.Laws.AppendOwn
namespace Go.Proofs.Ytemnhmnompehoaa
open Go Go.RowKit

theorem bw_below {B : Nat} {w0 w : World} (h : Below B w0 w) (hB : B ≤ w.heap.size) (e : TypeId) (s : ByteArray) : Below B w0 (Lib.bytesWorld w e s) :=
  h.trans ⟨rfl, rfl, rfl, by rw [Lib.bytesWorld_size]; omega, fun k hk => Lib.bytesWorld_at_old w e s k (by omega)⟩
theorem bw_rb (w : World) (s : ByteArray) (hs : s.size ≤ 140737488351232) : Rb (Lib.bytesWorld w 5 s) (some ⟨w.heap.size, 0, none⟩) s.size s.data.toList :=
  ⟨by simp, hs, fun _ => ⟨w.heap.size, 0, rfl, by rw [Lib.bytesWorld_size]; omega, fun j hj => by rw [Nat.zero_add]; exact Lib.bytesWorld_cell w 5 s j hj⟩⟩
set_option maxRecDepth 100000 in
theorem place_d (ka kb : BitVec 64) (s : ByteArray) (w : World) (hs : s.size ≤ 140737488351232) :
    Calls Try.prog 69 #[.agg #[.int .u64 (ka.toNat : Int), .int .u64 (kb.toNat : Int)], .string s] w fun e w' => e = .returned (.int .u64 ((sumU ka kb s.data.toList).toNat : Int)) ∧ Below w.heap.size w w' := by
  go_enter Try.func69, Try.ntmps69
  go_wp2_with fail
  obtain ⟨w1, hw1⟩ : ∃ w1, w1 = w.alloc (Obj.cells #[Value.int IntKind.u64 (ka.toNat : Int), Value.int IntKind.u64 (kb.toNat : Int)] 94) := ⟨_, rfl⟩
  have B1 : Kp (Below w.heap.size w w1) := ⟨by rw [hw1]; exact (Below.refl w.heap.size w).alloc (Nat.le_refl _) _⟩
  rw [← hw1]
  clear hw1
  rw [Lib.run_convert_string_bytes w1 9 66 5 s (u := .string) Try.underlying9 Try.underlying66 Try.underlying5]
  simp only [Result.andThen]
  rw [Oper.upon_value]
  have B2 : Kp (Below w.heap.size w (Lib.bytesWorld w1 5 s)) := ⟨bw_below B1.it B1.it.size 5 s⟩
  have R2 : Kp (Rb (Lib.bytesWorld w1 5 s) (some ⟨w1.heap.size, 0, none⟩) s.size s.data.toList) := ⟨bw_rb w1 s hs⟩
  have C2 : Kp (s.size ≤ grownCap w1 s.size 0 5) := ⟨grownCap_ge w1 s.size 0 5⟩
  obtain ⟨w2, hw2⟩ : ∃ w2, w2 = Lib.bytesWorld w1 5 s := ⟨_, rfl⟩
  rw [← hw2] at B2 R2 ⊢
  clear hw2
  obtain ⟨cc, hcc⟩ : ∃ cc, cc = grownCap w1 s.size 0 5 := ⟨_, rfl⟩
  rw [← hcc] at C2 ⊢
  clear hcc
  go_wp2_with fail
  go_at_call 98
  refine (sum_any _ _ cc s.data.toList ka kb w2 R2.it C2.it).mono ?_
  rintro e w3 ⟨rfl, hb3⟩
  have B3 := Kp.mk hb3
  clear hb3
  go_wp2
  go_ret
  exact ⟨rfl, B2.it.trans (B3.it.mono B2.it.size)⟩
set_option maxRecDepth 100000 in
theorem place_r (ka kb : BitVec 64) (s : ByteArray) (w : World) (hs : s.size ≤ 140737488351232) :
    Calls Try.prog 70 #[.agg #[.int .u64 (ka.toNat : Int), .int .u64 (kb.toNat : Int)], .string s] w fun e w' => e = .returned (.int .u64 ((sumU ka kb s.data.toList).toNat : Int)) ∧ Below w.heap.size w w' := by
  go_enter Try.func70, Try.ntmps70
  go_wp2_with fail
  obtain ⟨w1, hw1⟩ : ∃ w1, w1 = w.alloc (Obj.cells #[Value.int IntKind.u64 (ka.toNat : Int), Value.int IntKind.u64 (kb.toNat : Int)] 94) := ⟨_, rfl⟩
  have B1 : Kp (Below w.heap.size w w1) := ⟨by rw [hw1]; exact (Below.refl w.heap.size w).alloc (Nat.le_refl _) _⟩
  rw [← hw1]
  clear hw1
  rw [Lib.run_convert_string_bytes w1 9 66 5 s (u := .string) Try.underlying9 Try.underlying66 Try.underlying5]
  simp only [Result.andThen]
  rw [Oper.upon_value]
  have B2 : Kp (Below w.heap.size w (Lib.bytesWorld w1 5 s)) := ⟨bw_below B1.it B1.it.size 5 s⟩
  have R2 : Kp (Rb (Lib.bytesWorld w1 5 s) (some ⟨w1.heap.size, 0, none⟩) s.size s.data.toList) := ⟨bw_rb w1 s hs⟩
  obtain ⟨w2, hw2⟩ : ∃ w2, w2 = Lib.bytesWorld w1 5 s := ⟨_, rfl⟩
  rw [← hw2] at B2 R2 ⊢
  clear hw2
  obtain ⟨cc, hcc⟩ : ∃ cc, cc = grownCap w1 s.size 0 5 := ⟨_, rfl⟩
  rw [← hcc]
  clear hcc
  go_wp2_with fail
  go_at_call 99
  refine (rsum_any _ _ cc s.data.toList ka kb w2 R2.it).mono ?_
  rintro e w3 ⟨rfl, hb3⟩
  have B3 := Kp.mk hb3
  clear hb3
  go_wp2
  go_ret
  exact ⟨rfl, B2.it.trans (B3.it.mono B2.it.size)⟩

/-- The part that a key is of. -/
def partOf (parts : Int) (s : ByteArray) : Int := if parts < 1 then 0 else ((sumU 0 0 s.data.toList).toNat : Int) % parts
theorem part_any (p : Int) (hp : p ≤ 9223372036854775807) (s : ByteArray) (w : World) (hs : s.size ≤ 140737488351232) :
    Calls Try.prog 36 #[.int .i64 p, .string s] w fun e w' => e = .returned (.int .i64 (partOf p s)) ∧ Below w.heap.size w w' := by
  go_enter Try.func36, Try.ntmps36
  by_cases h1 : p < 1
  · have hd : decide (p < 1) = true := by simp; omega
    go_wp2
    go_ret
    refine ⟨?_, Below.refl _ _⟩
    unfold partOf
    rw [if_pos h1]
    rfl
  · have hd : decide (p < 1) = false := by simp; omega
    have hw : IntKind.u64.wrap p = p := by rw [IntKind.wrap_u64]; omega
    have hz : ¬ p = 0 := by omega
    go_wp2_with fail
    go_at_call 69
    refine (place_d 0 0 s w hs).mono ?_
    rintro e w3 ⟨rfl, hb3⟩
    have B3 := Kp.mk hb3
    clear hb3
    obtain ⟨S, hS⟩ : ∃ S, S = (sumU 0 0 s.data.toList).toNat := ⟨_, rfl⟩
    have HP : Kp (partOf p s = (S : Int) % p) := ⟨by unfold partOf; rw [if_neg (by omega), hS]⟩
    rw [← hS]
    clear hS
    have h5 := Int.emod_lt_of_pos (S : Int) (show 0 < p by omega)
    have h6 := Int.emod_nonneg (S : Int) (show p ≠ 0 by omega)
    have h7 : (S : Int).tmod p = (S : Int) % p := Int.tmod_eq_emod_of_nonneg (by omega)
    obtain ⟨R, hR⟩ : ∃ R, R = (S : Int) % p := ⟨_, rfl⟩
    rw [← hR] at h5 h6 h7 HP
    have h8 : IntKind.u64.wrap R = R := by rw [IntKind.wrap_u64]; omega
    have h9 : IntKind.i64.wrap R = R := by rw [IntKind.wrap_i64]; omega
    clear hR
    go_wp2
    go_ret
    refine ⟨?_, B3.it⟩
    rw [HP.it]
    rfl
theorem rpart_any (p : Int) (hp : p ≤ 9223372036854775807) (s : ByteArray) (w : World) (hs : s.size ≤ 140737488351232) :
    Calls Try.prog 37 #[.int .i64 p, .string s] w fun e w' => e = .returned (.int .i64 (partOf p s)) ∧ Below w.heap.size w w' := by
  go_enter Try.func37, Try.ntmps37
  by_cases h1 : p < 1
  · have hd : decide (p < 1) = true := by simp; omega
    go_wp2
    go_ret
    refine ⟨?_, Below.refl _ _⟩
    unfold partOf
    rw [if_pos h1]
    rfl
  · have hd : decide (p < 1) = false := by simp; omega
    have hw : IntKind.u64.wrap p = p := by rw [IntKind.wrap_u64]; omega
    have hz : ¬ p = 0 := by omega
    go_wp2_with fail
    go_at_call 70
    refine (place_r 0 0 s w hs).mono ?_
    rintro e w3 ⟨rfl, hb3⟩
    have B3 := Kp.mk hb3
    clear hb3
    obtain ⟨S, hS⟩ : ∃ S, S = (sumU 0 0 s.data.toList).toNat := ⟨_, rfl⟩
    have HP : Kp (partOf p s = (S : Int) % p) := ⟨by unfold partOf; rw [if_neg (by omega), hS]⟩
    rw [← hS]
    clear hS
    have h5 := Int.emod_lt_of_pos (S : Int) (show 0 < p by omega)
    have h6 := Int.emod_nonneg (S : Int) (show p ≠ 0 by omega)
    have h7 : (S : Int).tmod p = (S : Int) % p := Int.tmod_eq_emod_of_nonneg (by omega)
    obtain ⟨R, hR⟩ : ∃ R, R = (S : Int) % p := ⟨_, rfl⟩
    rw [← hR] at h5 h6 h7 HP
    have h8 : IntKind.u64.wrap R = R := by rw [IntKind.wrap_u64]; omega
    have h9 : IntKind.i64.wrap R = R := by rw [IntKind.wrap_i64]; omega
    clear hR
    go_wp2
    go_ret
    refine ⟨?_, B3.it⟩
    rw [HP.it]
    rfl
end Go.Proofs.Ytemnhmnompehoaa
