/-
  Place, Part.
-/
import Derived.Test.YtcmkjoepndbicaaRSum
import Derived.Lib.ConvBytes
import Derived.Laws.AppendOwn
namespace Go.Proofs.Ytcmkjoepndbicaa
open Go Go.RowKit

theorem bw_below {B : Nat} {w0 w : World} (h : Below B w0 w) (hB : B ≤ w.heap.size) (e : TypeId) (s : ByteArray) : Below B w0 (Lib.bytesWorld w e s) :=
  h.trans ⟨rfl, rfl, rfl, by rw [Lib.bytesWorld_size]; omega, fun k hk => Lib.bytesWorld_at_old w e s k (by omega)⟩
theorem bw_rb (w : World) (s : ByteArray) (hs : s.size ≤ 140737488351232) : Rb (Lib.bytesWorld w 5 s) (some ⟨w.heap.size, 0, none⟩) s.size s.data.toList :=
  ⟨by simp, by omega, fun _ => ⟨w.heap.size, 0, rfl, by rw [Lib.bytesWorld_size]; omega, fun j hj => by rw [Nat.zero_add]; exact Lib.bytesWorld_cell w 5 s j hj⟩⟩
set_option maxRecDepth 100000 in
theorem place_d (ka kb : BitVec 64) (s : ByteArray) (w : World) (hs : s.size ≤ 140737488351232) :
    Calls Try.prog 21 #[.agg #[.int .u64 (ka.toNat : Int), .int .u64 (kb.toNat : Int)], .string s] w fun e w' => e = .returned (.int .u64 ((sumU ka kb s.data.toList).toNat : Int)) ∧ Below w.heap.size w w' := by
  go_enter Try.func21, Try.ntmps21
  go_wp2_with fail
  obtain ⟨w1, hw1⟩ : ∃ w1, w1 = w.alloc (Obj.cells #[Value.int IntKind.u64 (ka.toNat : Int), Value.int IntKind.u64 (kb.toNat : Int)] 24) := ⟨_, rfl⟩
  have B1 : Kp (Below w.heap.size w w1) := ⟨by rw [hw1]; exact (Below.refl w.heap.size w).alloc (Nat.le_refl _) _⟩
  rw [← hw1]
  clear hw1
  rw [Lib.run_convert_string_bytes w1 9 41 5 s (u := .string) Try.underlying9 Try.underlying41 Try.underlying5]
  simp only [Result.andThen]
  rw [Oper.upon_value]
  have B2 : Kp (Below w.heap.size w (Lib.bytesWorld w1 5 s)) := ⟨bw_below B1.it B1.it.size 5 s⟩
  have R2 : Kp (Rb (Lib.bytesWorld w1 5 s) (some ⟨w1.heap.size, 0, none⟩) s.size s.data.toList) := ⟨bw_rb w1 s hs⟩
  have C2 : Kp (s.size ≤ grownCap w1 s.size 0 5) := ⟨grownCap_ge w1 s.size 0 5⟩
  obtain ⟨w2, hw2⟩ : ∃ w2, w2 = Lib.bytesWorld w1 5 s := ⟨_, rfl⟩
  rw [← hw2] at B2 R2 ⊢
  clear hw2
  obtain ⟨cc, hcc⟩ : ∃ cc, cc = grownCap w1 s.size 0 5 := ⟨_, rfl⟩
  rw [← hcc] at C2 ⊢
  clear hcc
  go_wp2_with fail
  go_at_call 19
  refine (sum_any _ _ cc s.data.toList ka kb w2 R2.it C2.it).mono ?_
  rintro e w3 ⟨rfl, hb3⟩
  have B3 := Kp.mk hb3
  clear hb3
  go_wp2
  go_ret
  exact ⟨rfl, B2.it.trans (B3.it.mono B2.it.size)⟩
set_option maxRecDepth 100000 in
theorem place_r (ka kb : BitVec 64) (s : ByteArray) (w : World) (hs : s.size ≤ 140737488351232) :
    Calls Try.prog 22 #[.agg #[.int .u64 (ka.toNat : Int), .int .u64 (kb.toNat : Int)], .string s] w fun e w' => e = .returned (.int .u64 ((sumU ka kb s.data.toList).toNat : Int)) ∧ Below w.heap.size w w' := by
  go_enter Try.func22, Try.ntmps22
  go_wp2_with fail
  obtain ⟨w1, hw1⟩ : ∃ w1, w1 = w.alloc (Obj.cells #[Value.int IntKind.u64 (ka.toNat : Int), Value.int IntKind.u64 (kb.toNat : Int)] 24) := ⟨_, rfl⟩
  have B1 : Kp (Below w.heap.size w w1) := ⟨by rw [hw1]; exact (Below.refl w.heap.size w).alloc (Nat.le_refl _) _⟩
  rw [← hw1]
  clear hw1
  rw [Lib.run_convert_string_bytes w1 9 41 5 s (u := .string) Try.underlying9 Try.underlying41 Try.underlying5]
  simp only [Result.andThen]
  rw [Oper.upon_value]
  have B2 : Kp (Below w.heap.size w (Lib.bytesWorld w1 5 s)) := ⟨bw_below B1.it B1.it.size 5 s⟩
  have R2 : Kp (Rb (Lib.bytesWorld w1 5 s) (some ⟨w1.heap.size, 0, none⟩) s.size s.data.toList) := ⟨bw_rb w1 s hs⟩
  obtain ⟨w2, hw2⟩ : ∃ w2, w2 = Lib.bytesWorld w1 5 s := ⟨_, rfl⟩
  rw [← hw2] at B2 R2 ⊢
  clear hw2
  obtain ⟨cc, hcc⟩ : ∃ cc, cc = grownCap w1 s.size 0 5 := ⟨_, rfl⟩
  rw [← hcc]
  clear hcc
  go_wp2_with fail
  go_at_call 20
  refine (rsum_any _ _ cc s.data.toList ka kb w2 R2.it).mono ?_
  rintro e w3 ⟨rfl, hb3⟩
  have B3 := Kp.mk hb3
  clear hb3
  go_wp2
  go_ret
  exact ⟨rfl, B2.it.trans (B3.it.mono B2.it.size)⟩

end Go.Proofs.Ytcmkjoepndbicaa
