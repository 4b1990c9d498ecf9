/-
  The example.
-/
import Derived.Test.YtnkgagbobihnnaaAwp
import Derived.Test.YtnkgagbobihnnaaUnp
import Derived.Test.YtnkgagbobihnnaaEqi
namespace Go.Proofs.Ytnkgagbobihnnaa
open Go Go.RowKit
attribute [local go_sem ↓] Go.wp_at_zero Go.wp_at_succ

theorem rd_new (W : World) (xs : List Int) (e : TypeId) (hl : xs.length * 8 ≤ 140737488351232) : Rd (W.alloc (.cells (xs.map (Value.int .i64)).toArray e)) (some ⟨W.heap.size, 0, none⟩) xs.length xs :=
  ⟨rfl, hl, fun _ => ⟨_, _, rfl, by simp, fun j hj => by rw [Nat.zero_add]; exact blk_cell (blk_new _ _) (by simp [hj, rd_lt])⟩⟩
theorem rb_new (W : World) (bs : List UInt8) (f : Nat × Nat) (hl : bs.length ≤ 140737488355328) : Rb (W.alloc (.cells (bvs bs).toArray 5 f)) (some ⟨W.heap.size, 0, none⟩) bs.length bs :=
  ⟨rfl, hl, fun _ => ⟨_, _, rfl, by simp, fun j hj => by rw [Nat.zero_add]; exact blk_cell (blk_new _ _) (by simpa using bvs_get bs hj)⟩⟩
theorem aw_large : ∀ k, k < cks 6 → (smallP (part banana k)).length < (part banana k).length → LargeOk banana 6 k := by
  intro k hk h
  obtain rfl : k = 0 := by
    have : cks 6 = 1 := by decide
    omega
  exact absurd h (by have e : part banana 0 = banana := by decide
                     rw [e]; exact aw_small)

set_option maxRecDepth 100000 in
set_option maxHeartbeats 4000000 in
theorem awake_any (w : World) : Calls Try.prog 15 #[] w fun e w' => e = .returned (.bool true) ∧ Below w.heap.size w w' := by
  have q29 : ∀ w : World, (convert 29 29 (.slice (some ⟨w.heap.size, 0, none⟩) 6 6)).run Try.prog (w.alloc (.cells #[.int .u8 98, .int .u8 97, .int .u8 110, .int .u8 97, .int .u8 110, .int .u8 97] 5)) = .ok (.slice (some ⟨w.heap.size, 0, none⟩) 6 6) (w.alloc (.cells (bvs banana).toArray 5 (6, 7))) := fun w => Lib.run_convert_bytes_const w 29 5 _ 6 6 Try.underlying29 Try.underlying5
  go_enter Try.func15, Try.ntmps15
  go_wp2_with fail
  have B0 : Kp (Below w.heap.size w (w.alloc (.cells (bvs banana).toArray 5 (6, 7)))) := ⟨(Below.refl _ _).alloc (Nat.le_refl _) _⟩
  refine (turn_any _ 6 6 banana _ (rb_new w banana (6, 7) (by decide)) (by decide)).mono ?_
  rintro e w1 ⟨v1, rfl, ho1, hb1⟩
  rw [aw_turn] at ho1 ⊢
  obtain ⟨A1, c1, hv1, _, _, hr1⟩ := ho1.form (by decide)
  subst hv1
  have B1 : Kp (Below w.heap.size w w1) := ⟨B0.it.trans (hb1.mono B0.it.size)⟩
  have R1 := Kp.mk hr1
  clear ho1 hb1 B0 hr1
  go_wp2_with fail
  have hb2 : Below w1.heap.size w1 (w1.alloc (.cells (([5, 1, 1, 2] : List Int).map (Value.int .i64)).toArray 3)) := (Below.refl _ _).alloc (Nat.le_refl _) _
  refine (lengths_any _ 4 4 [5, 1, 1, 2] _ (rd_new w1 [5, 1, 1, 2] 3 (by decide)) (by decide)).mono ?_
  rintro e w2 ⟨v2, rfl, ho2, hb3⟩
  rw [aw_lengths] at ho2 ⊢
  obtain ⟨A2, c2, hv2, _, _, _, hr2⟩ := ho2.form3 (by decide)
  subst hv2
  have B2 : Kp (Below w.heap.size w w2) := ⟨B1.it.trans ((hb2.trans (hb3.mono hb2.size)).mono B1.it.size)⟩
  have R1 : Kp (Rb w2 A1 [110, 110, 98, 97, 97, 97].length [110, 110, 98, 97, 97, 97]) := ⟨R1.it.below (hb2.trans (hb3.mono hb2.size))⟩
  have R2 := Kp.mk hr2
  clear ho2 hb2 hb3 hr2 B1
  go_wp2_with fail
  refine (codes_any A2 4 c2 [1, 3, 3, 2] w2 R2.it (by decide)).mono ?_
  rintro e w3 ⟨v3, rfl, ho3, hb3⟩
  rw [aw_codes] at ho3 ⊢
  obtain ⟨A3, c3, hv3, _, _, _, hr3⟩ := ho3.form3 (by decide)
  subst hv3
  have B3 : Kp (Below w.heap.size w w3) := ⟨B2.it.trans (hb3.mono B2.it.size)⟩
  have R1 := Kp.mk (R1.it.below hb3)
  have R2 := Kp.mk (R2.it.below hb3)
  have R3 := Kp.mk hr3
  clear ho3 hb3 hr3 B2
  go_wp2_with fail
  have hb4 : Below w3.heap.size w3 (w3.alloc (.cells (bvs banana).toArray 5 (6, 7))) := (Below.refl _ _).alloc (Nat.le_refl _) _
  refine (pack_any _ 6 6 banana _ (rb_new w3 banana (6, 7) (by decide)) (fun h => by cases h) (by decide) (by decide)).mono ?_
  rintro e w4 ⟨v4, rfl, ho4, hb5⟩
  obtain ⟨A4, c4, hv4, hn4, _, hr4⟩ := ho4.form (by rw [aw_pack]; decide)
  subst hv4
  have B4 : Kp (Below w.heap.size w w4) := ⟨B3.it.trans ((hb4.trans (hb5.mono hb4.size)).mono B3.it.size)⟩
  have R1 := Kp.mk (R1.it.below (hb4.trans (hb5.mono hb4.size)))
  have R2 := Kp.mk (R2.it.below (hb4.trans (hb5.mono hb4.size)))
  have R3 := Kp.mk (R3.it.below (hb4.trans (hb5.mono hb4.size)))
  have R4 := Kp.mk hr4
  have N4 := Kp.mk hn4
  clear ho4 hb4 hb5 hr4 hn4 B3
  go_wp2_with fail
  refine (unpack_any A4 _ c4 banana 6 w4 R4.it N4.it 6 rfl (by decide) (by rw [aw_pack]; decide) (by decide) aw_large).mono ?_
  rintro e w5 ⟨v5, rfl, ho5, hb5⟩
  obtain ⟨A5, c5, hv5, _, _, hr5⟩ := ho5.form (by decide)
  subst hv5
  rw [show banana.length = 6 from rfl]
  have B5 : Kp (Below w.heap.size w w5) := ⟨B4.it.trans (hb5.mono B4.it.size)⟩
  have R1 := Kp.mk (R1.it.below hb5)
  have R2 := Kp.mk (R2.it.below hb5)
  have R3 := Kp.mk (R3.it.below hb5)
  have R5 := Kp.mk hr5
  have hcv1 : (convert 29 9 (.slice A1 6 c1)).run Try.prog w5 = .ok (.string ⟨#[110, 110, 98, 97, 97, 97]⟩) w5 := R1.it.conv c1
  clear ho5 hb5 hr5 B4 R4 N4
  go_wp2_with fail
  have hb6 : Below w5.heap.size w5 (w5.alloc (.cells (([1, 3, 3, 2] : List Int).map (Value.int .i64)).toArray 3)) := (Below.refl _ _).alloc (Nat.le_refl _) _
  refine (equal_gr A2 _ 4 c2 4 4 [1, 3, 3, 2] [1, 3, 3, 2] _ (R2.it.below hb6) (rd_new w5 [1, 3, 3, 2] 3 (by decide))).mono ?_
  rintro e w6 ⟨rfl, hb7⟩
  rw [eqB_refl]
  have B6 : Kp (Below w.heap.size w w6) := ⟨B5.it.trans ((hb6.trans (hb7.mono hb6.size)).mono B5.it.size)⟩
  have R3 := Kp.mk (R3.it.below (hb6.trans (hb7.mono hb6.size)))
  have R5 := Kp.mk (R5.it.below (hb6.trans (hb7.mono hb6.size)))
  clear hb6 hb7 B5 R1 R2 hcv1
  go_wp2_with fail
  have hb6 : Below w6.heap.size w6 (w6.alloc (.cells (([0, 6, 7, 2] : List Int).map (Value.int .i64)).toArray 3)) := (Below.refl _ _).alloc (Nat.le_refl _) _
  refine (equal_gr A3 _ 4 c3 4 4 [0, 6, 7, 2] [0, 6, 7, 2] _ (R3.it.below hb6) (rd_new w6 [0, 6, 7, 2] 3 (by decide))).mono ?_
  rintro e w7 ⟨rfl, hb7⟩
  rw [eqB_refl]
  have B7 : Kp (Below w.heap.size w w7) := ⟨B6.it.trans ((hb6.trans (hb7.mono hb6.size)).mono B6.it.size)⟩
  have R5 := Kp.mk (R5.it.below (hb6.trans (hb7.mono hb6.size)))
  clear hb6 hb7 B6 R3
  go_wp2_with fail
  have hb6 : Below w7.heap.size w7 (w7.alloc (.cells (bvs [0, 0, 5, 0]).toArray 5)) := (Below.refl _ _).alloc (Nat.le_refl _) _
  refine (runs_any _ 4 4 [0, 0, 5, 0] _ (rb_new w7 [0, 0, 5, 0] (0, 0) (by decide)) (by decide)).mono ?_
  rintro e w8 ⟨v8, rfl, ho8, hb8⟩
  rw [aw_runs] at ho8
  obtain ⟨A8, c8, hv8, _, _, _, hr8⟩ := ho8.form3 (by decide)
  subst hv8
  have B8 : Kp (Below w.heap.size w w8) := ⟨B7.it.trans ((hb6.trans (hb8.mono hb6.size)).mono B7.it.size)⟩
  have R5 := Kp.mk (R5.it.below (hb6.trans (hb8.mono hb6.size)))
  have R8 := Kp.mk hr8
  clear hb6 hb8 B7 hr8 ho8
  go_wp2_with fail
  have hb6 : Below w8.heap.size w8 (w8.alloc (.cells (([1, 6, 0, 257] : List Int).map (Value.int .i64)).toArray 3)) := (Below.refl _ _).alloc (Nat.le_refl _) _
  refine (equal_gr A8 _ 4 c8 4 4 [1, 6, 0, 257] [1, 6, 0, 257] _ (R8.it.below hb6) (rd_new w8 [1, 6, 0, 257] 3 (by decide))).mono ?_
  rintro e w9 ⟨rfl, hb7⟩
  rw [eqB_refl]
  have B9 : Kp (Below w.heap.size w w9) := ⟨B8.it.trans ((hb6.trans (hb7.mono hb6.size)).mono B8.it.size)⟩
  have R5 := Kp.mk (R5.it.below (hb6.trans (hb7.mono hb6.size)))
  have hcv9 : (convert 29 9 (.slice A5 6 c5)).run Try.prog w9 = .ok (.string ⟨#[98, 97, 110, 97, 110, 97]⟩) w9 := R5.it.conv c5
  clear hb6 hb7 B8 R8
  go_wp2
  go_ret
  exact ⟨rfl, B9.it⟩
end Go.Proofs.Ytnkgagbobihnnaa
