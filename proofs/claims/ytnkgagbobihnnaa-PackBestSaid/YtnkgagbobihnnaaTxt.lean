/-
  Within and Text as a reader takes them, where they come whole.
-/
import Derived.Test.YtnkgagbobihnnaaNum
namespace Go.Proofs.Ytnkgagbobihnnaa
open Go Go.RowKit
attribute [local go_sem ↓] Go.wp_at_zero Go.wp_at_succ

theorem within52 {w : World} {p g n c : Nat} {l s : List UInt8} {a x lo hi : Nat} (h : RDR w p (some ⟨g, 0, none⟩) n c l a 0) (hx : x < 9223372036854775808) (hl : l.drop a = numB x ++ s) (h1 : lo ≤ x) (h2 : x ≤ hi) :
    Calls Try.prog 52 #[.pointer (some ⟨p, 0, none⟩), .int .i64 lo, .int .i64 hi] w fun r w' => r = .returned (.int .i64 x) ∧ RDR w' p (some ⟨g, 0, none⟩) n c l (a + (numB x).length) 0 ∧ w.grownBy w' (some p) := by
  have HD := Kp.mk (dead75 h)
  have HN := Kp.mk (number_back h hx hl)
  obtain ⟨c0, c1, c2, c3, f1, f2⟩ := h.cells
  have hd1 : decide (x < lo) = false := by simp; omega
  have hd2 : decide (hi < x) = false := by simp; omega
  clear h hl hx h1 h2
  go_enter Try.func52, Try.ntmps52
  go_wp2_with (first | (go_at_call 75; refine HD.it.mono ?_; rintro e w1 ⟨rfl, rfl⟩) | (go_at_call 50; refine HN.it.mono ?_; rintro e w1 ⟨rfl, hr1, hg1⟩; have R1 := Kp.mk hr1; have G1 := Kp.mk hg1; have e2 := hr1.cells.2.2.1; clear hr1 hg1))
  go_ret
  exact ⟨rfl, R1.it, G1.it⟩
theorem text53 {w : World} {p g n c : Nat} {l s : List UInt8} {a : Nat} {t : ByteArray} {many : Nat} (h : RDR w p (some ⟨g, 0, none⟩) n c l a 0) (hx : t.size ≤ many) (hm : many < 9223372036854775808) (hl : l.drop a = txtB t ++ s) :
    Calls Try.prog 53 #[.pointer (some ⟨p, 0, none⟩), .int .i64 many] w fun r w' => r = .returned (.string t) ∧ RDR w' p (some ⟨g, 0, none⟩) n c l (a + (txtB t).length) 0 ∧ w.grownBy w' (some p) := by
  have hl2 : l.drop a = numB t.size ++ (t.data.toList ++ s) := by rw [hl]; unfold txtB; rw [List.append_assoc]
  have HD := Kp.mk (dead75 h)
  have HN := Kp.mk (number_back h (by omega) hl2)
  have hl3 : l.drop (a + (numB t.size).length) = t.data.toList ++ s := by
    rw [← List.drop_drop, hl2, List.drop_left]
  have HL3 : Kp ((l.drop (a + (numB t.size).length)).take t.size = t.data.toList) := ⟨by
    rw [hl3, List.take_left']
    simp⟩
  have HLE : Kp (a + (numB t.size).length + t.size ≤ n) := ⟨by
    have h9 := congrArg List.length hl2
    rw [List.length_drop, List.length_append, List.length_append, h.row.len] at h9
    have h8 : t.data.toList.length = t.size := by simp
    have h7 : 0 < (numB t.size).length := by unfold numB; simp
    omega⟩
  have HTX : Kp (a + (numB t.size).length + t.size = a + (txtB t).length) := ⟨by unfold txtB; rw [List.length_append]; simp; omega⟩
  obtain ⟨c0, c1, c2, c3, f1, f2⟩ := h.cells
  have hd1 : decide (many < t.size) = false := by simp; omega
  clear h hl hx hl2 hl3
  go_enter Try.func53, Try.ntmps53
  go_wp2_with (first | (go_at_call 75; refine HD.it.mono ?_; rintro e w1 ⟨rfl, rfl⟩) | (go_at_call 50; refine HN.it.mono ?_; rintro e w1 ⟨rfl, hr1, hg1⟩; have HB := Kp.mk (bytes76 hr1 t.size HLE.it); have G1 := Kp.mk hg1; have e2 := hr1.cells.2.2.1; clear hr1 hg1) | (go_at_call 76; refine HB.it.mono ?_; rintro e w2 ⟨o2, rfl, hb2, hr2, hg2⟩; have R2 := Kp.mk hr2; have G2 := Kp.mk hg2; have e3 := hr2.cells.2.2.1; have hcv := hb2.conv (c - (a + (numB t.size).length)); clear hr2 hg2 hb2; rw [HL3.it] at hcv))
  go_ret
  refine ⟨rfl, ?_, G1.it.trans G2.it⟩
  rw [← HTX.it]
  exact R2.it
end Go.Proofs.Ytnkgagbobihnnaa
