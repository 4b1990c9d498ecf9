/-
  slices.Clone and slices.Equal of bytes; whether pairs are short.
-/
import Derived.Test.YtcmkjoepndbicaaAwk
namespace Go.Proofs.Ytcmkjoepndbicaa
open Go Go.RowKit

set_option maxHeartbeats 1000000 in
theorem cloneb_any (A : Option Addr) (n c : Nat) (bs : List UInt8) (w : World) (h : Rb w A n bs) (e : A = none → c = 0) : Calls Try.prog 18 #[.slice A n c] w fun e w' =>
    ∃ v, e = .returned v ∧ OwnB w' w.heap.size v bs ∧ Below w.heap.size w w' := by
  have q41 : ∀ (w : World) (a : Option Addr) (n c n' c' : Nat), (binOp .eql 41 (.slice a n c) (.slice none n' c')).run Try.prog w = .ok (.bool a.isNone) w := fun w a n c n' c' => Lib.run_eql_slice_nil w _ _ a n c n' c' Try.underlying41
  cases A with
  | none =>
    have hc := e rfl
    have hn : n = 0 := by
      rcases Nat.eq_zero_or_pos n with h0 | h0
      · exact h0
      · obtain ⟨b, o', e, _⟩ := h.cells h0
        cases e
    subst hc
    subst hn
    have hx : bs = [] := List.eq_nil_of_length_eq_zero h.len
    subst hx
    clear h e
    go_enter Try.func18, Try.ntmps18
    go_wp2
    go_ret
    exact ⟨_, rfl, OwnB.nil _ _, Below.refl _ _⟩
  | some ad =>
    have hbd := h.bd
    have HL : Kp (([] : List UInt8).length + bs.length ≤ 140737488355328) := ⟨by have := h.len; simp; omega⟩
    have E := Kp.mk e
    have HB0 : Kp (Below w.heap.size w (w.alloc (.cells #[] 5))) := ⟨(Below.refl _ _).alloc (Nat.le_refl _) _⟩
    have HR := Kp.mk (h.below HB0.it)
    have HO := Kp.mk (ownB_empty w)
    have HZ := Kp.mk HB0.it.size
    clear h e
    go_enter Try.func18, Try.ntmps18
    go_wp2_with (refine app_bs rfl (.tmp 5) (.tmp 6) rfl w.heap.size _ [] (some ad) n c bs rfl rfl HO.it HR.it E.it HZ.it HL.it ?_; intro v1 w2 hn1 hg1; have N1 := Kp.mk hn1; have W1 := Kp.mk (below_ownB HB0.it HB0.it.size HO.it (Nat.le_refl _) hg1); clear hn1 hg1)
    go_ret
    exact ⟨_, rfl, N1.it, W1.it⟩
set_option maxHeartbeats 4000000 in
theorem equalb_same (A B : Option Addr) (n c d : Nat) (bs : List UInt8) (w : World) (h1 : Rb w A n bs) (h2 : Rb w B n bs) :
    Calls Try.prog 25 #[.slice A n c, .slice B n d] w fun e w' => e = .returned (.bool true) ∧ Below w.heap.size w w' := by
  have hbd := h1.bd
  have H1 := Kp.mk h1
  have H2 := Kp.mk h2
  clear h1 h2
  have hne : ((n : Int) != (n : Int)) = false := by simp
  go_enter Try.func25, Try.ntmps25
  go_wp2
  go_loopw [13] (fun i wr => ∃ k : Nat, k ≤ n ∧ i = .int .i64 k ∧ Kp (∃ q, wr = w.drewN q)) (fun i _ => n - (intOf i).toNat)
  case atStart => exact ⟨0, by omega, rfl, ⟨0, rfl⟩⟩
  case round =>
    obtain ⟨k, hk, rfl, HW⟩ := hrel
    by_cases hkn : k < n
    · obtain ⟨b1, o1, hA, _, hc1⟩ := H1.it.cells (by omega)
      obtain ⟨b2, o2, hB, _, hc2⟩ := H2.it.cells (by omega)
      cases hA
      cases hB
      obtain ⟨y, hy⟩ : ∃ y, y = byte bs k := ⟨_, rfl⟩
      have f1 : wr.cell? ⟨b1, o1 + k, none⟩ = some (.int .u8 y) := by obtain ⟨q, rfl⟩ := HW.it; rw [hy]; exact hc1 k hkn
      have f2 : wr.cell? ⟨b2, o2 + k, none⟩ = some (.int .u8 y) := by obtain ⟨q, rfl⟩ := HW.it; rw [hy]; exact hc2 k hkn
      have hx' : (y != y) = false := by simp
      have hd : decide ((k : Int) < (n : Int)) = true := by simp; omega
      clear hc1 hc2 hy
      go_wp2
      go_quiet (fail)
      go_wp2
      go_roundw
      case rel => exact ⟨k + 1, by omega, by go_num, ⟨by obtain ⟨q, rfl⟩ := HW.it; exact ⟨_, World.drewN_drewN ..⟩⟩⟩
      case measure => simp [intOf]; omega
    · obtain rfl : k = n := by omega
      go_wp2
      go_ret
      exact ⟨rfl, by obtain ⟨q, rfl⟩ := HW.it; exact below_drewN (Below.refl _ _) q⟩
/-- A list that may be gone through. -/
def okL (l : List Pr) : Prop := l.length ≤ 60 ∧ ∀ p ∈ l, min p.1.size 8192 + min p.2.size 8192 ≤ 8192
theorem okL.sum {l : List Pr} (h : okL l) {p : Pr} (hp : p ∈ l) (h1 : p.1.size ≤ 140737488351232) (h2 : p.2.size ≤ 140737488351232) : p.1.size + p.2.size ≤ 140737488351232 := by
  have := h.2 p hp
  omega
/-- What short tells of one list. -/
def ShortR (l : List Pr) (w : World) (e : Ending) (w' : World) : Prop := ∃ r, e = .returned (.bool r) ∧ (r = true → okL l) ∧ Below w.heap.size w w'
set_option linter.unusedVariables false in
set_option maxHeartbeats 4000000 in
theorem short_one (B : Nat) (A : Option Addr) (n c : Nat) (l : List Pr) (w : World) (S : Nat → Prop) (h : RP w S A n l) (hB : w.heap[B]? = some (.cells #[.slice A n c] 25 (0, 0))) :
    Calls Try.prog 11 #[.slice (some ⟨B, 0, none⟩) 1 1] w fun e w' => ShortR l w e w' := by
  have HL := Kp.mk h.len
  have hbd := h.bd
  have H := Kp.mk h
  have z0 : w.cell? ⟨B, 0, none⟩ = some (.slice A n c) := blk_cell hB rfl
  have hBl := (Array.getElem?_eq_some_iff.1 hB).1
  have HB := Kp.mk hB
  clear h hB
  go_enter Try.func11, Try.ntmps11
  go_wp2
  go_loopw [3, 10] (fun s i wr => ∃ (k : Nat) (t : Nat), k ≤ 1 ∧ i = .int .i64 k ∧ s = .int .i64 t ∧ t ≤ 8192 ∧ Kp (k = 1 → okL l) ∧ Kp (Below w.heap.size w wr)) (fun _ i _ => 1 - (intOf i).toNat)
  case atStart => exact ⟨0, 0, by omega, rfl, rfl, by omega, ⟨fun h => by omega⟩, ⟨Below.refl _ _⟩⟩
  case round =>
    clear z0 hBl
    obtain ⟨k, t, hk, rfl, rfl, ht, HOK, HBw⟩ := hrel
    by_cases hk0 : k < 1
    · obtain rfl : k = 0 := by omega
      have hd : decide (((0 : Nat) : Int) < 1) = true := by decide
      have z0 : wr.cell? ⟨B, 0, none⟩ = some (.slice A n c) := blk_cell ((HBw.it.block B (Array.getElem?_eq_some_iff.1 HB.it).1).trans HB.it) rfl
      have hBl : B < wr.heap.size := Nat.lt_of_lt_of_le (Array.getElem?_eq_some_iff.1 HB.it).1 HBw.it.size
      by_cases hn : 60 < n
      · have hd2 : decide ((60 : Int) < (n : Int)) = true := by simp; omega
        go_wp2
        go_ret
        exact ⟨false, rfl, (fun h => by cases h), HBw.it⟩
      · have hd2 : decide ((60 : Int) < (n : Int)) = false := by rw [decide_eq_false_iff_not]; omega
        obtain ⟨wo, rfl⟩ : ∃ wo : World, wo = wr := ⟨_, rfl⟩
        go_wp2
        go_loopw [3, 19] (fun s i wx => ∃ (j : Nat) (t : Nat), j ≤ n ∧ i = .int .i64 j ∧ s = .int .i64 t ∧ t ≤ 8192 ∧ Kp (∀ q p, q < j → l[q]? = some p → min p.1.size 8192 + min p.2.size 8192 ≤ 8192) ∧ Kp (Below w.heap.size w wx)) (fun _ i _ => n - (intOf i).toNat)
        case atStart => exact ⟨0, t, by omega, rfl, rfl, ht, ⟨fun q p hq => by omega⟩, HBw⟩
        case round =>
          clear HBw z0 hBl ht
          obtain ⟨j, t, hj, rfl, rfl, ht, HQ, HBw⟩ := hrel
          by_cases hjn : j < n
          · have hd3 : decide ((j : Int) < (n : Int)) = true := by simp; omega
            obtain ⟨x, hx⟩ : ∃ x, l[j]? = some x := ⟨_, List.getElem?_eq_getElem (by rw [HL.it]; exact hjn)⟩
            obtain ⟨b1, o1, hA, _, hl1, f0, f1⟩ := (H.it.same (Same.of_below HBw.it S)).get hx
            cases hA
            obtain ⟨m1, hm1⟩ : ∃ m, m = min x.1.size 8192 := ⟨_, rfl⟩
            obtain ⟨m2, hm2⟩ : ∃ m, m = min x.2.size 8192 := ⟨_, rfl⟩
            have M1 : min ((x.1.size : Nat) : Int) 8192 = (m1 : Int) := by omega
            have M2 : min ((x.2.size : Nat) : Int) 8192 = (m2 : Int) := by omega
            have hb1 : m1 ≤ 8192 := by omega
            have hb2 : m2 ≤ 8192 := by omega
            have HX := Kp.mk hx
            have HS1 : Kp (m1 = min x.1.size 8192 ∧ m2 = min x.2.size 8192) := ⟨hm1, hm2⟩
            clear hx hm1 hm2
            go_upto_region 10 with fail
            refine wp_on (fun wz => wz.heap[wr.heap.size]? = some (.cells #[.string x.1, .string x.2] 43 (0, 0)) ∧ Below wr.heap.size wr wz) ⟨blk_new _ _, (Below.refl wr.heap.size wr).alloc (Nat.le_refl _) _⟩ (fun w4 h4 => ?_)
            obtain ⟨h4, hb4⟩ := h4
            have g0 : w4.cell? ⟨wr.heap.size, 0, none⟩ = some (.string x.1) := blk_cell h4 rfl
            have g1 : w4.cell? ⟨wr.heap.size, 1, none⟩ = some (.string x.2) := blk_cell h4 rfl
            have hlt4 := (Array.getElem?_eq_some_iff.1 h4).1
            have HB4 := Kp.mk (HBw.it.trans (hb4.mono HBw.it.size))
            clear h4 hb4 f0 f1
            by_cases hov : t + (m1 + m2) ≤ 8192
            · have hd4 : decide ((8192 : Int) < (t : Int) + ((m1 : Int) + (m2 : Int))) = false := by rw [decide_eq_false_iff_not]; omega
              go_wp2
              go_roundw
              case rel => exact ⟨j + 1, t + (m1 + m2), by omega, by go_num, by go_num, hov, ⟨fun q p hq hp => by
                rcases Nat.lt_succ_iff_lt_or_eq.1 hq with h | rfl
                · exact HQ.it q p h hp
                · rw [HX.it] at hp
                  cases hp
                  have := HS1.it
                  omega⟩, HB4⟩
              case measure => simp [intOf]; omega
            · have hd4 : decide ((8192 : Int) < (t : Int) + ((m1 : Int) + (m2 : Int))) = true := by simp; omega
              go_wp2
              go_ret
              exact ⟨false, rfl, (fun h => by cases h), HB4.it⟩
          · obtain rfl : j = n := by omega
            have hd3 : decide ((j : Int) < (j : Int)) = false := by simp
            go_wp2
            go_roundw
            case rel => exact ⟨1, t, by omega, by go_num, rfl, ht, ⟨fun _ => ⟨by rw [HL.it]; omega, fun p hp => by
              obtain ⟨q, hq⟩ := List.getElem?_of_mem hp
              exact HQ.it q p (by have := (List.getElem?_eq_some_iff.1 hq).1; rw [HL.it] at this; exact this) hq⟩⟩, HBw⟩
            case measure => simp [intOf]
    · obtain rfl : k = 1 := by omega
      have hd : decide (((1 : Nat) : Int) < 1) = false := by decide
      go_wp2
      go_ret
      exact ⟨true, rfl, (fun _ => by first | exact HOK.it rfl | exact HOK.it trivial), HBw.it⟩
end Go.Proofs.Ytcmkjoepndbicaa
