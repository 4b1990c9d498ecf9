/-
  slices.Clone of whole numbers; slices.Contains of pairs.
-/
import Derived.Test.YtcmkjoepndbicaaSpk
namespace Go.Proofs.Ytcmkjoepndbicaa
open Go Go.RowKit

set_option maxHeartbeats 1000000 in
theorem clonei_any (A : Option Addr) (n c : Nat) (xs : List Int) (w : World) (h : Rd w A n xs) (e : A = none → c = 0) (hn : n ≤ 1000) : Calls Try.prog 43 #[.slice A n c] w fun e w' =>
    ∃ v, e = .returned v ∧ Own w' w.heap.size v xs ∧ Below w.heap.size w w' := by
  have q62 : ∀ (w : World) (a : Option Addr) (n c n' c' : Nat), (binOp .eql 62 (.slice a n c) (.slice none n' c')).run Try.prog w = .ok (.bool a.isNone) w := fun w a n c n' c' => Lib.run_eql_slice_nil w _ _ a n c n' c' Try.underlying62
  cases A with
  | none =>
    have hc := e rfl
    have hn : n = 0 := by
      rcases Nat.eq_zero_or_pos n with h0 | h0
      · exact h0
      · obtain ⟨b, o', e, _⟩ := h.cells h0
        cases e
    subst hc
    subst hn
    have hx : xs = [] := List.eq_nil_of_length_eq_zero h.len
    subst hx
    clear h e
    go_enter Try.func43, Try.ntmps43
    go_wp2
    go_ret
    exact ⟨_, rfl, Own.nil _ _, Below.refl _ _⟩
  | some ad =>
    have HL : Kp (([] : List Int).length + xs.length ≤ 17592186044416) := ⟨by have := h.len; simp; omega⟩
    have E := Kp.mk e
    have HB0 : Kp (Below w.heap.size w (w.alloc (.cells #[] 3))) := ⟨(Below.refl _ _).alloc (Nat.le_refl _) _⟩
    have HR := Kp.mk (h.below HB0.it)
    have HO := Kp.mk (own_empty w)
    have HZ := Kp.mk HB0.it.size
    clear h e
    go_enter Try.func43, Try.ntmps43
    go_wp2_with (refine app_rd rfl (.tmp 5) (.tmp 6) rfl w.heap.size _ [] (some ad) n c xs rfl rfl HO.it HR.it E.it HZ.it HL.it ?_; intro v1 w2 hn1 hg1 _; have N1 := Kp.mk hn1; have W1 := Kp.mk (below_own HB0.it HB0.it.size HO.it (Nat.le_refl _) hg1); clear hn1 hg1)
    go_ret
    exact ⟨_, rfl, N1.it, W1.it⟩
theorem pr_eq {x y : Pr} (h1 : (x.1.toList == y.1.toList) = true) (h2 : (x.2.toList == y.2.toList) = true) : x = y := by
  have e : ∀ a b : ByteArray, a.toList = b.toList → a = b := fun a b h => by
    rw [tl_data, tl_data] at h
    cases a; cases b
    congr 1
    exact Array.ext' h
  have g1 := e _ _ (by simpa using h1)
  have g2 := e _ _ (by simpa using h2)
  cases x; cases y
  simp_all
set_option maxRecDepth 100000 in
set_option maxHeartbeats 4000000 in
theorem index_yes (A : Option Addr) (n c : Nat) (l : List Pr) (x : Pr) (w : World) (S : Nat → Prop) (h : RP w S A n l) (hx : x ∈ l) (hn : n ≤ 1000) :
    Calls Try.prog 71 #[.slice A n c, .agg #[.string x.1, .string x.2]] w fun e w' => ∃ k : Nat, e = .returned (.int .i64 (k : Int)) ∧ Below w.heap.size w w' := by
  have HL := Kp.mk h.len
  have H := Kp.mk h
  obtain ⟨j, hj⟩ := List.getElem?_of_mem hx
  have HJ := Kp.mk hj
  have hjn : j < n := by have := (List.getElem?_eq_some_iff.1 hj).1; rw [h.len] at this; exact this
  clear h hx hj
  go_enter Try.func71, Try.ntmps71
  go_upto_region 1 with fail
  refine wp_on (fun wz => wz.heap[w.heap.size]? = some (.cells #[.string x.1, .string x.2] 43 (0, 0)) ∧ Below w.heap.size w wz) (pr_new w x) (fun w1 h1 => ?_)
  obtain ⟨h1, hb1⟩ := h1
  have E1 := Kp.mk h1
  have B1 := Kp.mk hb1
  clear h1 hb1
  obtain ⟨X, hX⟩ : ∃ X, X = w.heap.size := ⟨_, rfl⟩
  rw [← hX] at E1 ⊢
  clear hX
  go_wp2
  go_loopw [8] (fun i wr => ∃ k : Nat, k ≤ j ∧ i = .int .i64 k ∧ Kp (Below w1.heap.size w1 wr)) (fun i _ => n - (intOf i).toNat)
  case atStart => exact ⟨0, by omega, rfl, ⟨Below.refl _ _⟩⟩
  case round =>
    obtain ⟨k, hk, rfl, HB⟩ := hrel
    have hkn : k < n := by omega
    have hd : decide ((k : Int) < (n : Int)) = true := by simp; omega
    obtain ⟨y, hy⟩ : ∃ y, l[k]? = some y := ⟨_, List.getElem?_eq_getElem (by rw [HL.it]; exact hkn)⟩
    have BW : Kp (Below w.heap.size w wr) := ⟨B1.it.trans (HB.it.mono B1.it.size)⟩
    obtain ⟨b2, o2, hB, _, l2, f2, g2⟩ := (H.it.below BW.it).get hy
    cases hB
    have E2 : Kp (wr.heap[X]? = some (.cells #[.string x.1, .string x.2] 43 (0, 0))) := ⟨(HB.it.block _ (Array.getElem?_eq_some_iff.1 E1.it).1).trans E1.it⟩
    have f1 : wr.cell? ⟨X, 0, none⟩ = some (.string x.1) := blk_cell E2.it rfl
    have g1 : wr.cell? ⟨X, 1, none⟩ = some (.string x.2) := blk_cell E2.it rfl
    have l1 := (Array.getElem?_eq_some_iff.1 E2.it).1
    have HKJ : Kp (k = j → (x.1.toList == y.1.toList) = true ∧ (x.2.toList == y.2.toList) = true) := ⟨fun e => by
      have := HJ.it
      rw [← e, hy] at this
      cases this
      simp⟩
    clear hy
    cases q1 : (x.1.toList == y.1.toList) with
    | true =>
      cases q2 : (x.2.toList == y.2.toList) with
      | true =>
        go_wp2
        go_quiet (fail)
        go_wp2
        go_ret
        exact ⟨k, rfl, below_drewN BW.it _⟩
      | false =>
        have hkj : k < j := by
          rcases Nat.lt_or_ge k j with h | h
          · exact h
          · have := (HKJ.it (by omega)).2
            rw [q2] at this
            cases this
        go_wp2
        go_quiet (fail)
        go_wp2
        go_roundw
        case rel => exact ⟨k + 1, by omega, by go_num, ⟨below_drewN HB.it _⟩⟩
        case measure => simp [intOf]; omega
    | false =>
      have hkj : k < j := by
        rcases Nat.lt_or_ge k j with h | h
        · exact h
        · have := (HKJ.it (by omega)).1
          rw [q1] at this
          cases this
      go_wp2
      go_quiet (fail)
      go_wp2
      go_roundw
      case rel => exact ⟨k + 1, by omega, by go_num, ⟨below_drewN HB.it _⟩⟩
      case measure => simp [intOf]; omega
set_option maxHeartbeats 1000000 in
theorem contains_yes (A : Option Addr) (n c : Nat) (l : List Pr) (x : Pr) (w : World) (S : Nat → Prop) (h : RP w S A n l) (hx : x ∈ l) (hn : n ≤ 1000) :
    Calls Try.prog 44 #[.slice A n c, .agg #[.string x.1, .string x.2]] w fun e w' => e = .returned (.bool true) ∧ Below w.heap.size w w' := by
  have HI : Kp (∀ w1, Below w.heap.size w w1 → Calls Try.prog 71 #[.slice A n c, .agg #[.string x.1, .string x.2]] w1 fun e w' => ∃ k : Nat, e = .returned (.int .i64 (k : Int)) ∧ Below w1.heap.size w1 w') := ⟨fun w1 hb => index_yes A n c l x w1 S (h.below hb) hx hn⟩
  clear h hx hn
  go_enter Try.func44, Try.ntmps44
  go_upto_region 1 with fail
  refine wp_on (fun wz => wz.heap[w.heap.size]? = some (.cells #[.string x.1, .string x.2] 43 (0, 0)) ∧ Below w.heap.size w wz) (pr_new w x) (fun w1 h1 => ?_)
  obtain ⟨h1, hb1⟩ := h1
  have B1 := Kp.mk hb1
  have f1 : w1.cell? ⟨w.heap.size, 0, none⟩ = some (.string x.1) := blk_cell h1 rfl
  have g1 : w1.cell? ⟨w.heap.size, 1, none⟩ = some (.string x.2) := blk_cell h1 rfl
  have l1 := (Array.getElem?_eq_some_iff.1 h1).1
  clear h1 hb1
  go_wp2_with fail
  go_at_call 71
  refine (HI.it w1 B1.it).mono ?_
  rintro e w2 ⟨k, rfl, hb2⟩
  have B2 := Kp.mk (B1.it.trans (hb2.mono B1.it.size))
  have hk0 : decide ((0 : Int) ≤ (k : Int)) = true := by simp
  clear hb2
  go_wp2
  go_ret
  exact ⟨rfl, B2.it⟩
end Go.Proofs.Ytcmkjoepndbicaa
