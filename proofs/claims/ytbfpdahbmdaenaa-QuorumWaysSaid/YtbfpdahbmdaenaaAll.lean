/-
  slices.Concat of two lists; slices.Compact; All.
-/
import Derived.Test.YtbfpdahbmdaenaaCat
import Derived.Test.YtbfpdahbmdaenaaMays
import Derived.Lib.RowBridge
namespace Go.Proofs.Ytbfpdahbmdaenaa
open Go.RowKit

theorem Own.pre {W : World} {base g n cap : Nat} {xs ys : List Int} (h : Own W base (.slice (some ⟨g, 0, none⟩) n cap) (xs ++ ys)) : Own W base (.slice (some ⟨g, 0, none⟩) xs.length cap) xs := by
  unfold Own at *
  rcases h.2 with ⟨h0, _⟩ | ⟨g', cap', cur, hv, hb, hh, h1, h2, h3, h4⟩
  · cases h0
  · cases hv
    refine ⟨by simp, .inr ⟨g, cap, cur, rfl, hb, hh, by simp at h1; omega, h2, h3, ?_⟩⟩
    rw [Nat.mul_one] at h4 ⊢
    have : cur.toList.take xs.length = (cur.toList.take (xs ++ ys).length).take xs.length := by
      rw [List.take_take, Nat.min_eq_left (by simp)]
    rw [this, h4, List.map_append]
    simp

theorem compact_any (v : Value) (xs : List Int) (w : World) (base : Nat) (h : Own w base v xs) (hl : xs.length ≤ 9223372036854775807) :
    Calls Try.prog 49 #[v] w fun e w' => ∃ v', e = .returned v' ∧ Own w' base v' (Lib.compact xs) ∧ v'.ownBlock = v.ownBlock ∧ w.grownBy w' v.ownBlock := by
  have h' := h
  unfold Own at h'
  rcases h'.2 with ⟨rfl, h0⟩ | ⟨g, cap, cur, rfl, hb, hh, h1, h2, h3, h4⟩
  · have hx : xs = [] := by simpa using h0
    subst hx
    refine (Try.slices_Compact_int_empty none 0 w).mono ?_
    rintro e w' ⟨rfl, rfl⟩
    exact ⟨_, rfl, Own.nil w' base, rfl, World.grownBy.refl _ _⟩
  · refine (Try.slices_Compact_int g 0 cap xs w (holds_of_blockI hh (by simpa using h4)) hl h1).mono ?_
    rintro e w' ⟨rfl, q, rfl⟩
    have hcl := Lib.compact_length_le xs
    have := ownsRow_sortedI (n := q) (os := #[]) (base := base) (ts := Lib.compact xs ++ List.replicate (xs.length - (Lib.compact xs).length) 0) (by simp; omega) hb hh h1 h2 h3
    rw [Sort.grow_empty] at this
    refine ⟨_, rfl, ?_, rfl, ?_⟩
    · have h5 : Own (Sort.putRow (Value.int .i64) (Sort.ahead w q) g 0 (Lib.compact xs ++ List.replicate (xs.length - (Lib.compact xs).length) 0).toArray) base (.slice (some ⟨g, 0, none⟩) xs.length cap) (Lib.compact xs ++ List.replicate (xs.length - (Lib.compact xs).length) 0) := by
        have hlen : (Lib.compact xs ++ List.replicate (xs.length - (Lib.compact xs).length) 0).length = xs.length := by
          rw [List.length_append, List.length_replicate]; omega
        unfold Own
        rw [hlen]
        exact this
      exact h5.pre
    · have := grownBy_sortedI (w := w) (g := g) (n := q) (os := #[]) (Lib.compact xs ++ List.replicate (xs.length - (Lib.compact xs).length) 0).toArray
      rw [Sort.grow_empty] at this
      simpa [Value.ownBlock] using this

set_option maxHeartbeats 1000000 in
theorem concat_any (b c : Nat) (A1 A2 : Option Addr) (n1 c1 n2 c2 : Nat) (xs ys : List Int) (w : World) (hb : b < w.heap.size) (z1 : w.cell? ⟨b, 0, none⟩ = some (.slice A1 n1 c1)) (z2 : w.cell? ⟨b, 1, none⟩ = some (.slice A2 n2 c2))
    (h1 : Rd w A1 n1 xs) (h2 : Rd w A2 n2 ys) (e1 : A1 = none → c1 = 0) (e2 : A2 = none → c2 = 0) (hl : n1 + n2 ≤ 1000000000) : Calls Try.prog 28 #[.slice (some ⟨b, 0, none⟩) 2 c] w fun e w' =>
    ∃ v, e = .returned v ∧ Own w' w.heap.size v (xs ++ ys) ∧ Below w.heap.size w w' := by
  have hl1 := h1.len
  have hl2 := h2.len
  obtain ⟨L, hL0, hL1, hL2⟩ : ∃ L : Nat → List Int, L 0 = [] ∧ L 1 = xs ∧ L 2 = xs ++ ys := ⟨fun i => match i with | 0 => [] | 1 => xs | _ => xs ++ ys, rfl, rfl, rfl⟩
  have KEY : Kp (∀ i, i < 2 → ∃ A n c us, Kp (w.cell? ⟨b, i, none⟩ = some (.slice A n c)) ∧ Kp (Rd w A n us) ∧ Kp (A = none → c = 0) ∧ Kp (L (i + 1) = L i ++ us) ∧ Kp (us.length = n) ∧ n ≤ 1000000000) := ⟨by
    intro i hi
    match i, hi with
    | 0, _ => exact ⟨A1, n1, c1, xs, ⟨z1⟩, ⟨h1⟩, ⟨e1⟩, ⟨by rw [hL1, hL0]; rfl⟩, ⟨hl1⟩, by omega⟩
    | 1, _ => exact ⟨A2, n2, c2, ys, ⟨z2⟩, ⟨h2⟩, ⟨e2⟩, ⟨by rw [hL2, hL1]⟩, ⟨hl2⟩, by omega⟩⟩
  have HM : Kp (∀ i, i ≤ 2 → (L i).length ≤ 1000000000) := ⟨by
    intro i hi
    rcases (by omega : i = 0 ∨ i = 1 ∨ i = 2) with rfl | rfl | rfl
    · rw [hL0]; simp
    · rw [hL1, hl1]; omega
    · rw [hL2, List.length_append, hl1, hl2]; omega⟩
  have HL0 := Kp.mk hL0
  have HL2 := Kp.mk hL2
  clear hL0 hL1 hL2 h1 h2 e1 e2 z1 z2 hl hl1 hl2
  go_enter Try.func28, Try.ntmps28
  go_wp2
  go_loop [3, 11] (fun s i => ∃ k : Nat, k ≤ 2 ∧ i = .int .i64 k ∧ s = .int .i64 ((L k).length : Nat)) (fun _ i => 2 - (intOf i).toNat)
  case atStart => exact ⟨0, by omega, rfl, by rw [HL0.it]; rfl⟩
  case round =>
    obtain ⟨k, hk, rfl, rfl⟩ := hrel
    have hm := HM.it k hk
    by_cases hk2 : k < 2
    · have hd : decide ((k : Int) < 2) = true := by simp; omega
      obtain ⟨A, n, c, us, hcell, hR, hE, hLL, hLen, hnb⟩ := KEY.it k hk2
      have hcell := hcell.it
      have HLL : Kp ((L (k + 1)).length = (L k).length + n) := ⟨by rw [hLL.it, List.length_append, hLen.it]⟩
      go_wp2
      go_round
      case rel => exact ⟨k + 1, by omega, by go_num, by rw [HLL.it]; go_num⟩
      case measure => simp [intOf]; omega
    · obtain rfl : k = 2 := by omega
      go_wp2_with fail
      refine (grow_any _ w (by omega)).mono ?_
      rintro e w1 ⟨v, rfl, ho, hb1⟩
      have HO := Kp.mk ho
      have HB := Kp.mk hb1
      clear ho hb1
      go_wp2
      go_loopw [6, 27] (fun u i wr => ∃ k : Nat, k ≤ 2 ∧ i = .int .i64 k ∧ Own wr w.heap.size u (L k) ∧ Kp (Below w.heap.size w wr)) (fun _ i _ => 2 - (intOf i).toNat)
      case atStart => exact ⟨0, by omega, rfl, by rw [HL0.it]; exact HO.it, HB⟩
      case round =>
        obtain ⟨j, hj, rfl, ho, hW⟩ := hrel
        have HJ := Kp.mk ho
        clear ho
        by_cases hj2 : j < 2
        · have hd : decide ((j : Int) < 2) = true := by simp; omega
          obtain ⟨A, n, c, us, hcell, hR, hE, hLL, hLen, hnb⟩ := KEY.it j hj2
          have hcell := (hW.it.cell (p := ⟨b, j, none⟩) hb).trans hcell.it
          have hR' := Kp.mk (hR.it.below hW.it)
          have HB1 := Kp.mk (show (L j).length + us.length ≤ 17592186044416 by have := HM.it j hj; rw [hLen.it]; omega)
          go_wp2_with (refine app_rd rfl (.tmp 31) (.tmp 32) rfl w.heap.size _ (L j) A n c us rfl rfl HJ.it hR'.it hE.it hW.it.size HB1.it ?_; intro v1 w2 hn1 hg1 _; have N1 := Kp.mk hn1; have W1 := Kp.mk (below_own hW.it hW.it.size HJ.it (Nat.le_refl _) hg1); clear hn1 hg1)
          go_roundw
          case rel => exact ⟨j + 1, by omega, by go_num, by rw [hLL.it]; exact N1.it, W1⟩
          case measure => simp [intOf]; omega
        · obtain rfl : j = 2 := by omega
          go_wp2
          go_ret
          exact ⟨_, rfl, by rw [← HL2.it]; exact HJ.it, hW.it⟩

/-- All nodes, by rising numbers, each once. -/
def allL (vs ls : List Int) : List Int := Lib.compact (sorted (vs ++ ls))

set_option maxHeartbeats 1000000 in
theorem all_any (A1 A2 : Option Addr) (n1 c1 n2 c2 : Nat) (vs ls : List Int) (w : World) (h1 : Rd w A1 n1 vs) (h2 : Rd w A2 n2 ls) (e1 : A1 = none → c1 = 0) (e2 : A2 = none → c2 = 0) (hl : n1 + n2 ≤ 1000000000) : Calls Try.prog 29 #[.agg #[.slice A1 n1 c1, .slice A2 n2 c2]] w fun e w' =>
    ∃ v, e = .returned v ∧ Own w' w.heap.size v (allL vs ls) ∧ Below w.heap.size w w' := by
  have hb : Below w.heap.size w ((w.alloc (.cells #[.slice A1 n1 c1, .slice A2 n2 c2] 24)).alloc (.cells #[.slice A1 n1 c1, .slice A2 n2 c2] 22)) := ((Below.refl _ _).alloc (Nat.le_refl _) _).alloc (by simp) _
  have HC := Kp.mk (concat_any (w.heap.size + 1) 2 A1 A2 n1 c1 n2 c2 vs ls _ (by simp) (blk_cell (blk_new1 _ _ _) rfl) (blk_cell (blk_new1 _ _ _) rfl) (h1.below hb) (h2.below hb) e1 e2 hl)
  have hlen : (vs ++ ls).length ≤ 1000000000 := by rw [List.length_append, h1.len, h2.len]; exact hl
  have HB := Kp.mk hb
  have HLN := Kp.mk hlen
  clear h1 h2 e1 e2 hb hlen
  go_enter Try.func29, Try.ntmps29
  go_wp2_with fail
  refine HC.it.mono ?_
  rintro e w1 ⟨v, rfl, ho, hb1⟩
  have HO := Kp.mk ho
  have HB1 := Kp.mk (HB.it.trans (hb1.mono HB.it.size))
  have hsz : w.heap.size ≤ w1.heap.size := HB1.it.size
  have hbase : ∀ k, v.ownBlock = some k → w.heap.size ≤ k := fun k hk => by have := ho.base_le k hk; simp at this; omega
  have HBS := Kp.mk hbase
  clear ho hb1 hbase
  obtain ⟨L, hL⟩ : ∃ L, L = vs ++ ls := ⟨_, rfl⟩
  have HAL : Kp (allL vs ls = Lib.compact (sorted L)) := ⟨by rw [hL]; rfl⟩
  rw [← hL] at HO HLN
  clear hL
  obtain ⟨A, c, rfl, _⟩ := HO.it.form
  go_wp2_with fail
  refine (sort_any _ L _ _ HO.it (by have := HLN.it; omega)).mono ?_
  rintro e w2 ⟨rfl, ho2, hg2⟩
  have HO2 := Kp.mk ho2
  have HB2 := Kp.mk (HB1.it.grown hg2 hsz HBS.it)
  clear ho2 hg2
  go_wp2_with fail
  refine (compact_any _ (sorted L) _ _ HO2.it (by rw [sorted_length]; have := HLN.it; omega)).mono ?_
  rintro e w3 ⟨v3, rfl, ho3, hv3, hg3⟩
  have HB3 := Kp.mk (HB2.it.grown hg3 HB2.it.size HBS.it)
  have HO3 : Kp (Own w3 w.heap.size v3 (allL vs ls)) := ⟨by
    rw [HAL.it]
    unfold Own at ho3 ⊢
    refine ⟨ho3.1, ?_⟩
    rcases ho3.2 with h | ⟨g, cap, cur, hv, hbs, r⟩
    · exact .inl h
    · exact .inr ⟨g, cap, cur, hv, HBS.it g (by rw [← hv3, hv]; rfl), r⟩⟩
  clear ho3 hv3 hg3
  obtain ⟨A', c', hv', _⟩ := HO3.it.form
  obtain ⟨m, hm⟩ : ∃ m, m = (allL vs ls).length := ⟨_, rfl⟩
  rw [← hm] at hv'
  subst hv'
  clear hm
  go_wp2
  go_ret
  exact ⟨_, rfl, HO3.it, HB3.it⟩

end Go.Proofs.Ytbfpdahbmdaenaa
