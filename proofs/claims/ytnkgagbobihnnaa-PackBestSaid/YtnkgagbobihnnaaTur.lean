/-
  The program's Turn.
-/
import Derived.Test.YtnkgagbobihnnaaOry
import Derived.Test.YtnkgagbobihnnaaWrt
namespace Go.Proofs.Ytnkgagbobihnnaa
open Go Go.RowKit
attribute [local go_sem ↓] Go.wp_at_zero Go.wp_at_succ

theorem rowL_snoc (x : Nat) : ∀ (l : List Nat) (a r : Nat), rowL (l ++ [x]) a r = if x = 0 then a + l.length else rowL l a r
  | [], a, r => rfl
  | y :: l, a, r => by
    show rowL (l ++ [x]) (a + 1) (if y = 0 then a else r) = _
    rw [rowL_snoc x l]
    have e : (y :: l).length = l.length + 1 := rfl
    rw [e, show a + 1 + l.length = a + (l.length + 1) by omega]
    rfl
theorem rowL_le : ∀ (l : List Nat) (a r : Nat), rowL l a r ≤ max r (a + l.length)
  | [], a, r => by show r ≤ _; omega
  | y :: l, a, r => by
    have h := rowL_le l (a + 1) (if y = 0 then a else r)
    show rowL l (a + 1) (if y = 0 then a else r) ≤ max r (a + (l.length + 1))
    split at h <;> (try split) <;> omega
theorem turnL_take {b : List UInt8} {l : List Nat} {k : Nat} (h : k < l.length) : (turnL b l).take (k + 1) = (turnL b l).take k ++ [b.getD ((l.getD k 0 + b.length - 1) % b.length) 0] := by
  unfold turnL
  rw [← List.map_take, ← List.map_take, List.take_succ_eq_append_getElem h, List.map_append, getD_of h]
  rfl
theorem turnL_len (b : List UInt8) (l : List Nat) : (turnL b l).length = l.length := by simp [turnL]
theorem OwnB.blkt {W : World} {base : Nat} {v : Value} {l : List UInt8} (h : OwnB W base v l) (k : Nat) (hk : v.ownBlock = some k) : ∃ cur, W.heap[k]? = some (.cells cur 5 (0, 0)) := by
  unfold OwnB at h
  rcases h.2 with ⟨rfl, _⟩ | ⟨g, cap, cur, rfl, hb, hh, _⟩
  · simp [Value.ownBlock] at hk
  · have : g = k := by simpa [Value.ownBlock] using hk
    subst this
    exact ⟨cur, hh⟩
theorem Own.byB {W W' : World} {B base : Nat} {v u : Value} {xs : List Int} {l : List UInt8} (h : Own W B v xs) (hg : W.grownBy W' u.ownBlock) (hu : OwnB W base u l) : Own W' B v xs := by
  refine h.grow hg ?_
  cases h1 : v.ownBlock with
  | none => exact .inl h1
  | some a =>
    cases h2 : u.ownBlock with
    | none => exact .inr (.inl h2)
    | some b =>
      right; right
      rw [h1, h2]
      intro e
      injection e with e
      subst e
      obtain ⟨c1, e1⟩ := h.blk a h1
      obtain ⟨c2, e2⟩ := hu.blkt a h2
      rw [e1] at e2
      cases e2
set_option maxRecDepth 100000 in
set_option maxHeartbeats 4000000 in
theorem turn_any (A : Option Addr) (n c : Nat) (bs : List UInt8) (w : World) (h : Rb w A n bs) (hn : n ≤ 1000000) :
    Calls Try.prog 35 #[.slice A n c] w fun e w' => ∃ v, e = .returned (.tuple #[v, .int .i64 ((turnP bs).2 : Nat)]) ∧ OwnB w' w.heap.size v (turnP bs).1 ∧ Below w.heap.size w w' := by
  rcases Nat.eq_zero_or_pos n with h0 | h0
  · subst h0
    obtain rfl : bs = [] := List.eq_nil_of_length_eq_zero h.len
    have e : turnP [] = ([], 0) := rfl
    rw [e]
    clear h e
    go_enter Try.func35, Try.ntmps35
    go_wp2
    go_ret2
    exact ⟨_, rfl, OwnB.nil _ _, Below.refl _ _⟩
  · have hq : ((n : Int) == 0) = false := by simp; omega
    have H := Kp.mk h
    have HL := Kp.mk h.len
    have hmk := make_bytes (n : Int) n rfl (by omega)
    have HW1 : Kp (Below w.heap.size w (w.alloc (.cells (madeCells #[.int .u8 0] n) 5))) := ⟨(Below.refl _ _).alloc (Nat.le_refl _) _⟩
    have HO1 : Kp (OwnB (w.alloc (.cells (madeCells #[.int .u8 0] n) 5)) w.heap.size (.slice (some ⟨w.heap.size, 0, none⟩) 0 n) []) := ⟨ownB_made w _ _ (by unfold maxLen; omega) (made_size n)⟩
    have HC := Kp.mk (order_any A n c bs (w.alloc (.cells (madeCells #[.int .u8 0] n) 5)) (h.below HW1.it) h0 hn)
    have HT : Kp ((tl bs).length = n) := ⟨by rw [(tl_is bs).len]; exact h.len⟩
    have HTL : Kp (∀ k, k < n → (tl bs).getD k 0 < n) := ⟨fun k hk => by
      have h9 := (tl_is bs).lt (List.getElem_mem (show k < (tl bs).length by rw [HT.it]; exact hk))
      rw [HL.it] at h9
      rw [getD_of (by rw [HT.it]; exact hk)]; exact h9⟩
    clear h
    go_enter Try.func35, Try.ntmps35
    go_wp2_with fail
    refine HC.it.mono ?_
    rintro e w2 ⟨v2, rfl, ho2, hb2⟩
    have HB2 : Kp (Below w.heap.size w w2) := ⟨HW1.it.trans (hb2.mono (by simp))⟩
    have HO2 : Kp (OwnB w2 w.heap.size (.slice (some ⟨w.heap.size, 0, none⟩) 0 n) []) := ⟨HO1.it.below hb2⟩
    have hlen : (ints (tl bs)).length = n := by rw [ints_len]; exact HT.it
    obtain ⟨A2, c2, hv2, _, _, _, hr2⟩ := ho2.form3 (by rw [hlen]; omega)
    rw [hlen] at hv2 hr2
    subst hv2
    have HR2 : Kp (Own w2 w.heap.size (.slice A2 n c2) (ints (tl bs))) := ⟨ho2.relax (by simp)⟩
    clear ho2 hb2 hr2 HC HO1 HW1 hlen
    go_wp2
    go_loopw [4, 5, 17] (fun v r i wr => ∃ (k : Nat) (A3 : Option Addr) (c3 : Nat), k ≤ n ∧ i = .int .i64 k ∧ v = .slice A3 k c3 ∧ r = .int .i64 (rowL ((tl bs).take k) 0 0 : Nat) ∧ Kp (OwnB wr w.heap.size (.slice A3 k c3) ((turnL bs (tl bs)).take k)) ∧ Kp (Below w.heap.size w wr) ∧ Kp (Own wr w.heap.size (.slice A2 n c2) (ints (tl bs)))) (fun _ _ i _ => n - (intOf i).toNat)
    case atStart => exact ⟨0, _, n, by omega, rfl, rfl, rfl, HO2, HB2, HR2⟩
    case round =>
      clear HO2 HB2 HR2
      obtain ⟨k, A3, c3, hk, rfl, rfl, rfl, HO, HB, HR⟩ := hrel
      by_cases hkn : k < n
      · have hd : decide ((k : Int) < (n : Int)) = true := by simp; omega
        obtain ⟨A9, c9, e9, _, _, _, hrd⟩ := HR.it.form3 (by rw [ints_len, HT.it]; omega)
        rw [ints_len, HT.it] at e9 hrd
        cases e9
        obtain ⟨b9, o9, e9, hlt9, hcell⟩ := hrd.get hkn
        cases e9
        rw [intsO_rd (by rw [HT.it]; exact hkn)] at hcell
        have hz := HTL.it k hkn
        have HS := Kp.mk (turnL_take (b := bs) (l := tl bs) (k := k) (by rw [HT.it]; exact hkn))
        have HRS : Kp (rowL ((tl bs).take (k + 1)) 0 0 = if (tl bs).getD k 0 = 0 then k else rowL ((tl bs).take k) 0 0) := ⟨by
          rw [List.take_succ_eq_append_getElem (by rw [HT.it]; exact hkn), rowL_snoc, List.length_take, show min k (tl bs).length = k by rw [HT.it]; omega, Nat.zero_add, getD_of (by rw [HT.it]; exact hkn)]⟩
        obtain ⟨z, hze⟩ : ∃ z, z = (tl bs).getD k 0 := ⟨_, rfl⟩
        rw [← hze] at hcell hz HS HRS
        obtain ⟨Q, hQ⟩ : ∃ Q, Q = (z + n - 1) % n := ⟨_, rfl⟩
        have hQn : Q < n := by rw [hQ]; exact Nat.mod_lt _ h0
        have hm : ((z : Int) + (n : Int) - 1) % (n : Int) = (Q : Int) := by
          rw [hQ, show (z : Int) + (n : Int) - 1 = ((z + n - 1 : Nat) : Int) by omega]; simp
        rw [HL.it, ← hQ] at HS
        obtain ⟨b, o, hA, hlt, hc0⟩ := H.it.cells h0
        have hcb := (HB.it.cell (p := ⟨b, o + Q, none⟩) hlt).trans (hc0 Q hQn)
        cases hA
        have hbx : byte bs Q = (((bs.getD Q 0).toNat : Nat) : Int) := rfl
        rw [hbx] at hcb
        obtain ⟨X, hX⟩ : ∃ X, X = bs.getD Q 0 := ⟨_, rfl⟩
        rw [← hX] at hcb HS
        have HZB := Kp.mk HB.it.size
        have HLL : Kp (((turnL bs (tl bs)).take k).length + 1 ≤ 140737488355328) := ⟨by rw [List.length_take]; omega⟩
        have HKL : Kp (((turnL bs (tl bs)).take k).length = k) := ⟨by rw [List.length_take, turnL_len, HT.it]; omega⟩
        have hQ2 : (Q : Int) < (n : Int) := by omega
        obtain ⟨row, hrow⟩ : ∃ row, row = rowL ((tl bs).take k) 0 0 := ⟨_, rfl⟩
        rw [← hrow] at HRS ⊢
        clear hze hQ hc0 hX hbx hrow hrd hlt9 hlt
        by_cases hz0 : z = 0
        · subst hz0
          rw [if_pos rfl] at HRS
          have hq2 : (((0 : Nat) : Int) == 0) = true := by decide
          have hm0 : (-1 : Int) % (n : Int) = (Q : Int) := by rw [← hm, ← Int.add_emod_right]; congr 1; omega
          go_wp2_with (refine app_b1 rfl (.tmp 22) (.tmp 34) rfl w.heap.size _ _ _ X rfl rfl rfl HO.it HZB.it HLL.it ?_; intro v4 w4 ho4 hg4; have O4 := Kp.mk ho4; have B4 := Kp.mk (below_ownB HB.it HB.it.size HO.it (Nat.le_refl _) hg4); have R4 := Kp.mk (HR.it.byB hg4 HO.it); obtain ⟨A4, c4, hv4⟩ := ho4.long (by rw [List.length_append, List.length_singleton, HKL.it]; omega); rw [List.length_append, List.length_singleton, HKL.it] at hv4; subst hv4; clear ho4 hg4)
          rw [← HS.it] at O4
          go_roundw
          case rel => exact ⟨k + 1, A4, c4, by omega, by go_num, rfl, by rw [HRS.it], O4, B4, R4⟩
          case measure => simp [intOf]; omega
        · rw [if_neg hz0] at HRS
          have hq2 : ((z : Int) == 0) = false := by simp; omega
          clear hz0
          go_wp2_with (refine app_b1 rfl (.tmp 22) (.tmp 34) rfl w.heap.size _ _ _ X rfl rfl rfl HO.it HZB.it HLL.it ?_; intro v4 w4 ho4 hg4; have O4 := Kp.mk ho4; have B4 := Kp.mk (below_ownB HB.it HB.it.size HO.it (Nat.le_refl _) hg4); have R4 := Kp.mk (HR.it.byB hg4 HO.it); obtain ⟨A4, c4, hv4⟩ := ho4.long (by rw [List.length_append, List.length_singleton, HKL.it]; omega); rw [List.length_append, List.length_singleton, HKL.it] at hv4; subst hv4; clear ho4 hg4)
          rw [← HS.it] at O4
          go_roundw
          case rel => exact ⟨k + 1, A4, c4, by omega, by go_num, rfl, by rw [HRS.it], O4, B4, R4⟩
          case measure => simp [intOf]; omega
      · obtain rfl : n = k := by omega
        have hd : decide ((n : Int) < (n : Int)) = false := by simp
        have HE : Kp (OwnB wr w.heap.size (.slice A3 n c3) (turnP bs).1) := ⟨by
          have h9 := HO.it
          rwa [List.take_of_length_le (by rw [turnL_len, HT.it]; exact Nat.le_refl _)] at h9⟩
        have HE2 : Kp ((turnP bs).2 = rowL ((tl bs).take n) 0 0) := ⟨by rw [List.take_of_length_le (by rw [HT.it]; exact Nat.le_refl _)]; rfl⟩
        rw [← HE2.it]
        go_wp2
        go_ret2
        exact ⟨_, rfl, HE.it, HB.it⟩
end Go.Proofs.Ytnkgagbobihnnaa
