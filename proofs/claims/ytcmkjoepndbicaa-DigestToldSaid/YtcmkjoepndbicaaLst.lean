/-
  The reference's list of pairs: Without, With, Of.
-/
import Derived.Test.YtcmkjoepndbicaaWth
import Derived.Test.YtcmkjoepndbicaaByq
namespace Go.Proofs.Ytcmkjoepndbicaa
open Go Go.RowKit

section
variable {ops : Array Oper} {rest : List Oper} {o : Oper} {a : Act} {Q : Exit → Act → World → Prop} {W : World}
/-- append of one pair. -/
theorem app_l1 (hgd : o.guard = none) (s x : Operand)
    (ho : o.op = .call { callee := .builtin .append, args := #[s, x], argTypes := #[54, 54] })
    (base : Nat) (v : Value) (l : List Pr) (y : Pr) (hs : a.eval s = v) (hx : a.eval x = .slice (some ⟨W.heap.size, 0, none⟩) 1 1)
    (HO : OwnP W base v l) (hbase : base ≤ W.heap.size) (hl : l.length + 1 ≤ 100000)
    (h : ∀ v1 w1, OwnP w1 base v1 (l ++ [y]) → W.grownBy w1 v.ownBlock → (v1.ownBlock = v.ownBlock ∨ ∃ b, v1.ownBlock = some b ∧ W.heap.size ≤ b) → wpList Try.prog ops Q rest (a.put o.dst v1) w1) :
    wpList Try.prog ops Q (o :: rest) a (W.alloc (.cells #[.string y.1, .string y.2] 43)) := by
  obtain ⟨i0, hi, hz0, hz1, hz2⟩ := info_parts Try.info43'
  refine wpList_append_own_at (W.alloc (.cells #[.string y.1, .string y.2] 43)) hgd s x 54 ho base 43 i0 _ 2 32 Try.underlying54 hi hz0 hz1 hz2 rfl (by omega) v l.length _ hs (World.ownsRow.alloc HO _) ⟨W.heap.size, 0, none⟩ 1 1 [.string y.1, .string y.2] hx rfl
    (new_pr y) (by intro u hu; simp at hu; rcases hu with rfl | rfl <;> rfl) (by unfold maxLen; omega) (by omega) (by simp; omega) ?_
  intro v1 w1 hown hg _ hat
  refine h v1 w1 ?_ (World.grownBy.trans (World.grownBy_alloc W _ _) hg) ?_
  · unfold OwnP
    rw [List.length_append, pvs_app]
    exact hown
  · rcases hat with hat | hat
    · exact .inl hat
    · exact .inr ⟨_, hat, by simp⟩
end
theorem woP_succ (l : List Pr) (p : Pr) {k : Nat} {x : Pr} (hx : l[k]? = some x) : woP (l.take (k + 1)) p = if keyP x = keyP p then woP (l.take k) p else woP (l.take k) p ++ [x] := by
  obtain ⟨hk, rfl⟩ := List.getElem?_eq_some_iff.1 hx
  unfold woP
  rw [List.take_succ_eq_append_getElem hk, List.filter_append]
  by_cases h : keyP l[k] = keyP p
  · rw [if_pos h]; simp [h]
  · rw [if_neg h]; simp [h]
/-- A new block of a pair. -/
theorem pr_new (w : World) (x : Pr) : (w.alloc (.cells #[.string x.1, .string x.2] 43)).heap[w.heap.size]? = some (.cells #[.string x.1, .string x.2] 43 (0, 0)) ∧ Below w.heap.size w (w.alloc (.cells #[.string x.1, .string x.2] 43)) := ⟨blk_new _ _, (Below.refl w.heap.size w).alloc (Nat.le_refl _) _⟩
set_option maxRecDepth 100000 in
set_option maxHeartbeats 8000000 in
theorem without_any (A : Option Addr) (n c : Nat) (l : List Pr) (p : Pr) (w : World) (S : Nat → Prop) (h : RP w S A n l) (hn : n ≤ 1000) :
    Calls Try.prog 78 #[.slice A n c, .string p.1] w fun e w' => ∃ v, e = .returned v ∧ OwnP w' w.heap.size v (woP l p) ∧ Below w.heap.size w w' := by
  have HL := Kp.mk h.len
  have H := Kp.mk h
  clear h
  go_enter Try.func78, Try.ntmps78
  go_wp2
  go_loopw [5, 10] (fun o i wr => ∃ (k : Nat) (A3 : Option Addr) (k3 c3 : Nat), k ≤ n ∧ i = .int .i64 k ∧ o = .slice A3 k3 c3 ∧ k3 ≤ k ∧ Kp ((woP (l.take k) p).length = k3) ∧ Kp (OwnP wr w.heap.size (.slice A3 k3 c3) (woP (l.take k) p)) ∧ Kp (Below w.heap.size w wr)) (fun _ i _ => n - (intOf i).toNat)
  case atStart => exact ⟨0, none, 0, 0, by omega, rfl, rfl, by omega, ⟨rfl⟩, ⟨OwnP.nil _ _⟩, ⟨Below.refl _ _⟩⟩
  case round =>
    obtain ⟨k, A3, k3, c3, hk, rfl, rfl, hk3, HP, HO, HB⟩ := hrel
    by_cases hkn : k < n
    · have hd : decide ((k : Int) < (n : Int)) = true := by simp; omega
      obtain ⟨x, hx⟩ : ∃ x, l[k]? = some x := ⟨_, List.getElem?_eq_getElem (by rw [HL.it]; exact hkn)⟩
      obtain ⟨b1, o1, hA, hS1, hl1, f0, f1⟩ := (H.it.below HB.it).get hx
      cases hA
      have HU := Kp.mk (woP_succ l p hx)
      clear hx
      go_upto_region 5 with fail
      refine wp_on (fun wz => wz.heap[wr.heap.size]? = some (.cells #[.string x.1, .string x.2] 43 (0, 0)) ∧ Below wr.heap.size wr wz) (pr_new wr x) (fun w4 h4 => ?_)
      obtain ⟨h4, hb4⟩ := h4
      have E4 := Kp.mk h4
      have O4 := Kp.mk (HO.it.below hb4)
      have HB4 := Kp.mk (HB.it.trans (hb4.mono HB.it.size))
      have Z4 := Kp.mk HB4.it.size
      clear h4 hb4 f0 f1 HO HB
      have g0 : w4.cell? ⟨wr.heap.size, 0, none⟩ = some (.string x.1) := blk_cell E4.it rfl
      have g1 : w4.cell? ⟨wr.heap.size, 1, none⟩ = some (.string x.2) := blk_cell E4.it rfl
      have hlt4 := (Array.getElem?_eq_some_iff.1 E4.it).1
      by_cases hm : keyP x = keyP p
      · have hq : (x.1.toList == p.1.toList) = true := by rw [key_iff]; simp [hm]
        have HE : Kp (woP (l.take (k + 1)) p = woP (l.take k) p) := ⟨by rw [HU.it, if_pos hm]⟩
        clear hm
        go_wp2
        go_roundw
        case rel => exact ⟨k + 1, A3, k3, c3, by omega, by go_num, rfl, by omega, ⟨by rw [HE.it, HP.it]⟩, ⟨by rw [HE.it]; exact O4.it⟩, HB4⟩
        case measure => simp [intOf]; omega
      · have hq : (x.1.toList == p.1.toList) = false := by rw [key_iff]; simp [hm]
        have HE : Kp (woP (l.take (k + 1)) p = woP (l.take k) p ++ [x]) := ⟨by rw [HU.it, if_neg hm]⟩
        have HN : Kp ((woP (l.take k) p).length + 1 ≤ 100000) := ⟨by rw [HP.it]; omega⟩
        have HLN : Kp ((woP (l.take k) p ++ [x]).length = k3 + 1) := ⟨by rw [List.length_append, HP.it]; rfl⟩
        clear hm
        go_wp2_with (refine app_l1 rfl (.tmp 18) (.tmp 20) rfl w.heap.size (.slice A3 k3 c3) _ x rfl rfl O4.it Z4.it HN.it ?_; intro v6 w6 ho6 hg6 _; obtain ⟨A6, c6, hv6, _, _, _⟩ := ho6.form (by rw [HLN.it]; omega); rw [HLN.it] at hv6; subst hv6; have O6 := Kp.mk ho6; have B6 := Kp.mk (below_ownP HB4.it Z4.it O4.it (Nat.le_refl _) hg6); clear ho6 hg6)
        go_roundw
        case rel => exact ⟨k + 1, A6, k3 + 1, c6, by omega, by go_num, rfl, by omega, ⟨by rw [HE.it, HLN.it]⟩, ⟨by rw [HE.it]; exact O6.it⟩, B6⟩
        case measure => simp [intOf]; omega
    · obtain rfl : k = n := by omega
      have hd : decide ((k : Int) < (k : Int)) = false := by simp
      rw [List.take_of_length_le (by rw [HL.it]; omega)] at HO
      go_wp2
      go_ret
      exact ⟨_, rfl, HO.it, HB.it⟩
theorem insP_cons_lt {p x : Pr} (xs : List Pr) (h : ltB p.1 x.1 = true) : insP p (x :: xs) = p :: x :: xs := by rw [insP, if_pos h]
theorem insP_cons_ge {p x : Pr} (xs : List Pr) (h : ltB p.1 x.1 = false) : insP p (x :: xs) = x :: insP p xs := by rw [insP, if_neg (by simp [h])]
theorem drop_at {l : List Pr} {k : Nat} {x : Pr} (hx : l[k]? = some x) : l.drop k = x :: l.drop (k + 1) := by
  obtain ⟨hk, rfl⟩ := List.getElem?_eq_some_iff.1 hx
  exact List.drop_eq_getElem_cons hk
set_option maxRecDepth 100000 in
set_option maxHeartbeats 8000000 in
theorem with_any (A : Option Addr) (n c : Nat) (l : List Pr) (p : Pr) (w : World) (S : Nat → Prop) (h : RP w S A n l) (hn : n ≤ 1000) :
    Calls Try.prog 52 #[.slice A n c, .agg #[.string p.1, .string p.2]] w fun e w' => ∃ v, e = .returned v ∧ OwnP w' w.heap.size v (withP l p) ∧ Below w.heap.size w w' := by
  have H := Kp.mk h
  clear h
  go_enter Try.func52, Try.ntmps52
  go_upto_region 1 with fail
  refine wp_on (fun wz => wz.heap[w.heap.size]? = some (.cells #[.string p.1, .string p.2] 43 (0, 0)) ∧ Below w.heap.size w wz) (pr_new w p) (fun w1 h1 => ?_)
  obtain ⟨h1, hb1⟩ := h1
  have E1 := Kp.mk h1
  have B1 := Kp.mk hb1
  have g0 : w1.cell? ⟨w.heap.size, 0, none⟩ = some (.string p.1) := blk_cell E1.it rfl
  have hlt1 := (Array.getElem?_eq_some_iff.1 E1.it).1
  clear h1 hb1
  go_wp2_with fail
  go_at_call 78
  refine (without_any A n c l p w1 S (H.it.below B1.it) hn).mono ?_
  rintro e w2 ⟨v2, rfl, ho2, hb2⟩
  obtain ⟨m, hm⟩ : ∃ m, m = (woP l p).length := ⟨_, rfl⟩
  have hmn : m ≤ n := by rw [hm, ← H.it.len]; exact woP_le l p
  obtain ⟨A2, c2, rfl, _, _, hr2⟩ := ho2.form (by omega)
  rw [← hm] at hr2 ⊢
  have R2 := Kp.mk hr2
  have HM := Kp.mk hm
  have B2 := Kp.mk (B1.it.trans (hb2.mono B1.it.size))
  have E2 : Kp (w2.heap[w.heap.size]? = some (.cells #[.string p.1, .string p.2] 43 (0, 0))) := ⟨(hb2.block _ hlt1).trans E1.it⟩
  clear hb2 ho2 hr2 hm g0 hlt1 E1 B1
  obtain ⟨X, hX⟩ : ∃ X, X = w.heap.size := ⟨_, rfl⟩
  rw [← hX] at E2 ⊢
  have HX := Kp.mk hX
  clear hX
  have HXL : Kp (X < w2.heap.size) := ⟨(Array.getElem?_eq_some_iff.1 E2.it).1⟩
  have HW2 : Kp (w.heap.size ≤ w2.heap.size) := ⟨B2.it.size⟩
  go_wp2
  go_loopw [5, 6, 14] (fun o d i wr => ∃ (k : Nat) (D : Bool) (A3 : Option Addr) (k3 c3 : Nat) (out : List Pr), k ≤ m ∧ i = .int .i64 k ∧ d = .bool D ∧ o = .slice A3 k3 c3 ∧ k3 ≤ k + 1 ∧ Kp (D = false → k3 ≤ k) ∧ Kp (out.length = k3) ∧ Kp (withP l p = if D = true then out ++ (woP l p).drop k else out ++ insP p ((woP l p).drop k)) ∧ Kp (OwnP wr w2.heap.size (.slice A3 k3 c3) out) ∧ Kp (Below w2.heap.size w2 wr)) (fun _ _ i _ => m - (intOf i).toNat)
  case atStart => exact ⟨0, false, none, 0, 0, [], by omega, rfl, rfl, rfl, by omega, ⟨fun _ => Nat.le_refl _⟩, ⟨rfl⟩, ⟨by simp [withP]⟩, ⟨OwnP.nil _ _⟩, ⟨Below.refl _ _⟩⟩
  case round =>
    obtain ⟨k, D, A3, k3, c3, out, hk, rfl, rfl, rfl, hk3, HKK, HP, HE, HO, HB⟩ := hrel
    by_cases hkn : k < m
    · have hd : decide ((k : Int) < (m : Int)) = true := by simp; omega
      obtain ⟨x, hx⟩ : ∃ x, (woP l p)[k]? = some x := ⟨_, List.getElem?_eq_getElem (by rw [← HM.it]; exact hkn)⟩
      obtain ⟨b1, o1, hA, hS1, hl1, f0, f1⟩ := (R2.it.below HB.it).get hx
      cases hA
      have HDX := Kp.mk (drop_at hx)
      clear hx
      go_upto_region 6 with fail
      refine wp_on (fun wz => wz.heap[wr.heap.size]? = some (.cells #[.string x.1, .string x.2] 43 (0, 0)) ∧ Below wr.heap.size wr wz) (pr_new wr x) (fun w4 h4 => ?_)
      obtain ⟨h4, hb4⟩ := h4
      have E4 := Kp.mk h4
      have O4 := Kp.mk (HO.it.below hb4)
      have HB4 := Kp.mk (HB.it.trans (hb4.mono HB.it.size))
      have Z4 := Kp.mk HB4.it.size
      have HOB : Kp (∀ q, (Value.slice A3 k3 c3).ownBlock = some q → w2.heap.size ≤ q ∧ q < wr.heap.size) := ⟨fun q e => HO.it.lt q e⟩
      have P4 : Kp (w4.heap[X]? = some (.cells #[.string p.1, .string p.2] 43 (0, 0))) := ⟨(HB4.it.block X HXL.it).trans E2.it⟩
      have HZW : Kp (w2.heap.size ≤ wr.heap.size) := ⟨HB.it.size⟩
      clear h4 hb4 f0 f1 HO HB
      have g0 : w4.cell? ⟨wr.heap.size, 0, none⟩ = some (.string x.1) := blk_cell E4.it rfl
      have g1 : w4.cell? ⟨wr.heap.size, 1, none⟩ = some (.string x.2) := blk_cell E4.it rfl
      have hlt4 := (Array.getElem?_eq_some_iff.1 E4.it).1
      have q0 : w4.cell? ⟨X, 0, none⟩ = some (.string p.1) := blk_cell P4.it rfl
      have q1 : w4.cell? ⟨X, 1, none⟩ = some (.string p.2) := blk_cell P4.it rfl
      have hltx := (Array.getElem?_eq_some_iff.1 P4.it).1
      have HN : Kp (out.length + 1 ≤ 100000) := ⟨by rw [HP.it]; omega⟩
      have HLN : Kp ((out ++ [x]).length = k3 + 1) := ⟨by rw [List.length_append, HP.it]; rfl⟩
      cases D with
      | true =>
        have HE2 : Kp (withP l p = (out ++ [x]) ++ (woP l p).drop (k + 1)) := ⟨by rw [HE.it, if_pos rfl, HDX.it]; simp⟩
        go_wp2_with (refine app_l1 rfl (.tmp 31) (.tmp 33) rfl w2.heap.size (.slice A3 k3 c3) _ x rfl rfl O4.it Z4.it HN.it ?_; intro v6 w6 ho6 hg6 _; obtain ⟨A6, c6, hv6, _, _, _⟩ := ho6.form (by rw [HLN.it]; omega); rw [HLN.it] at hv6; subst hv6; have O6 := Kp.mk ho6; have B6 := Kp.mk (below_ownP HB4.it Z4.it O4.it (Nat.le_refl _) hg6); clear ho6 hg6)
        go_roundw
        case rel => exact ⟨k + 1, true, A6, k3 + 1, c6, out ++ [x], by omega, by go_num, rfl, rfl, by omega, ⟨fun h => by cases h⟩, HLN, ⟨by rw [if_pos rfl]; exact HE2.it⟩, O6, B6⟩
        case measure => simp [intOf]; omega
      | false =>
        cases hlt : ltB p.1 x.1 with
        | false =>
          have HE2 : Kp (withP l p = (out ++ [x]) ++ insP p ((woP l p).drop (k + 1))) := ⟨by rw [HE.it, if_neg (by simp), HDX.it, insP_cons_ge _ hlt]; simp⟩
          have hlt' : Op.bytesLess p.1.toList x.1.toList = false := hlt
          clear hlt
          go_wp2_with (refine app_l1 rfl (.tmp 31) (.tmp 33) rfl w2.heap.size (.slice A3 k3 c3) _ x rfl rfl O4.it Z4.it HN.it ?_; intro v6 w6 ho6 hg6 _; obtain ⟨A6, c6, hv6, _, _, _⟩ := ho6.form (by rw [HLN.it]; omega); rw [HLN.it] at hv6; subst hv6; have O6 := Kp.mk ho6; have B6 := Kp.mk (below_ownP HB4.it Z4.it O4.it (Nat.le_refl _) hg6); clear ho6 hg6)
          go_roundw
          case rel => exact ⟨k + 1, false, A6, k3 + 1, c6, out ++ [x], by omega, by go_num, rfl, rfl, by omega, ⟨fun _ => by have := HKK.it rfl; omega⟩, HLN, ⟨by rw [if_neg (by simp)]; exact HE2.it⟩, O6, B6⟩
          case measure => simp [intOf]; omega
        | true =>
          have HLP : Kp ((out ++ [p]).length = k3 + 1) := ⟨by rw [List.length_append, HP.it]; rfl⟩
          have HN2 : Kp ((out ++ [p]).length + 1 ≤ 100000) := ⟨by rw [HLP.it]; omega⟩
          have HLX : Kp ((out ++ [p] ++ [x]).length = k3 + 2) := ⟨by rw [List.length_append, HLP.it]; rfl⟩
          have HE2 : Kp (withP l p = (out ++ [p] ++ [x]) ++ (woP l p).drop (k + 1)) := ⟨by rw [HE.it, if_neg (by simp), HDX.it, insP_cons_lt _ hlt]; simp⟩
          have hlt' : Op.bytesLess p.1.toList x.1.toList = true := hlt
          clear hlt
          go_wp2_with (first
            | (refine app_l1 rfl (.tmp 27) (.tmp 29) rfl w2.heap.size (.slice A3 k3 c3) _ p rfl rfl O4.it Z4.it HN.it ?_; intro v5 w5 ho5 hg5 _; obtain ⟨A5, c5, hv5, _, _, _⟩ := ho5.form (by rw [HLP.it]; omega); rw [HLP.it] at hv5; subst hv5; have O5 := Kp.mk ho5; have B5 := Kp.mk (below_ownP HB4.it Z4.it O4.it (Nat.le_refl _) hg5); have E5 : Kp (w5.heap[wr.heap.size]? = some (.cells #[.string x.1, .string x.2] 43 (0, 0))) := ⟨keep_blk E4.it hg5 (fun e => by have := HOB.it _ e; omega)⟩; have z0 : w5.cell? ⟨wr.heap.size, 0, none⟩ = some (.string x.1) := blk_cell E5.it rfl; have z1 : w5.cell? ⟨wr.heap.size, 1, none⟩ = some (.string x.2) := blk_cell E5.it rfl; have hl5 := (Array.getElem?_eq_some_iff.1 E5.it).1; have Z5 := Kp.mk B5.it.size; clear ho5 hg5)
            | (refine app_l1 rfl (.tmp 31) (.tmp 33) rfl w2.heap.size _ _ x rfl rfl O5.it Z5.it HN2.it ?_; intro v6 w6 ho6 hg6 _; obtain ⟨A6, c6, hv6, _, _, _⟩ := ho6.form (by rw [HLX.it]; omega); rw [HLX.it] at hv6; subst hv6; have O6 := Kp.mk ho6; have B6 := Kp.mk (below_ownP B5.it Z5.it O5.it (Nat.le_refl _) hg6); clear ho6 hg6))
          go_roundw
          case rel => exact ⟨k + 1, true, A6, k3 + 2, c6, out ++ [p] ++ [x], by omega, by go_num, rfl, rfl, by have := HKK.it rfl; omega, ⟨fun h => by cases h⟩, HLX, ⟨by rw [if_pos rfl]; exact HE2.it⟩, O6, B6⟩
          case measure => simp [intOf]; omega
    · obtain rfl : k = m := by omega
      have hd : decide ((k : Int) < (k : Int)) = false := by simp
      have HD : Kp ((woP l p).drop k = []) := ⟨by rw [HM.it]; exact List.drop_length⟩
      cases D with
      | true =>
        have HE2 : Kp (withP l p = out) := ⟨by rw [HE.it, if_pos rfl, HD.it, List.append_nil]⟩
        go_wp2
        go_ret
        exact ⟨_, rfl, by rw [HE2.it]; exact HO.it.relax HW2.it, B2.it.trans (HB.it.mono HW2.it)⟩
      | false =>
        have HE2 : Kp (withP l p = out ++ [p]) := ⟨by rw [HE.it, if_neg (by simp), HD.it]; rfl⟩
        have HLP : Kp ((out ++ [p]).length = k3 + 1) := ⟨by rw [List.length_append, HP.it]; rfl⟩
        have HN : Kp (out.length + 1 ≤ 100000) := ⟨by rw [HP.it]; omega⟩
        have P4 : Kp (wr.heap[X]? = some (.cells #[.string p.1, .string p.2] 43 (0, 0))) := ⟨(HB.it.block X HXL.it).trans E2.it⟩
        have q0 : wr.cell? ⟨X, 0, none⟩ = some (.string p.1) := blk_cell P4.it rfl
        have q1 : wr.cell? ⟨X, 1, none⟩ = some (.string p.2) := blk_cell P4.it rfl
        have hltx := (Array.getElem?_eq_some_iff.1 P4.it).1
        have HZW : Kp (w2.heap.size ≤ wr.heap.size) := ⟨HB.it.size⟩
        go_wp2_with (refine app_l1 rfl (.tmp 38) (.tmp 40) rfl w2.heap.size (.slice A3 k3 c3) _ p rfl rfl HO.it HZW.it HN.it ?_; intro v6 w6 ho6 hg6 _; obtain ⟨A6, c6, hv6, _, _, _⟩ := ho6.form (by rw [HLP.it]; omega); rw [HLP.it] at hv6; subst hv6; have O6 := Kp.mk ho6; have B6 := Kp.mk (below_ownP HB.it HZW.it HO.it (Nat.le_refl _) hg6); clear ho6 hg6)
        go_ret
        exact ⟨_, rfl, by rw [HE2.it]; exact O6.it.relax HW2.it, B2.it.trans (B6.it.mono HW2.it)⟩
set_option maxRecDepth 100000 in
set_option maxHeartbeats 8000000 in
/-- The reference's Of of a list of pairs (package 03). -/
theorem rlist_any (A : Option Addr) (n c : Nat) (l : List Pr) (w : World) (S : Nat → Prop) (h : RP w S A n l) (hn : n ≤ 1000) :
    Calls Try.prog 30 #[.slice A n c] w fun e w' => ∃ v, e = .returned v ∧ OwnP w' w.heap.size v (ofP l) ∧ Below w.heap.size w w' := by
  have HL := Kp.mk h.len
  have H := Kp.mk h
  clear h
  go_enter Try.func30, Try.ntmps30
  go_wp2
  go_loopw [3, 8] (fun o i wr => ∃ (k : Nat) (A3 : Option Addr) (k3 c3 : Nat), k ≤ n ∧ i = .int .i64 k ∧ o = .slice A3 k3 c3 ∧ k3 ≤ k ∧ Kp ((ofR (l.take k)).length = k3) ∧ Kp (OwnP wr w.heap.size (.slice A3 k3 c3) (ofR (l.take k))) ∧ Kp (Below w.heap.size w wr)) (fun _ i _ => n - (intOf i).toNat)
  case atStart => exact ⟨0, none, 0, 0, by omega, rfl, rfl, by omega, ⟨rfl⟩, ⟨OwnP.nil _ _⟩, ⟨Below.refl _ _⟩⟩
  case round =>
    obtain ⟨k, A3, k3, c3, hk, rfl, rfl, hk3, HP, HO, HB⟩ := hrel
    by_cases hkn : k < n
    · have hd : decide ((k : Int) < (n : Int)) = true := by simp; omega
      obtain ⟨x, hx⟩ : ∃ x, l[k]? = some x := ⟨_, List.getElem?_eq_getElem (by rw [HL.it]; exact hkn)⟩
      obtain ⟨b1, o1, hA, hS1, hl1, f0, f1⟩ := (H.it.below HB.it).get hx
      cases hA
      have HU := Kp.mk (ofR_succ l hx)
      clear hx
      go_upto_region 5 with fail
      refine wp_on (fun wz => wz.heap[wr.heap.size]? = some (.cells #[.string x.1, .string x.2] 43 (0, 0)) ∧ Below wr.heap.size wr wz) (pr_new wr x) (fun w4 h4 => ?_)
      obtain ⟨h4, hb4⟩ := h4
      have g0 : w4.cell? ⟨wr.heap.size, 0, none⟩ = some (.string x.1) := blk_cell h4 rfl
      have g1 : w4.cell? ⟨wr.heap.size, 1, none⟩ = some (.string x.2) := blk_cell h4 rfl
      have hlt4 := (Array.getElem?_eq_some_iff.1 h4).1
      have HB4 := Kp.mk (HB.it.trans (hb4.mono HB.it.size))
      have O4 := Kp.mk (HO.it.below hb4)
      clear h4 hb4 f0 f1 HO HB
      obtain ⟨A5, c5, hv5, _, _, hr5⟩ := O4.it.form (by rw [HP.it]; omega)
      rw [HP.it] at hv5 hr5
      cases hv5
      have R5 := Kp.mk hr5
      clear hr5
      go_wp2_with fail
      go_at_call 52
      refine (with_any A3 k3 c3 _ x w4 _ R5.it (by omega)).mono ?_
      rintro e w6 ⟨v6, rfl, ho6, hb6⟩
      obtain ⟨m, hm⟩ : ∃ m, m = (withP (ofR (l.take k)) x).length := ⟨_, rfl⟩
      have hmk : m ≤ k3 + 1 := by rw [hm, ← HP.it]; exact withP_le _ _
      obtain ⟨A6, c6, hv6, _, _, _⟩ := ho6.form (by omega)
      rw [← hm] at hv6
      subst hv6
      have O6 : Kp (OwnP w6 w.heap.size (.slice A6 m c6) (ofR (l.take (k + 1)))) := ⟨by rw [HU.it]; exact ho6.relax HB4.it.size⟩
      have B6 := Kp.mk (HB4.it.trans (hb6.mono HB4.it.size))
      have M6 : Kp ((ofR (l.take (k + 1))).length = m) := ⟨by rw [HU.it, hm]⟩
      clear ho6 hb6 hm g0 g1 hlt4
      go_wp2
      go_roundw
      case rel => exact ⟨k + 1, A6, m, c6, by omega, by go_num, rfl, by omega, M6, O6, B6⟩
      case measure => simp [intOf]; omega
    · obtain rfl : k = n := by omega
      have hd : decide ((k : Int) < (k : Int)) = false := by simp
      rw [List.take_of_length_le (by rw [HL.it]; omega), ofR_eq] at HO
      go_wp2
      go_ret
      exact ⟨_, rfl, HO.it, HB.it⟩
end Go.Proofs.Ytcmkjoepndbicaa
