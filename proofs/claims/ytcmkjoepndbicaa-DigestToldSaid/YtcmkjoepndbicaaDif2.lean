/-
  diff: the walks.
-/
import Derived.Test.YtcmkjoepndbicaaDif
namespace Go.Proofs.Ytcmkjoepndbicaa
open Go Go.RowKit

theorem tr_zero {ka kb : BitVec 64} {S : Nat → Prop} {l : List Pr} {w : World} {b : Nat} (h : Tr ka kb S 0 l w b) : S b ∧ ∃ A n c, w.heap[b]? = some (.cells #[.int .u64 ((digU ka kb 0 l).toNat : Int), .slice none 0 0, .slice A n c] 111 (0, 0)) ∧ n ≤ c ∧ RP w S A n l := h
theorem Kt.of_drew {X : Nat} {o : Option Nat} {w w' : World} (h : ∃ q, w' = w.drewN q) : Kt X o w w' := by
  obtain ⟨q, rfl⟩ := h
  exact ⟨rfl, rfl, rfl, Nat.le_refl _, fun _ _ _ _ => rfl⟩
set_option maxRecDepth 100000 in
set_option maxHeartbeats 8000000 in
theorem diff_zero (ka kb : BitVec 64) : DiffOk ka kb 0 := by
  intro X a b la lb A3 k3 c3 out D P w ta tb ho hk ha hb hout hD hP
  obtain ⟨⟨haX, haO⟩, A1, n1, c1, h1, hc1, r1⟩ := tr_zero ta
  obtain ⟨⟨hbX, hbO⟩, A2, n2, c2, h2, hc2, r2⟩ := tr_zero tb
  have L1 := Kp.mk r1.len
  have L2 := Kp.mk r2.len
  have R1 := Kp.mk r1
  have R2 := Kp.mk r2
  have E1 := Kp.mk h1
  have E2 := Kp.mk h2
  have TK := Kp.mk hk
  have HO := Kp.mk ho
  have hn1 : n1 ≤ 1000 := by rw [← L1.it]; exact ha
  have hn2 : n2 ≤ 1000 := by rw [← L2.it]; exact hb
  have HP := Kp.mk hP
  have HL := Kp.mk hout
  have HS := Kp.mk (And.intro haX haO)
  have HSb := Kp.mk (And.intro hbX hbO)
  clear ta tb ho hk ha hb hout hD hP r1 r2 haX haO hbX hbO
  have a0 := blk_cell h1 (show (#[Value.int .u64 ((digU ka kb 0 la).toNat : Int), .slice none 0 0, .slice A1 n1 c1])[0]? = some _ from rfl)
  have a2 := blk_cell h1 (show (#[Value.int .u64 ((digU ka kb 0 la).toNat : Int), .slice none 0 0, .slice A1 n1 c1])[2]? = some _ from rfl)
  have b0 := blk_cell h2 (show (#[Value.int .u64 ((digU ka kb 0 lb).toNat : Int), .slice none 0 0, .slice A2 n2 c2])[0]? = some _ from rfl)
  have b2 := blk_cell h2 (show (#[Value.int .u64 ((digU ka kb 0 lb).toNat : Int), .slice none 0 0, .slice A2 n2 c2])[2]? = some _ from rfl)
  have hal := (Array.getElem?_eq_some_iff.1 h1).1
  have hbl := (Array.getElem?_eq_some_iff.1 h2).1
  clear h1 h2
  obtain ⟨U, hU⟩ : ∃ U, U = digU ka kb 0 la := ⟨_, rfl⟩
  obtain ⟨V, hV⟩ : ∃ V, V = digU ka kb 0 lb := ⟨_, rfl⟩
  rw [← hU] at a0 E1
  rw [← hV] at b0 E2
  have HU := Kp.mk hU
  have HV := Kp.mk hV
  clear hU hV
  by_cases he : U = V
  · subst he
    have HE : Kp (digU ka kb 0 la = digU ka kb 0 lb) := ⟨by rw [← HU.it, ← HV.it]⟩
    go_enter Try.func46, Try.ntmps46
    go_wp2
    go_quiet (fail)
    go_wp2
    go_ret
    refine ⟨_, rfl, ?_, ?_, .inl rfl, Kt.of_drew ⟨_, rfl⟩⟩
    · unfold difK
      rw [if_pos HE.it, List.append_nil]
      exact HO.it
    · unfold difD difP
      rw [if_pos HE.it]
      exact TK.it
  · have HE : Kp (¬ digU ka kb 0 la = digU ka kb 0 lb) := ⟨by rw [← HU.it, ← HV.it]; exact he⟩
    have hq : ((U.toNat : Int) == (V.toNat : Int)) = false := by
      rw [beq_eq_false_iff_ne]
      intro e
      exact he (BitVec.eq_of_toNat_eq (by omega))
    clear he
    obtain ⟨t0, t1, u0, u1, hXl⟩ := TK.it.opens
    go_enter Try.func46, Try.ntmps46
    go_wp2
    go_quiet (fail)
    go_wp2
    have hw2 : wrap64 ((P : Int) + ((n1 : Int) + (n2 : Int))) = ((P + (n1 + n2) : Nat) : Int) := by
      have := HP.it
      rw [wrap64_small _ (by omega) (by omega)]
      push_cast
      rfl
    go_region
    go_wp2_with fail
    refine wp_on (fun w1 => Tk D (P + (n1 + n2)) X w1 ∧ Kt X none w w1 ∧ OwnT w1 (X + 1) (.slice A3 k3 c3) out) ⟨blk_set (o := 1) _ TK.it, ⟨rfl, rfl, rfl, by rw [size_set]; exact Nat.le_refl _, fun b hb hne _ => other_block _ _ _ hne⟩, HO.it.far (by omega)⟩ (fun w1 hx => ?_)
    obtain ⟨g1, g2, g3⟩ := hx
    have TK1 := Kp.mk g1
    have K1 := Kp.mk g2
    have O1 := Kp.mk g3
    have SA : Kp (Same (fun q => q ≠ X ∧ (Value.slice A3 k3 c3).ownBlock ≠ some q) w w1) := ⟨g2.same (fun q hq => ⟨hq.1, by simp⟩)⟩
    have R1d : Kp (RP w1.drew (fun q => q ≠ X ∧ (Value.slice A3 k3 c3).ownBlock ≠ some q) A1 n1 la) := ⟨by have := R1.it.same SA.it; exact ⟨this.len, this.bd, this.row⟩⟩
    have R2d : Kp (RP w1.drew (fun q => q ≠ X ∧ (Value.slice A3 k3 c3).ownBlock ≠ some q) A2 n2 lb) := ⟨by have := R2.it.same SA.it; exact ⟨this.len, this.bd, this.row⟩⟩
    have F1 : w1.heap[a]? = some (.cells #[.int .u64 (U.toNat : Int), .slice none 0 0, .slice A1 n1 c1] 111 (0, 0)) := (g2.block a hal HS.it.1 (by simp)).trans E1.it
    have F2 : w1.heap[b]? = some (.cells #[.int .u64 (V.toNat : Int), .slice none 0 0, .slice A2 n2 c2] 111 (0, 0)) := (g2.block b hbl HSb.it.1 (by simp)).trans E2.it
    clear a0 a2 b0 b2 hal hbl t0 t1 u0 u1 hXl g1 g2 g3
    have a2 := blk_cell F1 (show (#[Value.int .u64 (U.toNat : Int), .slice none 0 0, .slice A1 n1 c1])[2]? = some _ from rfl)
    have b2 := blk_cell F2 (show (#[Value.int .u64 (V.toNat : Int), .slice none 0 0, .slice A2 n2 c2])[2]? = some _ from rfl)
    have hal := (Array.getElem?_eq_some_iff.1 F1).1
    have hbl := (Array.getElem?_eq_some_iff.1 F2).1
    clear F1 F2
    have HU1 : Kp ((unl la lb).length ≤ n1 + n2) := ⟨by have := unl_len la lb; rw [L1.it, L2.it] at this; exact this⟩
    have HN : Kp (out.length + (unl la lb).length ≤ 100000000) := ⟨by have h7 := HL.it; have h8 := HU1.it; omega⟩
    have HN2 : Kp ((unl la lb).length ≤ 100000000) := ⟨by have h8 := HU1.it; omega⟩
    have HXs : Kp (X + 1 ≤ w1.heap.size) := ⟨TK1.it.opens.2.2.2.2⟩
    go_region_law (first
      | (refine step_call rfl 72 #[.slice A1 n1 c1, .slice A2 n2 c2] (by simp [go_sem, Act.eval]) ?_; refine (unlike_any A1 A2 n1 c1 n2 c2 la lb _ _ _ R1d.it R2d.it hn1 hn2 hc1 hc2).mono ?_; rintro e w2 ⟨v2, rfl, ho2, hb2⟩; obtain ⟨A4, c4, rfl, hn4, _, hr4⟩ := ho2.form HN2.it; have B2 : Kp (Below w1.heap.size w1 w2) := ⟨⟨hb2.os, hb2.tape, hb2.output, hb2.size, hb2.block⟩⟩; have R4 := Kp.mk hr4; have N4 := Kp.mk hn4; have O2 := Kp.mk (O1.it.below B2.it); have Z2 : Kp (X + 1 ≤ w2.heap.size) := ⟨Nat.le_trans HXs.it B2.it.size⟩; clear ho2 hb2 hr4 hn4; refine ⟨_, rfl, ?_⟩)
      | (refine step_ts rfl (.tmp 44) (.tmp 53) rfl (X + 1) (.slice A3 k3 c3) out A4 _ c4 (unl la lb) rfl rfl O2.it R4.it N4.it Z2.it HN.it ?_; intro v5 w5 ho5 hg5 ha5; have O5 := Kp.mk ho5; have G5 := Kp.mk hg5; have A5 := Kp.mk ha5; clear ho5 hg5 ha5))
    all_goals
      change Exit.then _ (Exit.then _ _) Exit.normal (Act.put _ (some 10) _) _
      simp only [Act.put, List.setIfInBounds_toArray, List.set_cons_succ, List.set_cons_zero]
      go_wp2
      go_ret
      refine ⟨_, rfl, ?_, ?_, ?_, ?_⟩
      · unfold difK
        rw [if_neg HE.it]
        exact O5.it
      · unfold difD difP
        rw [if_neg HE.it, L1.it, L2.it, Nat.add_zero]
        exact keep_blk (TK1.it.below B2.it) G5.it (fun e => by have := (O2.it.lt X e).1; omega)
      · rcases A5.it with e | ⟨q, e, hq⟩
        · exact .inl e
        · exact .inr ⟨q, e, Nat.le_trans (Nat.le_trans K1.it.size B2.it.size) hq⟩
      · exact ⟨G5.it.os.trans (B2.it.os.trans K1.it.os), G5.it.tape.trans (B2.it.tape.trans K1.it.tape), G5.it.output.trans (B2.it.output.trans K1.it.output), Nat.le_trans (Nat.le_trans K1.it.size B2.it.size) G5.it.size, fun q hq hne ho => (G5.it.block q (Nat.lt_of_lt_of_le hq (Nat.le_trans K1.it.size B2.it.size)) (fun e => ho e.symm)).trans ((B2.it.block q (Nat.lt_of_lt_of_le hq K1.it.size)).trans (K1.it.block q hq hne (by simp)))⟩
/-- A tree goes on lying there. -/
theorem diff_keep {ka kb : BitVec 64} {X : Nat} {o o' : Option Nat} {w w' : World} (hk : Kt X o w w') (ho : o' = o ∨ ∃ q, o' = some q ∧ w.heap.size ≤ q) {f : Nat} {l : List Pr} {b : Nat} (h : Tr ka kb (fun q => q ≠ X ∧ o ≠ some q) f l w b) : Tr ka kb (fun q => q ≠ X ∧ o' ≠ some q) f l w' b := by
  have h1 := Tr.relax (S' := fun q => (q ≠ X ∧ o ≠ some q) ∧ (q ≠ X ∧ o' ≠ some q)) (fun q hq hl => ⟨hq, hq.1, fun e => by
    rcases ho with h | ⟨p, h, hp⟩
    · rw [h] at e; exact hq.2 e
    · rw [h] at e; injection e; omega⟩) f h
  exact Tr.relax (fun q hq _ => hq.2) f (Tr.same (hk.same (fun q hq => hq.1)) f h1)
theorem Kt.trans {X : Nat} {o o' : Option Nat} {a b c : World} (h : Kt X o a b) (k : Kt X o' b c) (ho : o' = o ∨ ∃ q, o' = some q ∧ a.heap.size ≤ q) : Kt X o a c :=
  ⟨k.os.trans h.os, k.tape.trans h.tape, k.output.trans h.output, Nat.le_trans h.size k.size, fun q hq hne hoq => (k.block q (Nat.lt_of_lt_of_le hq h.size) hne (fun e => by
    rcases ho with h | ⟨p, h, hp⟩
    · rw [h] at e; exact hoq e
    · rw [h] at e; injection e; omega)).trans (h.block q hq hne hoq)⟩
theorem Kt.of_below {X : Nat} {o : Option Nat} {a b : World} (h : Below a.heap.size a b) : Kt X o a b := ⟨h.os, h.tape, h.output, h.size, fun q hq _ _ => h.block q hq⟩
theorem tr_succ {ka kb : BitVec 64} {S : Nat → Prop} {f : Nat} {l : List Pr} {w : World} {b : Nat} (h : Tr ka kb S (f + 1) l w b) : S b ∧ ∃ A n c, w.heap[b]? = some (.cells #[.int .u64 ((digU ka kb (f + 1) l).toNat : Int), .slice A n c, .slice none 0 0] 111 (0, 0)) ∧
      ((l = [] ∧ n = 0) ∨ (l ≠ [] ∧ n = 16 ∧ ∃ g, A = some ⟨g, 0, none⟩ ∧ S g ∧ g < w.heap.size ∧ ∀ i, i < 16 → ∃ k, w.cell? ⟨g, i, none⟩ = some (.pointer (some ⟨k, 0, none⟩)) ∧ Tr ka kb S f (kid ka kb (3 - f) i l) w k)) := h
end Go.Proofs.Ytcmkjoepndbicaa
