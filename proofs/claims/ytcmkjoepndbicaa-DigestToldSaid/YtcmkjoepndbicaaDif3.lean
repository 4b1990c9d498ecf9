/-
  diff above the bottom.
-/
import Derived.Test.YtcmkjoepndbicaaDif2
namespace Go.Proofs.Ytcmkjoepndbicaa
open Go Go.RowKit

def KJ (ka kb : BitVec 64) (f : Nat) (la lb : List Pr) (j : Nat) : List ByteArray := (List.range j).flatMap fun i => difK ka kb f (kid ka kb (3 - f) i la) (kid ka kb (3 - f) i lb)
def DJ (ka kb : BitVec 64) (f : Nat) (la lb : List Pr) (j : Nat) : Nat := ((List.range j).map fun i => difD ka kb f (kid ka kb (3 - f) i la) (kid ka kb (3 - f) i lb)).sum
def PJ (ka kb : BitVec 64) (f : Nat) (la lb : List Pr) (j : Nat) : Nat := ((List.range j).map fun i => difP ka kb f (kid ka kb (3 - f) i la) (kid ka kb (3 - f) i lb)).sum
theorem KJ_succ (ka kb : BitVec 64) (f : Nat) (la lb : List Pr) (j : Nat) : KJ ka kb f la lb (j + 1) = KJ ka kb f la lb j ++ difK ka kb f (kid ka kb (3 - f) j la) (kid ka kb (3 - f) j lb) := by
  unfold KJ; rw [List.range_succ, List.flatMap_append]; simp
theorem DJ_succ (ka kb : BitVec 64) (f : Nat) (la lb : List Pr) (j : Nat) : DJ ka kb f la lb (j + 1) = DJ ka kb f la lb j + difD ka kb f (kid ka kb (3 - f) j la) (kid ka kb (3 - f) j lb) := by
  unfold DJ; rw [List.range_succ, List.map_append, List.sum_append]; simp
theorem PJ_succ (ka kb : BitVec 64) (f : Nat) (la lb : List Pr) (j : Nat) : PJ ka kb f la lb (j + 1) = PJ ka kb f la lb j + difP ka kb f (kid ka kb (3 - f) j la) (kid ka kb (3 - f) j lb) := by
  unfold PJ; rw [List.range_succ, List.map_append, List.sum_append]; simp
theorem J_le (ka kb : BitVec 64) (f : Nat) (hf : f ≤ 3) (la lb : List Pr) (h1 : la.length ≤ 1000) (h2 : lb.length ≤ 1000) (j : Nat) (hj : j ≤ 16) : (KJ ka kb f la lb j).length ≤ 32000 ∧ DJ ka kb f la lb j ≤ 10000000 ∧ PJ ka kb f la lb j ≤ 32000 := by
  refine ⟨?_, ?_, ?_⟩
  · unfold KJ
    rw [List.length_flatMap]
    have := sum_const (List.range j) (fun i => (difK ka kb f (kid ka kb (3 - f) i la) (kid ka kb (3 - f) i lb)).length) 2000 (fun i _ => by
      have := difK_le ka kb f (kid ka kb (3 - f) i la) (kid ka kb (3 - f) i lb)
      have := kid_le ka kb (3 - f) i la
      have := kid_le ka kb (3 - f) i lb
      omega)
    rw [List.length_range] at this
    omega
  · unfold DJ
    have := sum_const (List.range j) (fun i => difD ka kb f (kid ka kb (3 - f) i la) (kid ka kb (3 - f) i lb)) 131072 (fun i _ => by
      have := difD_le ka kb f (kid ka kb (3 - f) i la) (kid ka kb (3 - f) i lb)
      have h3 : 16 ^ (f + 1) ≤ 16 ^ 4 := Nat.pow_le_pow_right (by omega) (by omega)
      omega)
    rw [List.length_range] at this
    omega
  · unfold PJ
    have := sum_const (List.range j) (fun i => difP ka kb f (kid ka kb (3 - f) i la) (kid ka kb (3 - f) i lb)) 2000 (fun i _ => by
      have := difP_le ka kb f (kid ka kb (3 - f) i la) (kid ka kb (3 - f) i lb)
      have := kid_le ka kb (3 - f) i la
      have := kid_le ka kb (3 - f) i lb
      omega)
    rw [List.length_range] at this
    omega
/-- The j-th kid, or an empty part in its place. -/
theorem kid_at {ka kb : BitVec 64} {S : Nat → Prop} {f j a E : Nat} {l : List Pr} {w w4 : World} (T : Tr ka kb S (f + 1) l w a) (hb : Below w.heap.size w w4) (he : w4.heap[E]? = some (.cells #[.int .u64 0, .slice none 0 0, .slice none 0 0] 111 (0, 0))) (hE : S E) (hj : j < 16) :
    ∃ A n c px, w4.cell? ⟨a, 1, none⟩ = some (.slice A n c) ∧ a < w4.heap.size ∧ Tr ka kb S f (kid ka kb (3 - f) j l) w4 px ∧
      ((n = 0 ∧ px = E) ∨ (n = 16 ∧ ∃ g, A = some ⟨g, 0, none⟩ ∧ g < w4.heap.size ∧ w4.cell? ⟨g, j, none⟩ = some (.pointer (some ⟨px, 0, none⟩)))) := by
  obtain ⟨_, A, n, c, h, hr⟩ := tr_succ (T.below hb)
  rcases hr with ⟨rfl, rfl⟩ | ⟨_, rfl, g, e, _, hg, hk⟩
  · exact ⟨A, 0, c, E, blk_cell h rfl, (Array.getElem?_eq_some_iff.1 h).1, tr_nil ka kb f S hE he, .inl ⟨rfl, rfl⟩⟩
  · obtain ⟨k, hc, ht⟩ := hk j hj
    exact ⟨A, 16, c, k, blk_cell h rfl, (Array.getElem?_eq_some_iff.1 h).1, ht, .inr ⟨rfl, g, e, hg, hc⟩⟩
set_option maxRecDepth 100000 in
set_option maxHeartbeats 8000000 in
theorem diff_succ (ka kb : BitVec 64) (f : Nat) (hf : f ≤ 3) (ih : DiffOk ka kb f) : DiffOk ka kb (f + 1) := by
  intro X a b la lb A3 k3 c3 out D P w ta tb ho hk ha hb hout hD hP
  have IH := Kp.mk ih
  have TA := Kp.mk ta
  have TB := Kp.mk tb
  have TK := Kp.mk hk
  have HO := Kp.mk ho
  have HA := Kp.mk ha
  have HBn := Kp.mk hb
  have HOu := Kp.mk hout
  have HD := Kp.mk hD
  have HPb := Kp.mk hP
  have hD9 : D ≤ 900000000 := by omega
  clear hout hD hP ih ta tb hk ho ha hb
  obtain ⟨hal, a0⟩ := TA.it.sum
  obtain ⟨hbl, b0⟩ := TB.it.sum
  obtain ⟨at_, hat⟩ : ∃ a, a = 4 - (f + 1) := ⟨_, rfl⟩
  have hat3 : at_ ≤ 3 := by omega
  have HAF : Kp (4 - f = at_ + 1) := ⟨by omega⟩
  rw [← hat]
  clear hat
  have hq4 : ((at_ : Int) == 4) = false := by rw [beq_eq_false_iff_ne]; omega
  obtain ⟨U, hU⟩ : ∃ U, U = digU ka kb (f + 1) la := ⟨_, rfl⟩
  obtain ⟨V, hV⟩ : ∃ V, V = digU ka kb (f + 1) lb := ⟨_, rfl⟩
  rw [← hU] at a0
  rw [← hV] at b0
  have HU := Kp.mk hU
  have HV := Kp.mk hV
  clear hU hV
  by_cases he : U = V
  · subst he
    have HE : Kp (digU ka kb (f + 1) la = digU ka kb (f + 1) lb) := ⟨by rw [← HU.it, ← HV.it]⟩
    go_enter Try.func46, Try.ntmps46
    go_wp2
    go_quiet (fail)
    go_wp2
    go_ret
    refine ⟨_, rfl, ?_, ?_, .inl rfl, Kt.of_drew ⟨_, rfl⟩⟩
    · unfold difK
      rw [if_pos HE.it, List.append_nil]
      exact HO.it
    · unfold difD difP
      rw [if_pos HE.it, if_pos HE.it]
      exact TK.it
  · have HE : Kp (¬ digU ka kb (f + 1) la = digU ka kb (f + 1) lb) := ⟨by rw [← HU.it, ← HV.it]; exact he⟩
    have hq : ((U.toNat : Int) == (V.toNat : Int)) = false := by
      rw [beq_eq_false_iff_ne]
      intro e
      exact he (BitVec.eq_of_toNat_eq (by omega))
    clear he
    obtain ⟨t0, t1, u0, u1, hXl⟩ := TK.it.opens
    go_enter Try.func46, Try.ntmps46
    go_wp2
    go_quiet (fail)
    go_wp2
    go_loopw [4, 62] (fun o i wr => ∃ (j : Nat) (A5 : Option Addr) (k5 c5 : Nat) (out5 : List ByteArray) (D5 P5 : Nat), j ≤ 16 ∧ i = .int .i64 j ∧ o = .slice A5 k5 c5 ∧ Kp (out5 = out ++ KJ ka kb f la lb j) ∧ Kp (D5 = D + (16 + DJ ka kb f la lb j)) ∧ Kp (P5 = P + PJ ka kb f la lb j) ∧ Kp (OwnT wr (X + 1) (.slice A5 k5 c5) out5) ∧ Kp (Tk D5 P5 X wr) ∧
        Kp ((Value.slice A5 k5 c5).ownBlock = (Value.slice A3 k3 c3).ownBlock ∨ ∃ q, (Value.slice A5 k5 c5).ownBlock = some q ∧ w.heap.size ≤ q) ∧ Kp (Kt X (Value.slice A3 k3 c3).ownBlock w wr)) (fun _ i _ => 16 - (intOf i).toNat)
    case atStart =>
      refine ⟨0, A3, k3, c3, out, D + 16, P, by omega, rfl, rfl, ⟨by simp [KJ]⟩, ⟨by simp [DJ]⟩, ⟨by simp [PJ]⟩, ⟨HO.it.far (by omega)⟩, ⟨?_⟩, ⟨.inl rfl⟩, ⟨⟨rfl, rfl, rfl, by rw [size_set]; exact Nat.le_refl _, fun q hq hne _ => other_block _ _ _ hne⟩⟩⟩
      exact blk_set (o := 0) _ TK.it
    case round =>
      clear a0 b0 hal hbl t0 t1 u0 u1 hXl
      obtain ⟨j, A5, k5, c5, out5, D5, P5, hj, rfl, rfl, HO5, HD5, HP5, O5, TK5, RL5, KT5⟩ := hrel
      by_cases hj16 : j < 16
      · have hd6 : decide ((j : Int) < 16) = true := by simp; omega
        have hjz : (j : Int) < ((16 : Nat) : Int) := by omega
        have h00 : decide ((0 : Int) < ((0 : Nat) : Int)) = false := by decide
        have h016 : decide ((0 : Int) < ((16 : Nat) : Int)) = true := by decide
        have TA5 := Kp.mk (diff_keep KT5.it RL5.it TA.it)
        have TB5 := Kp.mk (diff_keep KT5.it RL5.it TB.it)
        go_upto_region 11 with fail
        refine wp_on (fun wz => wz.heap[wr.heap.size]? = some (.cells #[.int .u64 0, .slice none 0 0, .slice none 0 0] 111 (0, 0)) ∧ wz.heap[wr.heap.size + 1]? = some (.cells #[.int .u64 0, .slice none 0 0, .slice none 0 0] 111 (0, 0)) ∧ Below wr.heap.size wr wz) ⟨blk_old _ (blk_new _ _), blk_new1 _ _ _, ((Below.refl wr.heap.size wr).alloc (Nat.le_refl _) _).alloc (by simp) _⟩ (fun w4 h4 => ?_)
        obtain ⟨e1, e2, hb4⟩ := h4
        have hXw : X < wr.heap.size := TK5.it.opens.2.2.2.2
        obtain ⟨A1, n1, c1, px, a1, hal, tx, hx⟩ := kid_at TA5.it hb4 e1 ⟨by omega, fun e => by have := (O5.it.lt _ e).2; omega⟩ hj16
        obtain ⟨A2, n2, c2, py, b1, hbl, ty, hy⟩ := kid_at TB5.it hb4 e2 ⟨by omega, fun e => by have := (O5.it.lt _ e).2; omega⟩ hj16
        have B4 := Kp.mk hb4
        have TX := Kp.mk tx
        have TY := Kp.mk ty
        have O4 := Kp.mk (O5.it.below hb4)
        have TK4 := Kp.mk (TK5.it.below hb4)
        clear e1 e2 hb4 tx ty hXw
        obtain ⟨q1, q2, q3⟩ := J_le ka kb f hf la lb HA.it HBn.it j (by omega)
        have HC : Kp (Calls Try.prog 46 #[.pointer (some ⟨px, 0, none⟩), .pointer (some ⟨py, 0, none⟩), .int .i64 ((at_ : Int) + 1), .pointer (some ⟨X, 0, none⟩), .slice A5 k5 c5] w4 fun e w' =>
            ∃ v, e = .returned v ∧ OwnT w' (X + 1) v (out5 ++ difK ka kb f (kid ka kb (3 - f) j la) (kid ka kb (3 - f) j lb)) ∧ Tk (D5 + difD ka kb f (kid ka kb (3 - f) j la) (kid ka kb (3 - f) j lb)) (P5 + difP ka kb f (kid ka kb (3 - f) j la) (kid ka kb (3 - f) j lb)) X w' ∧ (v.ownBlock = (Value.slice A5 k5 c5).ownBlock ∨ ∃ q, v.ownBlock = some q ∧ w4.heap.size ≤ q) ∧ Kt X (Value.slice A5 k5 c5).ownBlock w4 w') := ⟨by
          have := IH.it X px py _ _ A5 k5 c5 out5 D5 P5 w4 TX.it TY.it O4.it TK4.it (Nat.le_trans (kid_le ka kb _ _ _) HA.it) (Nat.le_trans (kid_le ka kb _ _ _) HBn.it) (by rw [HO5.it, List.length_append]; have := HOu.it; omega) (by rw [HD5.it]; have := HD.it; omega) (by rw [HP5.it]; have := HPb.it; omega)
          rw [HAF.it, show ((at_ + 1 : Nat) : Int) = (at_ : Int) + 1 by omega] at this
          exact this⟩
        clear q1 q2 q3
        rcases hx with ⟨rfl, rfl⟩ | ⟨rfl, g1, rfl, hg1, hc1⟩ <;> rcases hy with ⟨rfl, rfl⟩ | ⟨rfl, g2, rfl, hg2, hc2⟩
        all_goals
          go_wp2_with fail
          go_at_call 46
          refine HC.it.mono ?_
          rintro e w6 ⟨v6, rfl, ho6, hk6, hr6, ht6⟩
          obtain ⟨ou, hou⟩ : ∃ o, o = out5 ++ difK ka kb f (kid ka kb (3 - f) j la) (kid ka kb (3 - f) j lb) := ⟨_, rfl⟩
          obtain ⟨D6, hD6⟩ : ∃ d, d = D5 + difD ka kb f (kid ka kb (3 - f) j la) (kid ka kb (3 - f) j lb) := ⟨_, rfl⟩
          obtain ⟨P6, hP6⟩ : ∃ d, d = P5 + difP ka kb f (kid ka kb (3 - f) j la) (kid ka kb (3 - f) j lb) := ⟨_, rfl⟩
          rw [← hou] at ho6
          rw [← hD6, ← hP6] at hk6
          have HOU : Kp (ou = out ++ KJ ka kb f la lb (j + 1)) := ⟨by rw [hou, HO5.it, List.append_assoc, ← KJ_succ]⟩
          have HD6 : Kp (D6 = D + (16 + DJ ka kb f la lb (j + 1))) := ⟨by rw [hD6, HD5.it, DJ_succ]; omega⟩
          have HP6 : Kp (P6 = P + PJ ka kb f la lb (j + 1)) := ⟨by rw [hP6, HP5.it, PJ_succ]; omega⟩
          clear hou hD6 hP6
          obtain ⟨A6, c6, hv6, _, _, _⟩ := ho6.form (by rw [HOU.it, List.length_append]; have := (J_le ka kb f hf la lb HA.it HBn.it (j + 1) (by omega)).1; have := HOu.it; omega)
          obtain ⟨k6, hkk6⟩ : ∃ k, k = ou.length := ⟨_, rfl⟩
          rw [← hkk6] at hv6
          clear hkk6
          subst hv6
          have O6 := Kp.mk ho6
          have TK6 := Kp.mk hk6
          have RL6 : Kp ((Value.slice A6 k6 c6).ownBlock = (Value.slice A3 k3 c3).ownBlock ∨ ∃ q, (Value.slice A6 k6 c6).ownBlock = some q ∧ w.heap.size ≤ q) := ⟨by
            rcases hr6 with e | ⟨q, e, hq⟩
            · rw [e]; exact RL5.it
            · exact .inr ⟨q, e, Nat.le_trans (Nat.le_trans KT5.it.size B4.it.size) hq⟩⟩
          have KT6 : Kp (Kt X (Value.slice A3 k3 c3).ownBlock w w6) := ⟨(KT5.it.trans (Kt.of_below (X := X) (o := (Value.slice A3 k3 c3).ownBlock) B4.it) (.inl rfl)).trans ht6 RL5.it⟩
          clear ho6 hk6 hr6 ht6
          go_wp2
          go_roundw
          case rel => exact ⟨j + 1, A6, k6, c6, ou, D6, P6, by omega, by go_num, rfl, HOU, HD6, HP6, O6, TK6, RL6, KT6⟩
          case measure => simp [intOf]; omega
      · obtain rfl : j = 16 := by omega
        have hd6 : decide (((16 : Nat) : Int) < 16) = false := by decide
        go_wp2
        go_ret
        refine ⟨_, rfl, ?_, ?_, RL5.it, KT5.it⟩
        · show OwnT _ _ _ (out ++ if digU ka kb (f + 1) la = digU ka kb (f + 1) lb then [] else _)
          rw [if_neg HE.it]
          have := O5.it
          rw [HO5.it] at this
          exact this
        · show Tk (D + if digU ka kb (f + 1) la = digU ka kb (f + 1) lb then 0 else _) (P + if digU ka kb (f + 1) la = digU ka kb (f + 1) lb then 0 else _) X _
          rw [if_neg HE.it, if_neg HE.it]
          have := TK5.it
          rw [HD5.it, HP5.it] at this
          exact this
theorem diff_any (ka kb : BitVec 64) : ∀ f, f ≤ 4 → DiffOk ka kb f
  | 0, _ => diff_zero ka kb
  | f + 1, h => diff_succ ka kb f (by omega) (diff_any ka kb f (by omega))
end Go.Proofs.Ytcmkjoepndbicaa
