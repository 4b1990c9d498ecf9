/-
  Whether several lists are short; a map given anew; values of drawn regions that look at a block made there.
-/
import Derived.Test.YtcmkjoepndbicaaCnt
import Derived.Test.YtcmkjoepndbicaaRgo
namespace Go.Proofs.Ytcmkjoepndbicaa
open Go Go.RowKit

/-- What short tells of several lists. -/
def ShortN (K : Nat) (l : Nat → List Pr) (w : World) (e : Ending) (w' : World) : Prop := ∃ r, e = .returned (.bool r) ∧ (r = true → ∀ k, k < K → okL (l k)) ∧ Below w.heap.size w w'
set_option linter.unusedVariables false in
set_option maxHeartbeats 4000000 in
theorem short_any (B K : Nat) (A : Nat → Option Addr) (n c : Nat → Nat) (l : Nat → List Pr) (w : World) (S : Nat → Prop) (hK : K ≤ 1000) (h : ∀ k, k < K → RP w S (A k) (n k) (l k)) (hB : ∀ k, k < K → w.cell? ⟨B, k, none⟩ = some (.slice (A k) (n k) (c k))) (hBl : B < w.heap.size) :
    Calls Try.prog 11 #[.slice (some ⟨B, 0, none⟩) K K] w fun e w' => ShortN K l w e w' := by
  have H := Kp.mk h
  have HB := Kp.mk hB
  have HBl := Kp.mk hBl
  clear h hB hBl
  go_enter Try.func11, Try.ntmps11
  go_wp2
  go_loopw [3, 10] (fun s i wr => ∃ (k : Nat) (t : Nat), k ≤ K ∧ i = .int .i64 k ∧ s = .int .i64 t ∧ t ≤ 8192 ∧ Kp (∀ q, q < k → okL (l q)) ∧ Kp (Below w.heap.size w wr)) (fun _ i _ => K - (intOf i).toNat)
  case atStart => exact ⟨0, 0, by omega, rfl, rfl, by omega, ⟨fun q h => by omega⟩, ⟨Below.refl _ _⟩⟩
  case round =>
    obtain ⟨k, t, hk, rfl, rfl, ht, HOK, HBw⟩ := hrel
    by_cases hk0 : k < K
    · have hd : decide ((k : Int) < (K : Int)) = true := by simp; omega
      have hkz : (k : Int) < (K : Int) := by omega
      have z0 := (HBw.it.cell (p := ⟨B, k, none⟩) HBl.it).trans (HB.it k hk0)
      have hBl : B < wr.heap.size := Nat.lt_of_lt_of_le HBl.it HBw.it.size
      have hr := H.it k hk0
      obtain ⟨lk, hlk⟩ : ∃ x, x = l k := ⟨_, rfl⟩
      have HLK := Kp.mk hlk
      rw [← hlk] at hr
      clear hlk
      generalize A k = Ak at z0 hr
      generalize n k = nk at z0 hr
      generalize c k = ck at z0
      have HR := Kp.mk hr
      have hbd := hr.bd
      have HL := Kp.mk hr.len
      clear hr
      by_cases hn : 60 < nk
      · have hd2 : decide ((60 : Int) < (nk : Int)) = true := by simp; omega
        go_wp2
        go_ret
        exact ⟨false, rfl, (fun h => by cases h), HBw.it⟩
      · have hd2 : decide ((60 : Int) < (nk : Int)) = false := by rw [decide_eq_false_iff_not]; omega
        obtain ⟨wo, rfl⟩ : ∃ wo : World, wo = wr := ⟨_, rfl⟩
        go_wp2
        go_loopw [3, 19] (fun s i wx => ∃ (j : Nat) (t : Nat), j ≤ nk ∧ i = .int .i64 j ∧ s = .int .i64 t ∧ t ≤ 8192 ∧ Kp (∀ q p, q < j → lk[q]? = some p → min p.1.size 8192 + min p.2.size 8192 ≤ 8192) ∧ Kp (Below w.heap.size w wx)) (fun _ i _ => nk - (intOf i).toNat)
        case atStart => exact ⟨0, t, by omega, rfl, rfl, ht, ⟨fun q p hq => by omega⟩, HBw⟩
        case round =>
          clear HBw z0 hBl ht
          obtain ⟨j, t, hj, rfl, rfl, ht, HQ, HBw⟩ := hrel
          by_cases hjn : j < nk
          · have hd3 : decide ((j : Int) < (nk : Int)) = true := by simp; omega
            obtain ⟨x, hx⟩ : ∃ x, lk[j]? = some x := ⟨_, List.getElem?_eq_getElem (by rw [HL.it]; exact hjn)⟩
            obtain ⟨b1, o1, hA, _, hl1, f0, f1⟩ := (HR.it.same (Same.of_below HBw.it S)).get hx
            cases hA
            obtain ⟨m1, hm1⟩ : ∃ m, m = min x.1.size 8192 := ⟨_, rfl⟩
            obtain ⟨m2, hm2⟩ : ∃ m, m = min x.2.size 8192 := ⟨_, rfl⟩
            have M1 : min ((x.1.size : Nat) : Int) 8192 = (m1 : Int) := by omega
            have M2 : min ((x.2.size : Nat) : Int) 8192 = (m2 : Int) := by omega
            have hb1 : m1 ≤ 8192 := by omega
            have hb2 : m2 ≤ 8192 := by omega
            have HX := Kp.mk hx
            have HS1 : Kp (m1 = min x.1.size 8192 ∧ m2 = min x.2.size 8192) := ⟨hm1, hm2⟩
            clear hx hm1 hm2
            go_upto_region 10 with fail
            refine wp_on (fun wz => wz.heap[wr.heap.size]? = some (.cells #[.string x.1, .string x.2] 43 (0, 0)) ∧ Below wr.heap.size wr wz) (pr_new wr x) (fun w4 h4 => ?_)
            obtain ⟨h4, hb4⟩ := h4
            have g0 : w4.cell? ⟨wr.heap.size, 0, none⟩ = some (.string x.1) := blk_cell h4 rfl
            have g1 : w4.cell? ⟨wr.heap.size, 1, none⟩ = some (.string x.2) := blk_cell h4 rfl
            have hlt4 := (Array.getElem?_eq_some_iff.1 h4).1
            have HB4 := Kp.mk (HBw.it.trans (hb4.mono HBw.it.size))
            clear h4 hb4 f0 f1
            by_cases hov : t + (m1 + m2) ≤ 8192
            · have hd4 : decide ((8192 : Int) < (t : Int) + ((m1 : Int) + (m2 : Int))) = false := by rw [decide_eq_false_iff_not]; omega
              go_wp2
              go_roundw
              case rel => exact ⟨j + 1, t + (m1 + m2), by omega, by go_num, by go_num, hov, ⟨fun q p hq hp => by
                rcases Nat.lt_succ_iff_lt_or_eq.1 hq with h | rfl
                · exact HQ.it q p h hp
                · rw [HX.it] at hp
                  cases hp
                  have := HS1.it
                  omega⟩, HB4⟩
              case measure => simp [intOf]; omega
            · have hd4 : decide ((8192 : Int) < (t : Int) + ((m1 : Int) + (m2 : Int))) = true := by simp; omega
              go_wp2
              go_ret
              exact ⟨false, rfl, (fun h => by cases h), HB4.it⟩
          · obtain rfl : j = nk := by omega
            have hd3 : decide ((j : Int) < (j : Int)) = false := by simp
            go_wp2
            go_roundw
            case rel => exact ⟨k + 1, t, by omega, by go_num, rfl, ht, ⟨fun q hq => by
              rcases Nat.lt_succ_iff_lt_or_eq.1 hq with h | rfl
              · exact HOK.it q h
              · rw [← HLK.it]
                exact ⟨by rw [HL.it]; omega, fun p hp => by
                  obtain ⟨q, hq⟩ := List.getElem?_of_mem hp
                  exact HQ.it q p (by have := (List.getElem?_eq_some_iff.1 hq).1; rw [HL.it] at this; exact this) hq⟩⟩, HBw⟩
            case measure => simp [intOf]; omega
    · obtain rfl : k = K := by omega
      have hd : decide ((k : Int) < (k : Int)) = false := by simp
      go_wp2
      go_ret
      exact ⟨true, rfl, (fun _ => HOK.it), HBw.it⟩
theorem ofU_self (l : List Pr) (h : (keysP l).Nodup) : ofU l = l := by
  have : ∀ k, k ≤ l.length → ofU (l.take k) = l.take k := by
    intro k
    induction k with
    | zero => intro _; simp [ofU]
    | succ k ih =>
      intro hk
      have hx : l[k]? = some l[k] := List.getElem?_eq_getElem (by omega)
      rw [ofU_succ l hx, ih (by omega), List.take_add_one, hx]
      unfold putP
      rw [if_neg]
      · rfl
      · intro hm
        obtain ⟨j, hj, e⟩ := List.getElem_of_mem hm
        unfold keysP at hj e
        rw [List.length_map, List.length_take] at hj
        rw [List.getElem_map, List.getElem_take] at e
        have h5 := List.pairwise_iff_getElem.1 h j k (by unfold keysP; rw [List.length_map]; omega) (by unfold keysP; rw [List.length_map]; omega) (by omega)
        unfold keysP at h5
        rw [List.getElem_map, List.getElem_map] at h5
        exact h5 e
  have h2 := this l.length (Nat.le_refl _)
  rwa [List.take_length] at h2
/-- A map given anew in another order is the same. -/
theorem ofP_again {l l' : List Pr} (h : l'.Perm (ofP l)) : ofP l' = ofP l := by
  have hn : (keysP l').Nodup := nodup_perm h.symm (ofP_nodup l)
  have e : ofP l' = l'.mergeSort leP := by unfold ofP; rw [ofU_self l' hn]
  rw [e]
  exact rise_eq (rise_of (leP_sorted _) (nodup_perm (List.mergeSort_perm _ _).symm hn)) (ofP_rise l) ((List.mergeSort_perm _ _).trans h)
theorem difK_same (ka kb : BitVec 64) (f : Nat) (l : List Pr) : difK ka kb f l l = [] := by cases f <;> simp [difK]
theorem difD_same (ka kb : BitVec 64) (f : Nat) (l : List Pr) : difD ka kb f l l = 0 := by cases f <;> simp [difD]
theorem difP_same (ka kb : BitVec 64) (f : Nat) (l : List Pr) : difP ka kb f l l = 0 := by cases f <;> simp [difP]
theorem sortS_nil : sortS [] = [] := by unfold sortS; simp
/-- append of pairs to a row, as it runs. -/
theorem run_ls {W : World} (base : Nat) (v : Value) (l : List Pr) (S : Nat → Prop) (A : Option Addr) (n c : Nat) (ys : List Pr) (ty : TypeId)
    (HO : OwnP W base v l) (HR : RP W S A n ys) (hnil : A = none → c = 0) (hbase : base ≤ W.heap.size) (hl : l.length + ys.length ≤ 100000) :
    ∃ v1 w1, (Builtin.append_ #[54, 54] ty #[v, .slice A n c]).run Try.prog W = .ok v1 w1 ∧ OwnP w1 base v1 (l ++ ys) ∧ W.grownBy w1 v.ownBlock := by
  obtain ⟨i0, hi, hz0, hz1, hz2⟩ := info_parts Try.info43'
  have hyl := HR.len
  cases A with
  | none =>
    obtain rfl := hnil rfl
    have hn : n = 0 := by
      rcases Nat.eq_zero_or_pos n with h0 | h0
      · exact h0
      · obtain ⟨b, o', e, _⟩ := HR.row h0
        cases e
    subst hn
    have hy : ys = [] := List.eq_nil_of_length_eq_zero hyl
    subst hy
    exact ⟨v, W, run_append_owned_none (P := Try.prog) (w := W) base 54 ty 43 i0 2 Try.underlying54 hi v l.length _ HO, by simpa using HO, World.grownBy.refl _ _⟩
  | some ad =>
    obtain ⟨v1, w1, hr, h2, h3, _, _⟩ := run_append_own_at (P := Try.prog) W base 54 ty 43 i0 _ 2 32 Try.underlying54 hi hz0 hz1 hz2 rfl (by omega) v l.length _ HO ad n c (pvs ys) (by rw [pvs_len, hyl]) (fun j u hj => by
      obtain ⟨i, y, hy, hc⟩ := pvs_at hj
      obtain ⟨b, o', e, _, hlt, c1, c2⟩ := HR.get hy
      cases e
      rw [add_plain]
      rcases hc with ⟨rfl, rfl⟩ | ⟨rfl, rfl⟩
      · exact c1
      · rw [← Nat.add_assoc]; exact c2) (pvs_one ys) (by unfold maxLen; omega) (by omega) hbase
    refine ⟨v1, w1, hr, ?_, h3⟩
    unfold OwnP
    rw [List.length_append, pvs_app, hyl]
    exact h2
/-- What is told of a value beside the value that made a block. -/
structure SpO where
  p : Value → Value → World → Prop
  mono : ∀ u v w w', Gr w w' → p u v w → p u v w'
  switch : ∀ u0 u x w w', ownOf u0 = none → Gr w w' → (∀ b, ownOf u = some b → w.heap.size ≤ b) → p u0 x w → p u x w'
  keep : ∀ u x w w', w.grownBy w' (ownOf u) → p u x w → p u x w'
def SpO.ex (c : Value) : SpO := ⟨fun _ v _ => v = c, fun _ _ _ _ _ h => h, fun _ _ _ _ _ _ _ _ h => h, fun _ _ _ _ _ h => h⟩
def SpO.any : SpO := ⟨fun _ _ _ => True, fun _ _ _ _ _ h => h, fun _ _ _ _ _ _ _ _ h => h, fun _ _ _ _ _ h => h⟩
/-- A tree apart from the block. -/
def SpO.tr (ka kb : BitVec 64) (l : List Pr) : SpO where
  p := fun u v w => ∃ s, v = .pointer (some ⟨s, 0, none⟩) ∧ TreeS ka kb (fun b => ownOf u ≠ some b) l s w
  mono := fun _ _ _ _ h ⟨s, e, ht⟩ => ⟨s, e, ht.below h⟩
  switch := fun _ _ _ _ _ _ h hb ⟨s, e, ht⟩ => ⟨s, e, (ht.relax (fun b _ hlt hu => by have := hb b hu; omega)).below h⟩
  keep := fun _ _ _ _ h ⟨s, e, ht⟩ => ⟨s, e, ht.same (Same.of_grown h (fun _ hb => hb))⟩
def spAt (M V : Nat) (PM : Value → World → Prop) (PV : Value → Value → World → Prop) (specs : List SpO) (j : Nat) : Value → Value → World → Prop :=
  bif j == M then fun _ v w => PM v w else bif j == V then PV else (specs.getD j .any).p
section
variable {P : Program} {ops : Array Oper} {Q : Exit → Act → World → Prop}
theorem wp_region_spo {id : Nat} {a0 : Act} {w : World} (specs : List SpO) (M V : Nat) (g : Tmp) (PM : Value → World → Prop) (PV : Value → Value → World → Prop)
    (hmM : ∀ v w w', Gr w w' → PM v w → PM v w') (hmV : ∀ u v w w', Gr w w' → PV u v w → PV u v w') (hm : P.follows .mixedOrders = true)
    (hf : fineB ops a0.tmps.size = true) (hM : dstAt ops M = some g) (hg : ((List.range ops.size).all fun i => i == M || dstAt ops i != some g) = true) (hMV : M ≠ V) (hVM : (depsAt ops V).contains M = true)
    (hu0 : ownOf (a0.tmps.getD g undef) = none)
    (hop : ∀ i o, ops[i]? = some o → i ≠ M → i ≠ V → ∀ a W, Gr w W → Good2 M V ops w.drew a0 g (spAt M V PM PV specs) i a W → wpOp P ops Q i (Owes Gr (fun v w' => (specs.getD i .any).p (a.tmps.getD g undef) (match o.dst with | some _ => v | none => undef) w') a W o.dst) a W)
    (hopM : ∀ o, ops[M]? = some o → ∀ a W, Gr w W → Good2 M V ops w.drew a0 g (spAt M V PM PV specs) M a W → wpOp P ops Q M (Owes Gr (fun v w' => (∀ b, ownOf v = some b → W.heap.size ≤ b ∧ b < w'.heap.size) ∧ PM v w') a W o.dst) a W)
    (hopV : ∀ o, ops[V]? = some o → ∀ a W, Gr w W → Good2 M V ops w.drew a0 g (spAt M V PM PV specs) V a W → wpOp P ops Q V (fun a' w' => ∃ v, a' = a.put o.dst v ∧ Gr w w' ∧ W.grownBy w' (ownOf (a.tmps.getD g undef)) ∧ PV (a.tmps.getD g undef) (match o.dst with | some _ => v | none => undef) w') a W)
    (hend : ∀ a W, Gr w W → AllDone2 M V ops w.drew a0 g (spAt M V PM PV specs) a W → Q .normal a W) : (Code.region id ops true).wp P Q a0 w := by
  have hg' : ∀ i, i ≠ M → i < ops.size → dstAt ops i ≠ some g := fun i hi hs he => by
    have := List.all_eq_true.1 hg i (List.mem_range.2 hs)
    rw [he] at this
    have h2 : (i == M) = false := by simpa using hi
    rw [h2] at this
    simp at this
  have sM : ∀ u v w, spAt M V PM PV specs M u v w = PM v w := fun u v w => by unfold spAt; simp
  have sV : ∀ u v w, spAt M V PM PV specs V u v w = PV u v w := fun u v w => by
    unfold spAt
    have : (V == M) = false := by simpa using Ne.symm hMV
    rw [this]
    simp
  have sO : ∀ j, j ≠ M → j ≠ V → ∀ u v w, spAt M V PM PV specs j u v w = (specs.getD j .any).p u v w := fun j h1 h2 u v w => by
    unfold spAt
    have e1 : (j == M) = false := by simpa using h1
    have e2 : (j == V) = false := by simpa using h2
    rw [e1, e2]
    rfl
  refine wp_region_own M V g (spAt M V PM PV specs) hm hf hM (List.contains_iff_mem.1 hVM) hg' ?_ hu0 ?_ ?_ ?_ hend
  · intro j u x w1 w2 h hs
    by_cases h1 : j = M
    · subst h1
      rw [sM] at hs ⊢
      exact hmM _ _ _ h hs
    · by_cases h2 : j = V
      · subst h2
        rw [sV] at hs ⊢
        exact hmV _ _ _ _ h hs
      · rw [sO j h1 h2] at hs ⊢
        exact (specs.getD j .any).mono _ _ _ _ h hs
  · intro i o ho h1 h2 a W hW hG
    refine wpOp_mono ?_ (hop i o ho h1 h2 a W hW hG)
    rintro a' w' ⟨v, rfl, hr, hs⟩
    exact ⟨v, rfl, hr, Eq.mpr (sO i h1 h2 _ _ _) hs⟩
  · intro o ho a W hW hG
    refine wpOp_mono ?_ (hopM o ho a W hW hG)
    rintro a' w' ⟨v, rfl, hr, hb, hp⟩
    have hd : o.dst = some g := by
      unfold dstAt at hM
      rw [ho] at hM
      exact hM
    refine ⟨v, by rw [hd], hr, fun j x h1 h2 hs => ?_, Eq.mpr (sM _ _ _) hp, fun b hb' => (hb b hb').2⟩
    rw [sO j h1 h2] at hs ⊢
    exact (specs.getD j .any).switch _ _ _ _ _ hu0 hr (fun b hb' => (hb b hb').1) hs
  · intro o ho _ a W hW hG
    refine wpOp_mono ?_ (hopV o ho a W hW hG)
    rintro a' w' ⟨v, rfl, hr, hg2, hp⟩
    refine ⟨v, rfl, hr, hg2.size, fun j x h1 h2 hs => ?_, Eq.mpr (sV _ _ _) hp⟩
    rw [sO j h2 h1] at hs ⊢
    exact (specs.getD j .any).keep _ _ _ _ hg2 hs
end
end Go.Proofs.Ytcmkjoepndbicaa
