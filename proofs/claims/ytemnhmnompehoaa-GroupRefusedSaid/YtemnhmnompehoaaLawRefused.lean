/-
  GroupRefused: a call that has an error changes nothing.
-/
import Derived.Test.YtemnhmnompehoaaList
import Derived.Test.YtemnhmnompehoaaSame
import Derived.Test.YtemnhmnompehoaaAwake
namespace Go.Proofs.Ytemnhmnompehoaa
open Go.ChangeShapes Go.WideShapes Go.ChangeAt Go.RowKit

theorem Gs.past {w w' : World} {p q : Nat} {A A2 : Option Addr} {c n2 c2 : Nat} {b2 : Bool} {l : List Gv} (h : Gs w p A c l) (hq : w.heap[q]? = some (.cells #[.slice A2 n2 c2, .bool b2] 68 (0, 0))) (hne : p ≠ q) (hg : w.grownBy w' (some q)) : Gs w' p A c l := by
  refine ⟨(hg.block p h.lt (by intro e; cases e; exact hne rfl)).trans h.cell, ⟨h.row.len, h.row.bd, fun hn => ?_⟩, h.nil, fun x hx => (h.ok x hx).past hq hg⟩
  obtain ⟨g, cur, e, h2, h3, h4, h5⟩ := h.row.row hn
  refine ⟨g, cur, e, Nat.lt_of_lt_of_le h2 hg.size, (hg.block g h2 (by intro e; cases e; rw [h3] at hq; cases hq)).trans h3, h4, h5⟩
theorem stepS_err {k : Dv} {l : List Gp} (h : (stepS k l).2.1 ≠ 0) : (stepS k l).2.2 = l := by
  unfold stepS at h ⊢
  split
  · rename_i h0
    rw [if_pos h0] at h
    dsimp only at h ⊢
    unfold addS at h ⊢
    repeat' split
    all_goals first | rfl | (exfalso; simp_all)
  rename_i h0
  rw [if_neg h0] at h
  split
  · rename_i h1
    rw [if_pos h1] at h
    unfold dropS at h ⊢
    split at h
    · rfl
    · exact absurd rfl h
  rename_i h1
  rw [if_neg h1] at h
  split
  · rename_i h2
    rw [if_pos h2] at h
    unfold joinS at h ⊢
    split
    · rfl
    split
    · rfl
    split
    · rfl
    · rename_i hx _ _
      simp_all
  rename_i h2
  rw [if_neg h2] at h
  split
  · rename_i h3
    rw [if_pos h3] at h
    dsimp only at h ⊢
    unfold leaveS at h ⊢
    split
    · rfl
    split
    · rfl
    split
    · rfl
    · simp_all
  rename_i h3
  rw [if_neg h3] at h
  dsimp only at h ⊢
  unfold commitS at h ⊢
  split
  · rfl
  split
  · rfl
  split
  · rfl
  split
  · rfl
  · simp_all

theorem Try.info40' : (Try.prog.info? 40).map (fun i => (i.zero, i.size, i.bytes)) = some (some (.agg #[.int .i64 0, .string ⟨#[]⟩, .int .i64 0, .int .i64 0, .int .i64 0, .int .i64 0, .int .i64 0, .int .i64 0]), 8, 72) := by kernel_rfl
def flatD (l : List Dv) : List Value := l.flatMap fun k => k.cells.toList
theorem flatD_append (a b : List Dv) : flatD (a ++ b) = flatD a ++ flatD b := by unfold flatD; rw [List.flatMap_append]
theorem flatD_len (l : List Dv) : (flatD l).length = l.length * 8 := by
  induction l with
  | nil => rfl
  | cons a l ih =>
    have e : flatD (a :: l) = a.cells.toList ++ flatD l := rfl
    rw [e, List.length_append, ih, List.length_cons]
    show 8 + l.length * 8 = (l.length + 1) * 8
    omega
theorem flatD_get : ∀ {l : List Dv} {i : Nat} {x : Dv}, l[i]? = some x → ∀ j, j < 8 → (flatD l)[i * 8 + j]? = x.cells[j]?
  | [], i, x, h, j, hj => by simp at h
  | a :: l, 0, x, h, j, hj => by
    cases h
    have e : flatD (a :: l) = a.cells.toList ++ flatD l := rfl
    rw [e, Nat.zero_mul, Nat.zero_add, List.getElem?_append_left (by show j < 8; exact hj)]
    simp
  | a :: l, i + 1, x, h, j, hj => by
    have e : flatD (a :: l) = a.cells.toList ++ flatD l := rfl
    have := flatD_get (l := l) (i := i) (x := x) (by simpa using h) j hj
    have h8 : a.cells.toList.length = 8 := rfl
    rw [e, List.getElem?_append_right (by omega), h8, show (i + 1) * 8 + j - 8 = i * 8 + j by omega]
    exact this
theorem flatD_one (l : List Dv) : ∀ u ∈ flatD l, u.oneCell' = true := by
  intro u hu
  obtain ⟨k, _, hk⟩ := List.mem_flatMap.1 hu
  simp only [List.mem_cons, List.not_mem_nil, or_false] at hk
  rcases hk with rfl | rfl | rfl | rfl | rfl | rfl | rfl | rfl <;> rfl
theorem RD.news {W : World} {ad : Addr} {n : Nat} {l : List Dv} (h : RD W (some ad) n l) (j : Nat) (u : Value) (hj : (flatD l)[j]? = some u) : W.cell? (ad.add j) = some u := by
  have hjl : j < l.length * 8 := by have := (List.getElem?_eq_some_iff.1 hj).1; rw [flatD_len] at this; exact this
  have hi : j / 8 < l.length := by omega
  obtain ⟨b, o, e, _, hc⟩ := h.row (by rw [← h.len]; omega)
  cases e
  have e1 := flatD_get (l := l) (i := j / 8) (List.getElem?_eq_getElem hi) (j % 8) (by omega)
  rw [show j / 8 * 8 + j % 8 = j by omega, hj] at e1
  have := hc (j / 8) _ (List.getElem?_eq_getElem hi) (j % 8) u e1.symm
  rw [show j / 8 * 8 + j % 8 = j by omega] at this
  rw [add_plain]
  exact this
def OwnD (W : World) (base : Nat) (v : Value) (l : List Dv) : Prop := W.ownsRow base 40 8 v l.length (flatD l)
theorem OwnD.form {W : World} {base : Nat} {v : Value} {l : List Dv} (h : OwnD W base v l) (hb : l.length * 72 ≤ 140737488355328) (hl : 0 < l.length) : ∃ A c, v = .slice A l.length c ∧ RD W A l.length l := by
  unfold OwnD at h
  rcases h.2 with ⟨rfl, h1⟩ | ⟨g, cap, cur, rfl, hb1, hh, hn, hcm, hcs, hct⟩
  · omega
  · refine ⟨_, _, rfl, ⟨rfl, hb, fun hn0 => ⟨g, 0, rfl, (Array.getElem?_eq_some_iff.1 hh).1, fun i k hk j u hu => ?_⟩⟩⟩
    have hi := (List.getElem?_eq_some_iff.1 hk).1
    have hj : j < 8 := (Array.getElem?_eq_some_iff.1 hu).1
    have e := flatD_get hk j hj
    rw [hu, ← hct, List.getElem?_take, if_pos (by omega)] at e
    rw [Nat.zero_add]
    exact blk_cell hh (by simpa using e)
theorem app_d {ops : Array Oper} {rest : List Oper} {o : Oper} {a : Act} {Q : Exit → Act → World → Prop} {W : World} (hgd : o.guard = none) (s x : Operand)
    (ho : o.op = .call { callee := .builtin .append, args := #[s, x], argTypes := #[31, 31] })
    (base : Nat) (v : Value) (xs : List Dv) (A : Option Addr) (n c : Nat) (ys : List Dv) (hs : a.eval s = v) (hx : a.eval x = .slice A n c)
    (HO : OwnD W base v xs) (HR : RD W A n ys) (hnil : A = none → c = 0) (hbase : base ≤ W.heap.size) (hl : (xs.length + ys.length) * 72 ≤ 140737488355328)
    (h : ∀ v1 w1, OwnD w1 base v1 (xs ++ ys) → W.grownBy w1 v.ownBlock → wpList Try.prog ops Q rest (a.put o.dst v1) w1) :
    wpList Try.prog ops Q (o :: rest) a W := by
  obtain ⟨i0, hi, hz0, hz1, hz2⟩ := info_parts Try.info40'
  have hyl := HR.len
  cases A with
  | none =>
    obtain rfl := hnil rfl
    have hn : n = 0 := by
      rcases Nat.eq_zero_or_pos n with h0 | h0
      · exact h0
      · obtain ⟨b, o', e, _⟩ := HR.row h0
        cases e
    subst hn
    have hy : ys = [] := List.eq_nil_of_length_eq_zero hyl
    subst hy
    refine wpList_append_own_none hgd s x 31 ho base 40 i0 8 Try.underlying31 hi v xs.length _ hs HO hx ?_
    exact h v W (by simpa using HO) (World.grownBy.refl _ _)
  | some ad =>
    refine wpList_append_own_at W hgd s x 31 ho base 40 i0 _ 8 72 Try.underlying31 hi hz0 hz1 hz2 rfl (by omega) v xs.length _ hs HO ad n c (flatD ys) hx (by rw [flatD_len, hyl]) HR.news (flatD_one ys) (by unfold maxLen; omega) (by omega) hbase ?_
    intro v1 w1 hown hg _ hat
    refine h v1 w1 ?_ hg
    unfold OwnD
    rw [List.length_append, flatD_append, hyl]
    exact hown
theorem own_one (W : World) (k : Dv) : OwnD (W.alloc (.cells k.cells 40)) W.heap.size (.slice (some ⟨W.heap.size, 0, none⟩) 1 1) [k] := by
  have hh : (W.alloc (.cells k.cells 40)).heap[W.heap.size]? = some (.cells k.cells 40 (0, 0)) := blk_new _ _
  exact ⟨by simp [flatD], .inr ⟨_, 1, k.cells, rfl, Nat.le_refl _, hh, by simp, by unfold maxLen; omega, by simp, by simp [flatD]⟩⟩

set_option linter.unusedVariables false in
set_option maxRecDepth 100000 in
set_option maxHeartbeats 8000000 in
theorem refused_walk (A1 : Option Addr) (n1 c1 : Nat) (ks : List Dv) (k : Dv) (w : World) (h1 : RD w A1 n1 ks) (e1 : A1 = none → c1 = 0) (hb9 : n1 * 72 ≤ 140737488351232) :
    Calls Try.prog 8 #[.slice A1 n1 c1, .agg k.cells] w fun e w' => e = .returned (.bool true) ∧ Below w.heap.size w w' := by
  have hbd := h1.bd
  have H1 := Kp.mk h1
  have E1 := Kp.mk e1
  have HL := Kp.mk h1.len
  have B1 : Kp (Below w.heap.size w (w.alloc (.cells k.cells 40))) := ⟨(Below.refl _ w).alloc (Nat.le_refl _) _⟩
  have B2 : Kp (Below w.heap.size w ((w.alloc (.cells k.cells 40)).alloc (.cells k.cells 40))) := ⟨B1.it.alloc B1.it.size _⟩
  have O1 : Kp (OwnD ((w.alloc (.cells k.cells 40)).alloc (.cells k.cells 40)) (w.heap.size + 1) (.slice (some ⟨w.heap.size + 1, 0, none⟩) 1 1) [k]) := ⟨by have := own_one (w.alloc (.cells k.cells 40)) k; simpa using this⟩
  have X1 : Kp (((w.alloc (.cells k.cells 40)).alloc (.cells k.cells 40)).heap[w.heap.size]? = some (.cells k.cells 40 (0, 0))) := ⟨blk_old _ (blk_new _ _)⟩
  have SZ : Kp (((w.alloc (.cells k.cells 40)).alloc (.cells k.cells 40)).heap.size = w.heap.size + 2) := ⟨by simp⟩
  clear h1 e1
  go_enter Try.func8, Try.ntmps8
  go_wp2_with (at_builtin; refine app_d rfl (.tmp 10) (.tmp 11) rfl (w.heap.size + 1) (.slice (some ⟨w.heap.size + 1, 0, none⟩) 1 1) [k] A1 n1 c1 ks rfl rfl O1.it (H1.it.below B2.it) E1.it (by rw [SZ.it]; omega) (by rw [HL.it]; simp; omega) ?_; intro v1 wa ho1 hg1; have O2 := Kp.mk ho1; have B3 : Kp (Below (w.heap.size + 1) ((w.alloc (.cells k.cells 40)).alloc (.cells k.cells 40)) wa) := ⟨(Below.refl _ _).grown hg1 (by rw [SZ.it]; omega) (fun q hq => by cases hq; exact Nat.le_refl _)⟩; clear ho1 hg1)
  have hk1 : ([k] ++ ks).length = n1 + 1 := by simp [HL.it]
  obtain ⟨A2, c2, rfl, hr2⟩ := O2.it.form (by rw [hk1]; omega) (by rw [hk1]; omega)
  rw [hk1] at hr2
  rw [hk1]
  have R2 := Kp.mk hr2
  have HB3 : Kp (Below w.heap.size w wa) := ⟨B2.it.trans (B3.it.mono (by omega))⟩
  have hsa : w.heap.size + 2 ≤ wa.heap.size := by have := B3.it.size; rw [SZ.it] at this; exact this
  have X2 : Kp (wa.heap[w.heap.size]? = some (.cells k.cells 40 (0, 0))) := ⟨(B3.it.block _ (by omega)).trans X1.it⟩
  clear hr2 hk1 O1 O2 B1 B2 B3 X1 SZ
  go_at_call 21
  refine (short_any A2 (n1 + 1) c2 ([k] ++ ks) wa R2.it).mono ?_
  rintro e wb ⟨b, rfl, hb, rfl⟩
  cases b with
  | false =>
    clear hb
    go_wp2_with (go_at_call 13; refine (awake_any _).mono ?_; rintro e w' ⟨rfl, hb'⟩)
    go_ret
    exact ⟨rfl, HB3.it.trans (hb'.mono HB3.it.size)⟩
  | true =>
    clear hb
    have H2 := Kp.mk (H1.it.below HB3.it)
    go_wp2_with fail
    go_at_call 35
    refine (made_any A1 n1 c1 ks wa H2.it).mono ?_
    rintro e wb ⟨rfl, ⟨A3, c3, l1, hg1, hm1⟩, hb3⟩
    have G1 := Kp.mk hg1
    have M1 := Kp.mk hm1
    have B4 := Kp.mk hb3
    have H3 := Kp.mk (H2.it.below hb3)
    have hs1 := hb3.size
    have hg1l := hg1.lt
    have X3 : Kp (wb.heap[w.heap.size]? = some (.cells k.cells 40 (0, 0))) := ⟨(hb3.block _ (by omega)).trans X2.it⟩
    clear hg1 hm1 hb3
    go_wp2_with fail
    go_at_call 35
    refine (made_any A1 n1 c1 ks wb H3.it).mono ?_
    rintro e wc ⟨rfl, ⟨A4, c4, l2, hg2, hm2⟩, hb4⟩
    have G2 := Kp.mk hg2
    have M2 := Kp.mk hm2
    have GG := Kp.mk (G1.it.below hb4)
    have B5 := Kp.mk (B4.it.trans (hb4.mono hs1))
    have hs2 := hb4.size
    have X4 : Kp (wc.heap[w.heap.size]? = some (.cells k.cells 40 (0, 0))) := ⟨(hb4.block _ (by omega)).trans X3.it⟩
    have GD : Kp (Goods (l1.map Gv.x)) := ⟨by rw [M1.it]; exact runS_good _ (fun x hx => by cases hx)⟩
    have hpq : ¬ wb.heap.size = wa.heap.size := by omega
    obtain ⟨p, hp⟩ : ∃ p, p = wa.heap.size := ⟨_, rfl⟩
    obtain ⟨q, hq⟩ : ∃ q, q = wb.heap.size := ⟨_, rfl⟩
    have HP : Kp (w.heap.size ≤ p) := ⟨by omega⟩
    have B6 : Kp (Below w.heap.size w wc) := ⟨HB3.it.trans (B5.it.mono (by omega))⟩
    rw [← hp] at GG hpq ⊢
    rw [← hq] at G2 hpq ⊢
    have hsc : w.heap.size < wc.heap.size := by omega
    obtain ⟨v0, v1, v2, v3, v4, v5, v6, v7⟩ : wc.cell? ⟨w.heap.size, 0, none⟩ = some (.int .i64 k.op) ∧ wc.cell? ⟨w.heap.size, 1, none⟩ = some (.string k.name) ∧ wc.cell? ⟨w.heap.size, 2, none⟩ = some (.int .i64 k.parts) ∧ wc.cell? ⟨w.heap.size, 3, none⟩ = some (.int .i64 k.sub) ∧
      wc.cell? ⟨w.heap.size, 4, none⟩ = some (.int .i64 k.att) ∧ wc.cell? ⟨w.heap.size, 5, none⟩ = some (.int .i64 k.member) ∧ wc.cell? ⟨w.heap.size, 6, none⟩ = some (.int .i64 k.term) ∧ wc.cell? ⟨w.heap.size, 7, none⟩ = some (.int .i64 k.part) :=
      ⟨blk_cell X4.it rfl, blk_cell X4.it rfl, blk_cell X4.it rfl, blk_cell X4.it rfl, blk_cell X4.it rfl, blk_cell X4.it rfl, blk_cell X4.it rfl, blk_cell X4.it rfl⟩
    clear hg2 hm2 hb4 hs1 hs2 hg1l hp hq G1 B4 B5 X3 X2 H3 hsa
    go_wp2_with fail
    go_at_call 23
    refine (does_any GG.it GD.it k).mono ?_
    rintro e wd ⟨rfl, A5, c5, l5, hg5, hm5, hw5⟩
    obtain ⟨E, hE⟩ : ∃ E, E = (stepS k (l1.map Gv.x)).2.1 := ⟨_, rfl⟩
    have HE := Kp.mk hE
    have G5 := Kp.mk hg5
    have M5 := Kp.mk hm5
    have B7 : Kp (Below w.heap.size w wd) := ⟨B6.it.grown hw5 B6.it.size (fun j hj => by cases hj; exact HP.it)⟩
    have Q5 := Kp.mk (G2.it.past GG.it.cell hpq hw5)
    rw [← hE]
    clear hg5 hm5 hw5 hE v0 v1 v2 v3 v4 v5 v6 v7 hsc
    cases hz : E == 0 with
    | true =>
      go_wp2_with (go_at_call 13; refine (awake_any _).mono ?_; rintro e w' ⟨rfl, hb'⟩)
      go_ret
      exact ⟨rfl, B7.it.trans (hb'.mono B7.it.size)⟩
    | false =>
      have EQ : Kp (l5.map Gv.x = l2.map Gv.x) := ⟨by rw [M5.it, stepS_err (by rw [← HE.it]; simpa using hz), M1.it, M2.it]⟩
      go_wp2_with fail
      go_at_call 33
      refine (list_any G5.it).mono ?_
      rintro e we ⟨v6, l6, rfl, ho6, hm6, hf6, hb6⟩
      obtain ⟨A6, c6, rfl, _, hr6⟩ := ho6.form (by have := congrArg List.length hm6; simp at this; have := G5.it.row.bd; omega)
      have R6 := Kp.mk hr6
      have M6 := Kp.mk hm6
      have K6 : Kp (∀ x ∈ l6, GOk we x) := ⟨fun x hx => (hf6 x hx).ok (by
        have h1 : x.x ∈ l5.map Gv.x := by rw [← hm6]; exact List.mem_map_of_mem hx
        rw [M5.it] at h1
        exact (stepS_good GD.it _ h1).small)⟩
      have Q6 := Kp.mk (Q5.it.below hb6)
      have B8 : Kp (Below w.heap.size w we) := ⟨B7.it.trans (hb6.mono B7.it.size)⟩
      clear ho6 hr6 hm6 hf6 hb6
      go_wp2_with fail
      go_at_call 33
      refine (list_any Q6.it).mono ?_
      rintro e wf ⟨v7, l7, rfl, ho7, hm7, hf7, hb7⟩
      obtain ⟨A7, c7, rfl, _, hr7⟩ := ho7.form (by have := congrArg List.length hm7; simp at this; have := Q6.it.row.bd; omega)
      have HLN : l7.length = l6.length := by
        have e1 := congrArg List.length hm7
        have e2 := congrArg List.length M6.it
        have e3 := congrArg List.length EQ.it
        simp at e1 e2 e3
        omega
      rw [HLN] at hr7 ⊢
      have R7 := Kp.mk hr7
      have M7 := Kp.mk hm7
      have K7 : Kp (∀ x ∈ l7, GOk wf x) := ⟨fun x hx => (hf7 x hx).ok (by
        have h1 : x.x ∈ l2.map Gv.x := by rw [← hm7]; exact List.mem_map_of_mem hx
        rw [M2.it, ← M1.it] at h1
        exact (GD.it _ h1).small)⟩
      have R8 := Kp.mk (R6.it.below hb7)
      have K8 : Kp (∀ x ∈ l6, GOk wf x) := ⟨fun x hx => (K6.it x hx).below hb7⟩
      have B9 : Kp (Below w.heap.size w wf) := ⟨B8.it.trans (hb7.mono B8.it.size)⟩
      clear ho7 hr7 hm7 hf7 hb7 HLN
      go_wp2_with fail
      go_at_call 34
      refine (same_any A6 A7 l6.length c6 c7 l6 l7 wf R8.it R7.it K8.it K7.it (by rw [M6.it, M7.it, EQ.it])).mono ?_
      rintro e wg ⟨rfl, hbg⟩
      go_wp2_with (go_at_call 13; refine (awake_any _).mono ?_; rintro e w' ⟨rfl, hb'⟩)
      go_ret
      have B10 : Below w.heap.size w wg := B9.it.trans (hbg.mono B9.it.size)
      exact ⟨rfl, B10.trans (hb'.mono B10.size)⟩

set_option linter.unusedVariables false in
set_option maxRecDepth 100000 in
theorem groupRefused_lifted (os : Os) (started : os.Started) (H : Type) (enc : TypeId × Value → H) :
    ReturnsInHanded {} Try.checked os 8 .any (Rows.groupRefusedSpec.pre6 enc Try.prog Try.f8 Rows.groupRefusedRow.domain false) (Rows.groupRefusedSpec.post enc Try.prog Try.f8 false true false false) := by
  refine returnsInHanded_of_change_sized (C := Try.checked) (by kernel_rfl) started (by kernel_rfl) Try.func8
    (ChangeSpec.witness6 (enc := enc) (C := Try.checked) false ⟨#[], #[.slice none 0 0, .agg #[.int .i64 0, .string ⟨#[]⟩, .int .i64 0, .int .i64 0, .int .i64 0, .int .i64 0, .int .i64 0, .int .i64 0]], []⟩ 8 (by kernel_rfl) (by kernel_rfl) (by kernel_rfl) (by kernel_rfl)) ?_
  intro W base args ds gs before hval0 hW hcnd hsz0 _
  have hval : ∀ (j : Nat) t v, Try.f8.params[j]? = some t → args[j]? = some v → Value.okWide Try.prog W .any base t v := hval0
  have hW' := hW
  obtain ⟨p, q, hA0, hV, rfl, hfz, hnd⟩ := hW
  have hA : DataW.TrodAll enc Try.prog W 0 (fun _ => true) true Try.f8.params.toList args.toList ds p := hA0
  have hsz : (DataW.weightsEach Try.prog (Try.f8.params.toList ++ Rows.groupRefusedSpec.plain.varTypes Try.prog) (ds ++ gs)).all (· ≤ reachBytes) = true := hsz0
  rw [Try.params8] at hA hval hsz
  obtain ⟨v0, vs0, d0, ds0, p0, q0, hargs, rfl, rfl, h0, r0⟩ := trodAll_cons hA
  obtain ⟨v1, vs1, d1, ds1, p1, q1, rfl, rfl, rfl, h1, r1⟩ := trodAll_cons r0
  obtain ⟨rfl, rfl, rfl⟩ := trodAll_nil r1
  obtain rfl : args = #[v0, v1] := by cases args; simp_all
  obtain ⟨rfl, rfl⟩ := trodVars_none hV
  have k0 := h0
  have lt0 : ∀ x ∈ p0, x.block < W.heap.size := by obtain ⟨m, hm⟩ := k0; exact DataW.trod_lt m _ _ _ hm
  obtain ⟨A0, n0, c0, ks0, rfl, ra0, ea0, bd0⟩ := dos_open (hval 0 31 v0 rfl rfl) h0 (fun x hx => by simpa using List.all_eq_true.1 hsz x (DataW.weights_mem_each (j := 0) (t := 31) rfl rfl x hx))
  have k1 := h1
  have lt1 : ∀ x ∈ p1, x.block < W.heap.size := by obtain ⟨m, hm⟩ := k1; exact DataW.trod_lt m _ _ _ hm
  obtain ⟨kv1, rfl⟩ := dv_open (hval 1 40 v1 rfl rfl) h1
  clear hA0 hval0 hsz hsz0
  refine (refused_walk A0 n0 c0 ks0 kv1 W ra0 ea0 bd0).mono fun e W' ⟨he, bel⟩ => ?_
  subst he
  exact ⟨_, rfl, _, _, _, [], _, [], hW', trodAll_mk1 (shut_bool Try.underlying4 _), (trodAll_cons_mk (Below.trod (by kernel_rfl) (by kernel_rfl) (of_decide_eq_true (by kernel_rfl)) k0 bel lt0) (trodAll_cons_mk (Below.trod (by kernel_rfl) (by kernel_rfl) (of_decide_eq_true (by kernel_rfl)) k1 bel lt1) trodAll_mk0)), rfl, bel.frame _, fun h => by cases h⟩

theorem GroupRefused_holds : Rows.GroupRefusedSaid :=
  OpenClaim.holds_of_wide 8 Try.f8 rfl rfl rfl rfl rfl rfl rfl ⟨rfl, rfl, rfl, rfl, rfl⟩ rfl rfl rfl rfl rfl (by kernel_rfl) Try.func8 (by kernel_rfl)
    (of_decide_eq_true (by kernel_rfl)) (by unfold Func.isWrapper; first | (rw [if_pos (by decide +kernel)]; kernel_rfl) | (rw [if_neg (by decide +kernel)]; exact ⟨rfl, rfl⟩))
    (fun os started H enc _ => groupRefused_lifted os started H enc)
end Go.Proofs.Ytemnhmnompehoaa
