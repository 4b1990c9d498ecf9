/-
  Pairs that came in; copies of them.
-/
import Derived.Test.YtcmkjoepndbicaaRDig
import Derived.Deep.Slices
import Derived.Deep.Fields
import Derived.ChangeSame
namespace Go.Proofs.Ytcmkjoepndbicaa
open Go.ChangeShapes Go.WideShapes Go.ChangeAt Go.RowKit Go.Joins Go.Deep

section
variable {H : Type} {enc : TypeId × Value → H} {P : Program} {w : World} {base : Nat} {spare : Nat → Bool} {held : Bool}
theorem open_slice_fields {t e : TypeId} {fs : Array Field} {fuel : Nat} {cs : List Value} {x : DataW H × List MemPlace} (ht : P.underlying t = some (.slice e)) (he : P.underlying e = some (.struct fs))
    (hone : oneCellFields P fs = true) (hC : P.cellsOf e = fs.size) (h : DataW.trod enc P w base spare held fuel t cs = some x) :
    (cs = [.slice none 0 0] ∧ x = (.nil, [])) ∨
    ∃ (a : Addr) (len cap m : Nat) (D : Nat → DataW H) (Pl : Nat → List MemPlace), cs = [.slice (some a) len cap] ∧ base ≤ a.block ∧ len ≤ cap ∧ cap ≤ maxLen ∧ m = (if spare a.block then cap else len) ∧
      x = (.slice ((List.range len).map D) ((List.range (m - len)).map fun j => D (len + j)), MemPlace.row a (m * fs.size) ++ (List.range m).flatMap Pl) ∧
      ∀ i, i < m → ∃ (ys : List (DataW H × List MemPlace)) (n : Nat), D i = .agg (ys.map (·.1)) ∧ Pl i = ys.flatMap (·.2) ∧ ys.length = fs.size ∧
        ∀ (j : Nat) (f : Field), fs[j]? = some f → ∃ (v : Value) (y : DataW H × List MemPlace), w.cell? (a.add (i * fs.size + j)) = some v ∧ ys[j]? = some y ∧ DataW.trod enc P w base spare held n f.type [v] = some y := by
  rcases open_slice ht h with h0 | ⟨a, len, cap, m, n, D, Pl, hcs, hb, hl, hm, hmm, hx, hi⟩
  · exact .inl h0
  · refine .inr ⟨a, len, cap, m, D, Pl, hcs, hb, hl, hm, hmm, by rw [hC] at hx; exact hx, fun i him => ?_⟩
    obtain ⟨cs', hc, ht'⟩ := hi i him
    rw [hC] at hc
    obtain ⟨ys, n', hn', hy, hlen, hyl, hf⟩ := DataW.trod_struct he ht'
    obtain ⟨_, hcl, hat⟩ := World.cells?_some hc
    simp only [Prod.mk.injEq] at hy
    refine ⟨ys, n', hy.1, hy.2, hyl, fun j f hj => ?_⟩
    obtain ⟨ho, hk⟩ := hone_of hone j f hj
    have hjl : j < fs.size := (Array.getElem?_eq_some_iff.1 hj).1
    have hcell := hat j hjl
    have hv : cs'[j]? = some (cs'[j]'(by omega)) := List.getElem?_eq_getElem (by omega)
    have h1 := hf j f hj
    rw [ho, hk] at h1
    have hone' : (cs'.drop j).take 1 = [cs'[j]'(by omega)] := by
      rw [List.drop_eq_getElem_cons (by omega)]
      rfl
    rw [hone'] at h1
    have hys : ys[j]? = some (ys[j]'(by omega)) := List.getElem?_eq_getElem (by omega)
    refine ⟨_, _, ?_, hys, h1.trans hys⟩
    rw [← Go.Deep.add_add, hcell, hv]
end


theorem mem_weightsAll {H : Type} {P : Program} {e : TypeId} {x : Nat} : ∀ {l : List (DataW H)} {d : DataW H}, d ∈ l → x ∈ d.weights P e → x ∈ DataW.weightsAll P e l
  | y :: l, d, h, hx => by
    rw [DataW.weightsAll]
    rcases List.mem_cons.1 h with rfl | h
    · exact List.mem_append_left _ hx
    · exact List.mem_append_right _ (mem_weightsAll h hx)
variable {H : Type} {enc : TypeId × Value → H} {W : World}
set_option maxRecDepth 100000 in
theorem prs_open {base : Nat} {v : Value} {d : DataW H} {p : List MemPlace} (hv : Value.okWide Try.prog W .any base 25 v) (h : DataW.Trod enc Try.prog W 0 (fun _ => true) true 25 v d p) (hz : ∀ x ∈ DataW.weights Try.prog 25 d, x ≤ reachBytes) :
    ∃ A n c ks, v = .slice A n c ∧ RP W (fun _ => True) A n ks ∧ (A = none → c = 0) ∧ n * 32 ≤ 140737488351232 ∧ n ≤ c ∧ ∀ k ∈ ks, k.1.size ≤ 140737488351232 ∧ k.2.size ≤ 140737488351232 := by
  obtain ⟨A0, n0, c0, rfl⟩ := okWide_slice Try.underlying25 hv
  obtain ⟨fuel, hf⟩ := h
  rcases open_slice_fields Try.underlying25 Try.underlying43 (by kernel_rfl) (by kernel_rfl) hf with ⟨e, _⟩ | ⟨a, len, cap, m, D, Pl, e, hb, hl, hm, hmm, hx, hi⟩
  · simp [Value.cells] at e
    obtain ⟨rfl, rfl, rfl⟩ := e
    exact ⟨none, 0, 0, [], rfl, RP.nil _ _ _, fun _ => rfl, by decide, Nat.le_refl _, (fun k hk => by cases hk)⟩
  · simp [Value.cells] at e
    obtain ⟨rfl, rfl, rfl⟩ := e
    simp only [if_true] at hmm
    subst hmm
    simp only [Prod.mk.injEq] at hx
    have hbd : m * 32 ≤ 140737488351232 := by
      have hw := hz ((n0 + (m - n0)) * 32)
      rw [hx.1] at hw
      have := hw (by
        simp only [DataW.weights, Try.underlying25, List.mem_cons]
        left
        rw [show Try.prog.bytesOf 43 = 32 by kernel_rfl]
        simp)
      unfold reachBytes at this
      omega
    have hel : ∀ i, i < n0 → ∀ x ∈ (D i).weights Try.prog 43, x ≤ 140737488351232 := fun i hin x hxm => by
      have := hz x (by
        rw [hx.1]
        simp only [DataW.weights, Try.underlying25, List.mem_cons, List.mem_append]
        exact .inr (.inl (mem_weightsAll (List.mem_map.2 ⟨i, List.mem_range.2 hin, rfl⟩) hxm)))
      unfold reachBytes at this
      omega
    obtain ⟨K, hK⟩ := choose_lt (α := Pr) (n := m) (p := fun i k => (i < n0 → k.1.size ≤ 140737488351232 ∧ k.2.size ≤ 140737488351232) ∧ W.cell? (a.add (i * 2)) = some (.string k.1) ∧ W.cell? (a.add (i * 2 + 1)) = some (.string k.2)) (fun i hic => by
      obtain ⟨ys, n', hD, _, hyl, hf'⟩ := hi i hic
      obtain ⟨v0, y0, g0, q0, t0⟩ := hf' 0 _ rfl
      obtain ⟨v1, y1, g1, q1, t1⟩ := hf' 1 _ rfl
      obtain ⟨x0, e0, r0, s0⟩ := DataW.trod_string Try.underlying9 t0
      obtain ⟨x1, e1, r1, s1⟩ := DataW.trod_string Try.underlying9 t1
      simp only [List.cons.injEq, and_true] at e0 e1
      subst e0 e1
      refine ⟨(x0, x1), fun hin => ?_, g0, g1⟩
      have hys : ys = [y0, y1] := by
        match ys, hyl, q0, q1 with
        | [a, b], _, q0, q1 => cases q0; cases q1; rfl
      subst hys
      subst r0
      subst r1
      have h1 := hel i hin x0.data.toList.length (by rw [hD]; simp [DataW.weights, DataW.weightsEach, Try.underlying43])
      have h2 := hel i hin x1.data.toList.length (by rw [hD]; simp [DataW.weights, DataW.weightsEach, Try.underlying43])
      rw [Array.length_toList] at h1 h2
      exact ⟨h1, h2⟩)
    refine ⟨some a, n0, m, (List.range n0).map K, rfl, ⟨by simp, by omega, fun h0 => ?_⟩, (fun h => by cases h), by omega, hl, fun k hk => ?_⟩
    · obtain ⟨b, off, spot⟩ := a
      have h1 := (hK 0 (by omega)).2.1
      have hspot : spot = none := by simpa [Addr.add] using World.cell?_spot h1
      subst hspot
      refine ⟨b, off, rfl, trivial, World.block_lt_of_cell? W _ (by simpa [Addr.add] using h1), fun i k hk => ?_⟩
      have hil : i < n0 := by have := (List.getElem?_eq_some_iff.1 hk).1; simpa using this
      rw [List.getElem?_map, List.getElem?_range hil] at hk
      cases hk
      have h2 := (hK i (by omega)).2
      rw [add_plain, add_plain, ← Nat.add_assoc] at h2
      exact h2
    · obtain ⟨i, hi, rfl⟩ := List.mem_map.1 hk
      have := List.mem_range.1 hi
      exact (hK i (by omega)).1 this
theorem pvs_at {l : List Pr} {j : Nat} {u : Value} (h : (pvs l)[j]? = some u) : ∃ i x, l[i]? = some x ∧ ((j = i * 2 ∧ u = .string x.1) ∨ (j = i * 2 + 1 ∧ u = .string x.2)) := by
  have hj : j < l.length * 2 := by have := (List.getElem?_eq_some_iff.1 h).1; rwa [pvs_len] at this
  obtain ⟨x, hx⟩ : ∃ x, l[j / 2]? = some x := ⟨_, List.getElem?_eq_getElem (by omega)⟩
  obtain ⟨e1, e2⟩ := pvs_get hx
  refine ⟨j / 2, x, hx, ?_⟩
  rcases Nat.mod_two_eq_zero_or_one j with hm | hm
  · left
    rw [show j / 2 * 2 = j by omega, h] at e1
    exact ⟨by omega, by injection e1⟩
  · right
    rw [show j / 2 * 2 + 1 = j by omega, h] at e2
    exact ⟨by omega, by injection e2⟩
section
variable {ops : Array Oper} {rest : List Oper} {o : Oper} {a : Act} {Q : Exit → Act → World → Prop} {W : World}
/-- append of pairs that are read. -/
theorem app_ps (hgd : o.guard = none) (s x : Operand)
    (ho : o.op = .call { callee := .builtin .append, args := #[s, x], argTypes := #[25, 25] })
    (base : Nat) (v : Value) (l : List Pr) (S : Nat → Prop) (A : Option Addr) (n c : Nat) (ys : List Pr) (hs : a.eval s = v) (hx : a.eval x = .slice A n c)
    (HO : OwnP W base v l) (HR : RP W S A n ys) (hnil : A = none → c = 0) (hbase : base ≤ W.heap.size) (hl : l.length + ys.length ≤ 100000)
    (h : ∀ v1 w1, OwnP w1 base v1 (l ++ ys) → W.grownBy w1 v.ownBlock → wpList Try.prog ops Q rest (a.put o.dst v1) w1) :
    wpList Try.prog ops Q (o :: rest) a W := by
  obtain ⟨i0, hi, hz0, hz1, hz2⟩ := info_parts Try.info43'
  have hyl := HR.len
  cases A with
  | none =>
    obtain rfl := hnil rfl
    have hn : n = 0 := by
      rcases Nat.eq_zero_or_pos n with h0 | h0
      · exact h0
      · obtain ⟨b, o', e, _⟩ := HR.row h0
        cases e
    subst hn
    have hy : ys = [] := List.eq_nil_of_length_eq_zero hyl
    subst hy
    refine wpList_append_own_none hgd s x 25 ho base 43 i0 2 Try.underlying25 hi v l.length _ hs HO hx ?_
    have := h v W (by simpa using HO) (World.grownBy.refl _ _)
    exact this
  | some ad =>
    refine wpList_append_own_at W hgd s x 25 ho base 43 i0 _ 2 32 Try.underlying25 hi hz0 hz1 hz2 rfl (by omega) v l.length _ hs HO ad n c (pvs ys) hx (by rw [pvs_len, hyl]) ?_ (pvs_one ys) (by unfold maxLen; omega) (by omega) hbase ?_
    · intro j u hj
      obtain ⟨i, y, hy, hc⟩ := pvs_at hj
      obtain ⟨b, o', e, _, hlt, c1, c2⟩ := HR.get hy
      cases e
      rw [add_plain]
      rcases hc with ⟨rfl, rfl⟩ | ⟨rfl, rfl⟩
      · exact c1
      · rw [← Nat.add_assoc]; exact c2
    · intro v1 w1 hown hg _ hat
      refine h v1 w1 ?_ hg
      unfold OwnP
      rw [List.length_append, pvs_app, hyl]
      exact hown
/-- append of pairs that are read. -/
theorem app_ls (hgd : o.guard = none) (s x : Operand)
    (ho : o.op = .call { callee := .builtin .append, args := #[s, x], argTypes := #[54, 54] })
    (base : Nat) (v : Value) (l : List Pr) (S : Nat → Prop) (A : Option Addr) (n c : Nat) (ys : List Pr) (hs : a.eval s = v) (hx : a.eval x = .slice A n c)
    (HO : OwnP W base v l) (HR : RP W S A n ys) (hnil : A = none → c = 0) (hbase : base ≤ W.heap.size) (hl : l.length + ys.length ≤ 100000)
    (h : ∀ v1 w1, OwnP w1 base v1 (l ++ ys) → W.grownBy w1 v.ownBlock → wpList Try.prog ops Q rest (a.put o.dst v1) w1) :
    wpList Try.prog ops Q (o :: rest) a W := by
  obtain ⟨i0, hi, hz0, hz1, hz2⟩ := info_parts Try.info43'
  have hyl := HR.len
  cases A with
  | none =>
    obtain rfl := hnil rfl
    have hn : n = 0 := by
      rcases Nat.eq_zero_or_pos n with h0 | h0
      · exact h0
      · obtain ⟨b, o', e, _⟩ := HR.row h0
        cases e
    subst hn
    have hy : ys = [] := List.eq_nil_of_length_eq_zero hyl
    subst hy
    refine wpList_append_own_none hgd s x 54 ho base 43 i0 2 Try.underlying54 hi v l.length _ hs HO hx ?_
    have := h v W (by simpa using HO) (World.grownBy.refl _ _)
    exact this
  | some ad =>
    refine wpList_append_own_at W hgd s x 54 ho base 43 i0 _ 2 32 Try.underlying54 hi hz0 hz1 hz2 rfl (by omega) v l.length _ hs HO ad n c (pvs ys) hx (by rw [pvs_len, hyl]) ?_ (pvs_one ys) (by unfold maxLen; omega) (by omega) hbase ?_
    · intro j u hj
      obtain ⟨i, y, hy, hc⟩ := pvs_at hj
      obtain ⟨b, o', e, _, hlt, c1, c2⟩ := HR.get hy
      cases e
      rw [add_plain]
      rcases hc with ⟨rfl, rfl⟩ | ⟨rfl, rfl⟩
      · exact c1
      · rw [← Nat.add_assoc]; exact c2
    · intro v1 w1 hown hg _ hat
      refine h v1 w1 ?_ hg
      unfold OwnP
      rw [List.length_append, pvs_app, hyl]
      exact hown
end
theorem ownP_empty (W : World) : OwnP (W.alloc (.cells #[] 43)) W.heap.size (.slice (some ⟨W.heap.size, 0, none⟩) 0 0) [] :=
  ⟨rfl, .inr ⟨_, 0, _, rfl, Nat.le_refl _, blk_new W _, by simp, by unfold maxLen; omega, by simp, by simp [pvs]⟩⟩
set_option maxHeartbeats 1000000 in
theorem clonep_any (A : Option Addr) (n c : Nat) (l : List Pr) (w : World) (S : Nat → Prop) (h : RP w S A n l) (e : A = none → c = 0) (hn : n ≤ 1000) : Calls Try.prog 26 #[.slice A n c] w fun e w' =>
    ∃ v, e = .returned v ∧ OwnP w' w.heap.size v l ∧ Below w.heap.size w w' := by
  have q25 : ∀ (w : World) (a : Option Addr) (n c n' c' : Nat), (binOp .eql 25 (.slice a n c) (.slice none n' c')).run Try.prog w = .ok (.bool a.isNone) w := fun w a n c n' c' => Lib.run_eql_slice_nil w _ _ a n c n' c' Try.underlying25
  cases A with
  | none =>
    have hc := e rfl
    have hn : n = 0 := by
      rcases Nat.eq_zero_or_pos n with h0 | h0
      · exact h0
      · obtain ⟨b, o', e, _⟩ := h.row h0
        cases e
    subst hc
    subst hn
    have hx : l = [] := List.eq_nil_of_length_eq_zero h.len
    subst hx
    clear h e
    go_enter Try.func26, Try.ntmps26
    go_wp2
    go_ret
    exact ⟨_, rfl, OwnP.nil _ _, Below.refl _ _⟩
  | some ad =>
    have HL : Kp (([] : List Pr).length + l.length ≤ 100000) := ⟨by have := h.len; simp; omega⟩
    have E := Kp.mk e
    have HB0 : Kp (Below w.heap.size w (w.alloc (.cells #[] 43))) := ⟨(Below.refl _ _).alloc (Nat.le_refl _) _⟩
    have HR := Kp.mk (h.below HB0.it)
    have HO := Kp.mk (ownP_empty w)
    have HZ := Kp.mk HB0.it.size
    clear h e
    go_enter Try.func26, Try.ntmps26
    go_wp2_with (refine app_ps rfl (.tmp 5) (.tmp 6) rfl w.heap.size _ [] S (some ad) n c l rfl rfl HO.it HR.it E.it HZ.it HL.it ?_; intro v1 w2 hn1 hg1; have N1 := Kp.mk hn1; have W1 := Kp.mk (below_ownP HB0.it HB0.it.size HO.it (Nat.le_refl _) hg1); clear hn1 hg1)
    go_ret
    exact ⟨_, rfl, N1.it, W1.it⟩
set_option maxHeartbeats 1000000 in
theorem clonel_any (A : Option Addr) (n c : Nat) (l : List Pr) (w : World) (S : Nat → Prop) (h : RP w S A n l) (e : A = none → c = 0) (hn : n ≤ 1000) : Calls Try.prog 31 #[.slice A n c] w fun e w' =>
    ∃ v, e = .returned v ∧ OwnP w' w.heap.size v l ∧ Below w.heap.size w w' := by
  have q25 : ∀ (w : World) (a : Option Addr) (n c n' c' : Nat), (binOp .eql 54 (.slice a n c) (.slice none n' c')).run Try.prog w = .ok (.bool a.isNone) w := fun w a n c n' c' => Lib.run_eql_slice_nil w _ _ a n c n' c' Try.underlying54
  cases A with
  | none =>
    have hc := e rfl
    have hn : n = 0 := by
      rcases Nat.eq_zero_or_pos n with h0 | h0
      · exact h0
      · obtain ⟨b, o', e, _⟩ := h.row h0
        cases e
    subst hc
    subst hn
    have hx : l = [] := List.eq_nil_of_length_eq_zero h.len
    subst hx
    clear h e
    go_enter Try.func31, Try.ntmps31
    go_wp2
    go_ret
    exact ⟨_, rfl, OwnP.nil _ _, Below.refl _ _⟩
  | some ad =>
    have HL : Kp (([] : List Pr).length + l.length ≤ 100000) := ⟨by have := h.len; simp; omega⟩
    have E := Kp.mk e
    have HB0 : Kp (Below w.heap.size w (w.alloc (.cells #[] 43))) := ⟨(Below.refl _ _).alloc (Nat.le_refl _) _⟩
    have HR := Kp.mk (h.below HB0.it)
    have HO := Kp.mk (ownP_empty w)
    have HZ := Kp.mk HB0.it.size
    clear h e
    go_enter Try.func31, Try.ntmps31
    go_wp2_with (refine app_ls rfl (.tmp 5) (.tmp 6) rfl w.heap.size _ [] S (some ad) n c l rfl rfl HO.it HR.it E.it HZ.it HL.it ?_; intro v1 w2 hn1 hg1; have N1 := Kp.mk hn1; have W1 := Kp.mk (below_ownP HB0.it HB0.it.size HO.it (Nat.le_refl _) hg1); clear hn1 hg1)
    go_ret
    exact ⟨_, rfl, N1.it, W1.it⟩
end Go.Proofs.Ytcmkjoepndbicaa
