/-
  slices.Delete of one group; Drop.
-/
import Derived.Test.YtemnhmnompehoaaFail2
namespace Go.Proofs.Ytemnhmnompehoaa
open Go Go.RowKit
attribute [local go_sem ↓] Go.wp_at_zero Go.wp_at_succ

theorem block_at {g : Nat} {t : TypeId} (vs : List Value) : ∀ {wr : World} {cur : Array Value} (o : Nat), wr.heap[g]? = some (.cells cur t (0, 0)) → o + vs.length ≤ cur.size →
    ∃ cur', (wr.setCells g o vs).heap[g]? = some (.cells cur' t (0, 0)) ∧ cur'.size = cur.size ∧ (∀ q, q < o ∨ o + vs.length ≤ q → cur'[q]? = cur[q]?) ∧ ∀ j, j < vs.length → cur'[o + j]? = vs[j]? := by
  induction vs with
  | nil => intro wr cur o h _; exact ⟨cur, h, rfl, fun _ _ => rfl, fun j hj => by simp at hj⟩
  | cons v vs ih =>
    intro wr cur o h hl
    rw [List.length_cons] at hl
    obtain ⟨c', h1, h2, h3, h4⟩ := ih (o + 1) (blk_set (o := o) v h) (by simp; omega)
    refine ⟨c', h1, by rw [h2]; simp, fun q hq => ?_, fun j hj => ?_⟩
    · rw [List.length_cons] at hq
      rw [h3 q (by omega), Array.getElem?_setIfInBounds, if_neg (by omega)]
    · cases j with
      | zero => rw [Nat.add_zero, h3 o (by omega), Array.getElem?_setIfInBounds_self, if_pos (by omega)]; rfl
      | succ j =>
        rw [List.length_cons] at hj
        have := h4 j (by omega)
        rw [show o + (j + 1) = o + 1 + j by omega, this]
        rfl
theorem run_clear_one {P : Program} (w : World) (t e ty : TypeId) (z : Value) (zs : List Value) (ht : P.underlying t = some (.slice e)) (hv : ∀ w, (zeroValue e).run P w = .ok z w) (hz : (Builtin.zeroCells z.cells 1).toList = zs) (h1 : ∀ v ∈ zs, v.oneCell' = true) (b o c : Nat)
    (hc : ∀ j, j < zs.length → (w.cell? ⟨b, o + j, none⟩).isSome = true) (hf : ∀ j, j < zs.length → w.frozen? ⟨b, o + j, none⟩ = false) :
    (Builtin.clear_ #[t] ty #[.slice (some ⟨b, o, none⟩) 1 c]).run P w = .ok (.tuple #[]) (w.setCells b o zs) := by
  have hst := run_storeCells_cells (P := P) b o zs 0 w (by simpa using hc) (by simpa using hf) h1
  simp only [Nat.add_zero] at hst
  simp [Builtin.clear_, run_underlying ht, hv, hz, hst]
abbrev zg : List Value := [.string ⟨#[]⟩, .int .i64 0, .int .i64 0, .int .i64 0, .slice none 0 0, .slice none 0 0, .slice none 0 0]
theorem flat_erase (l : List Gv) (i : Nat) : flat (l.eraseIdx i) = flat (l.take i) ++ flat (l.drop (i + 1)) := by rw [List.eraseIdx_eq_take_drop_succ, flat_append]
theorem del_fin {w : World} {g c base i n : Nat} {l : List Gv} {cur : Array Value} (hn : n = l.length) (hi : i < n) (hnc : n ≤ c) (hcm : c ≤ 9223372036854775807) (hb : base ≤ g) (hh : w.heap[g]? = some (.cells cur 51 (0, 0))) (hcs : cur.size = c * 7) (hct : cur.toList.take (n * 7) = flat l) :
    ∃ cur1, (w.drew.setCells g (i * 7) (flat (l.drop (i + 1)))).heap[g]? = some (.cells cur1 51 (0, 0)) ∧ cur1.size = c * 7 ∧
      OwnG ((w.drew.setCells g (i * 7) (flat (l.drop (i + 1)))).setCells g ((n - 1) * 7) zg) base (.slice (some ⟨g, 0, none⟩) (n - 1) c) (l.eraseIdx i) ∧
      w.grownBy ((w.drew.setCells g (i * 7) (flat (l.drop (i + 1)))).setCells g ((n - 1) * 7) zg) (some g) := by
  have hl1 : (flat (l.drop (i + 1))).length = (n - (i + 1)) * 7 := by rw [flat_len, List.length_drop, ← hn]
  obtain ⟨cur1, k1, k2, k3, k4⟩ := block_at (wr := w.drew) (flat (l.drop (i + 1))) (i * 7) hh (by rw [hcs, hl1]; omega)
  obtain ⟨cur2, m1, m2, m3, _⟩ := block_at zg ((n - 1) * 7) k1 (by rw [k2, hcs]; simp; omega)
  refine ⟨cur1, k1, by rw [k2, hcs], ?_, grown_sets _ _ (grown_sets _ _ (grows_below (below_drew (Below.refl _ _)) (Nat.le_refl _) _))⟩
  have hlen : (l.eraseIdx i).length = n - 1 := by rw [List.length_eraseIdx, if_pos (by omega), hn]
  have hcur : ∀ q, q < n * 7 → cur[q]? = (flat l)[q]? := fun q hq => by rw [← hct, List.getElem?_take, if_pos hq]; simp
  unfold OwnG
  refine ⟨by rw [flat_len], .inr ⟨g, c, cur2, by rw [hlen], hb, m1, by omega, by unfold maxLen; omega, by rw [m2, k2, hcs], ?_⟩⟩
  apply List.ext_getElem?
  intro q
  rw [hlen, List.getElem?_take]
  by_cases hq : q < (n - 1) * 7
  · rw [if_pos hq, flat_erase]
    have e1 : cur2.toList[q]? = cur1[q]? := by rw [← m3 q (.inl hq)]; simp
    rw [e1]
    by_cases hq1 : q < i * 7
    · rw [k3 q (.inl (by omega)), hcur q (by omega), List.getElem?_append_left (by rw [flat_len, List.length_take]; omega)]
      have e2 : flat l = flat (l.take i) ++ flat (l.drop i) := by rw [← flat_append, List.take_append_drop]
      rw [e2, List.getElem?_append_left (by rw [flat_len, List.length_take]; omega)]
    · have := k4 (q - i * 7) (by rw [hl1]; omega)
      rw [show i * 7 + (q - i * 7) = q by omega] at this
      rw [this, List.getElem?_append_right (by rw [flat_len, List.length_take]; omega), flat_len, List.length_take, Nat.min_eq_left (by omega)]
  · rw [if_neg hq, List.getElem?_eq_none (by rw [flat_len, hlen]; omega)]
theorem zero51 (w : World) : (zeroValue 51).run Try.prog w = .ok (.agg #[.string ⟨#[]⟩, .int .i64 0, .int .i64 0, .int .i64 0, .slice none 0 0, .slice none 0 0, .slice none 0 0]) w := by kernel_rfl
set_option maxHeartbeats 4000000 in
theorem del_g {w : World} {g c base i : Nat} {l : List Gv} (h : OwnG w base (.slice (some ⟨g, 0, none⟩) l.length c) l) (hi : i < l.length) (hl : l.length ≤ 1000) :
    Calls Try.prog 71 #[.slice (some ⟨g, 0, none⟩) l.length c, .int .i64 i, .int .i64 ((i : Int) + 1)] w fun e w' => e = .returned (.slice (some ⟨g, 0, none⟩) (l.length - 1) c) ∧ OwnG w' base (.slice (some ⟨g, 0, none⟩) (l.length - 1) c) (l.eraseIdx i) ∧ w.grownBy w' (some g) := by
  obtain ⟨n, hn⟩ : ∃ n, n = l.length := ⟨_, rfl⟩
  unfold OwnG at h
  rw [← hn] at h hi hl ⊢
  obtain ⟨m, rfl⟩ : ∃ m, n = m + 1 := ⟨n - 1, by omega⟩
  rw [Nat.add_sub_cancel]
  rcases h.2 with ⟨e, _⟩ | ⟨g', c', cur, e, hb, hh, hnc, hcm, hcs, hct⟩
  · cases e
  cases e
  unfold maxLen at hcm
  have hi0 : (0 : Int) ≤ ↑i := by omega
  have hi1 : (↑i : Int) < (↑m + 1) := by omega
  have hne : ((i : Int) == (i : Int) + 1) = false := by rw [beq_eq_false_iff_ne]; omega
  have hnc' : ((↑m + 1) : Int) ≤ ↑c := by omega
  obtain ⟨i0, hi0', hz0, hz1, hz2⟩ := info_parts Try.info51'
  have HF : Kp (flat l = cur.toList.take ((m + 1) * 7)) := ⟨hct.symm⟩
  have HN := Kp.mk hn
  have HH := Kp.mk hh
  have HCS := Kp.mk hcs
  have hlt : g < w.heap.size := (Array.getElem?_eq_some_iff.1 hh).1
  obtain ⟨news, hnews⟩ : ∃ news, news = flat (l.drop (i + 1)) := ⟨_, rfl⟩
  have hnl : news.length = (m - i) * 7 := by rw [hnews, flat_len, List.length_drop, ← hn]; omega
  have hcell : ∀ j u, (flat l)[j]? = some u → w.cell? ⟨g, j, none⟩ = some u := fun j u hj => by
    have : cur[j]? = some u := by
      rw [HF.it, List.getElem?_take] at hj
      split at hj
      · simpa using hj
      · cases hj
    exact blk_cell HH.it this
  have HNW : Kp (∀ j u, news[j]? = some u → (flat l)[(i + 1) * 7 + j]? = some u) := ⟨fun j u hj => by
    have : flat l = flat (l.take (i + 1)) ++ news := by rw [hnews, ← flat_append, List.take_append_drop]
    rw [this, List.getElem?_append_right (by rw [flat_len, List.length_take]; omega), flat_len, List.length_take, Nat.min_eq_left (by omega), Nat.add_sub_cancel_left]
    exact hj⟩
  have H1C : Kp (∀ u ∈ news, u.oneCell' = true) := ⟨by rw [hnews]; exact flat_one _⟩
  have HC := Kp.mk hcell
  obtain ⟨cur1, k1, k2, k3, k4⟩ := del_fin hn hi hnc hcm hb hh hcs hct
  rw [← hnews] at k1 k3 k4
  rw [Nat.add_sub_cancel] at k3 k4
  have hic : i ≤ c := by omega
  have hi2 : (↑i : Int) + 1 ≤ (↑m + 1) := by omega
  have hi3 : (0 : Int) ≤ ↑i + 1 := by omega
  have hi4 : (↑i : Int) ≤ ↑i + 1 := by omega
  have hic1 : i + 1 ≤ c := by omega
  have hin1 : i + 1 ≤ m + 1 := by omega
  have hsum : i + (m - i) = m := by omega
  have HSP : Kp (∀ j, j < news.length → (w.drew.cell? ⟨g, 0 + i * 7 + j, none⟩).isSome = true ∧ w.drew.frozen? ⟨g, 0 + i * 7 + j, none⟩ = false) := ⟨fun j hj => by
    have hlt : i * 7 + j < cur.size := by rw [HCS.it]; omega
    have : w.cell? ⟨g, 0 + i * 7 + j, none⟩ = some cur[i * 7 + j] := by rw [Nat.zero_add]; exact blk_cell HH.it (Array.getElem?_eq_getElem hlt)
    exact ⟨by show (w.cell? _).isSome = true; rw [this]; rfl, blk_free HH.it⟩⟩
  have K1 := Kp.mk k1
  have K2 := Kp.mk k2
  have K3 := Kp.mk k3
  have K4 := Kp.mk k4
  clear hn hct hh hcs hnews hcell k1 k2 k3 k4
  by_cases hc1 : c = i + 1
  · have hn1 : i = m := by omega
    have hnil : news = [] := List.eq_nil_of_length_eq_zero (by rw [hnl]; omega)
    subst hnil
    subst hn1
    subst hc1
    clear hnl hsum HSP HNW
    go_enter Try.func71, Try.ntmps71
    go_wp2_with fail
    go_region_law (refine step_append_room (w := w.drew) rfl (.tmp 22) (.tmp 25) 36 rfl 51 i0 7 Try.underlying36 hi0' hz1 g 0 i (i + 1) rfl ⟨g, 0, none⟩ 0 0 [] rfl rfl (fun j u hj => by cases hj) (fun u hu => by cases hu) (by omega) (fun j hj => by cases hj) ?_)
    all_goals
      obtain ⟨W1, hW1⟩ : ∃ W1, W1 = w.drew.setCells g (i * 7) [] := ⟨_, rfl⟩
      rw [← hW1] at K1 K3 K4
      rw [← hW1]
      have hcl : ∀ ty, (Builtin.clear_ #[36] ty #[.slice (some ⟨g, i * 7, none⟩) 1 (1)]).run Try.prog W1 = .ok (.tuple #[]) (W1.setCells g (i * 7) zg) := fun ty =>
        run_clear_one W1 36 51 ty _ zg Try.underlying36 zero51 (by kernel_rfl) (by intro v hv; simp at hv; rcases hv with rfl | rfl | rfl <;> rfl) g (i * 7) (1) (fun j hj => by
          have hj7 : j < 7 := hj
          rw [blk_cell K1.it (Array.getElem?_eq_getElem (by rw [K2.it]; omega))]; rfl) (fun j hj => blk_free K1.it)
      clear hW1
      go_wp2
      go_ret
      exact ⟨rfl, K3.it, K4.it⟩
  · go_enter Try.func71, Try.ntmps71
    go_wp2_with fail
    go_region_law (refine step_append_room (w := w.drew) rfl (.tmp 22) (.tmp 25) 36 rfl 51 i0 7 Try.underlying36 hi0' hz1 g 0 i c rfl ⟨g, (i + 1) * 7, none⟩ (m - i) (c - (i + 1)) news rfl hnl (fun j u hj => by rw [add_plain]; exact HC.it _ _ (HNW.it j u hj)) H1C.it (by omega) HSP.it ?_)
    all_goals
      obtain ⟨W1, hW1⟩ : ∃ W1, W1 = w.drew.setCells g (i * 7) news := ⟨_, rfl⟩
      rw [← hW1] at K1 K3 K4
      rw [← hW1]
      have hcl : ∀ ty, (Builtin.clear_ #[36] ty #[.slice (some ⟨g, m * 7, none⟩) 1 (c - m)]).run Try.prog W1 = .ok (.tuple #[]) (W1.setCells g (m * 7) zg) := fun ty =>
        run_clear_one W1 36 51 ty _ zg Try.underlying36 zero51 (by kernel_rfl) (by intro v hv; simp at hv; rcases hv with rfl | rfl | rfl <;> rfl) g (m * 7) (c - m) (fun j hj => by
          have hj7 : j < 7 := hj
          rw [blk_cell K1.it (Array.getElem?_eq_getElem (by rw [K2.it]; omega))]; rfl) (fun j hj => blk_free K1.it)
      clear hW1
      clear hsum hnl
      go_wp2
      go_ret
      exact ⟨rfl, K3.it, K4.it⟩
theorem gs_drop {w1 w3 : World} {p c base g c3 k : Nat} {A : Option Addr} {l : List Gv} (G : Gs w1 p A c l) (hB : Below w1.heap.size w1 w3) (ho : OwnG w3 base (.slice (some ⟨g, 0, none⟩) (l.length - 1) c3) (l.eraseIdx k)) (hb : w1.heap.size ≤ base) (hk : k < l.length) (hl : l.length ≤ 1000) :
    Gs (w3.setCell ⟨p, 0, none⟩ (.slice (some ⟨g, 0, none⟩) (l.length - 1) c3)) p (some ⟨g, 0, none⟩) c3 (l.eraseIdx k) := by
  have hlen : (l.eraseIdx k).length = l.length - 1 := by rw [List.length_eraseIdx, if_pos hk]
  have hp6 := (hB.block p G.lt).trans G.cell
  have hg : base ≤ g := ho.base_le g rfl
  have hpl := G.lt
  have hgs := grown_set (World.grownBy.refl w3 (some p)) 0 (.slice (some ⟨g, 0, none⟩) (l.length - 1) c3)
  obtain ⟨A', c', e, _, hr⟩ := ho.form (by omega)
  rw [hlen] at e
  cases e
  refine ⟨?_, ?_, (fun h => by cases h), fun x hx => ?_⟩
  · rw [blk_set _ hp6, hlen]; rfl
  · exact hr.kept hgs (by simp; omega)
  · exact ((G.ok x (List.mem_of_mem_eraseIdx hx)).below hB).past hp6 hgs
set_option maxHeartbeats 2000000 in
theorem drop_ok {w : World} {p : Nat} {A : Option Addr} {c : Nat} {l : List Gv} (h : Gs w p A c l) (s : ByteArray) (k : Nat) (x : Gv) (hn : whereN s.toList l = k) (hx : l[k]? = some x) :
    Calls Try.prog 42 #[.pointer (some ⟨p, 0, none⟩), .string s] w fun e w' => e = .returned (.tuple #[.int .i64 x.x.sub, .int .i64 0]) ∧ ∃ A' c', Gs w' p A' c' (l.eraseIdx k) ∧ w.grownBy w' (some p) := by
  have HG := Kp.mk h
  have HX := Kp.mk hx
  have FI := Kp.mk (find_at h s k hn)
  have hkl : k < l.length := (List.getElem?_eq_some_iff.1 hx).1
  have hk0 : (0 : Int) ≤ ↑k := by omega
  have hk1 : (↑k : Int) < ↑l.length := by omega
  have hbd := h.row.bd
  have hlt := h.lt
  clear h hx hn
  go_enter Try.func42, Try.ntmps42
  go_wp2_with (first | (go_at_call 64; refine FI.it.mono ?_; rintro e w1 ⟨rfl, hb1⟩; have B1 := Kp.mk hb1; have G1 := Kp.mk (HG.it.below hb1); have hsz1 := hb1.size; clear hb1; have z0 := G1.it.c0; obtain ⟨g0, rfl, hg0, b0, b1, b2, b3, b4, b5, b6⟩ := G1.it.row.get HX.it) | (go_at_call 72; refine (cloneg_any _ l.length c l w1 G1.it.row G1.it.nil).mono ?_; rintro e w2 ⟨v2, rfl, ho2, hb2⟩; obtain ⟨A2, c2, rfl, hnn, hr2⟩ := OwnG.form ho2 (by omega); obtain ⟨g, _, rfl, hg2, _⟩ := hr2.row (by omega); have O2 := Kp.mk ho2; have B2 := Kp.mk hb2; have hsz2 := hb2.size; clear ho2 hr2 hb2 hnn) | (go_at_call 71; refine (del_g O2.it hkl (by omega)).mono ?_; rintro e w3 ⟨rfl, ho3, hg3⟩; have B3 : Kp (Below w1.heap.size w1 w3) := ⟨B2.it.grown hg3 hsz2 (fun q hq => by cases hq; exact O2.it.base_le g rfl)⟩; have G3 := Kp.mk (gs_drop G1.it B3.it ho3 (Nat.le_refl _) hkl (by omega)); have P3 := Kp.mk ((B3.it.block p (by omega)).trans G1.it.cell); have z3 := blk_cell (o := 0) P3.it rfl; have f3 : w3.frozen? ⟨p, 0, none⟩ = false := blk_free P3.it; clear ho3 hg3))
  go_ret2
  exact ⟨rfl, _, _, G3.it, grown_set (grows_below (B1.it.trans (B3.it.mono hsz1)) (Nat.le_refl _) _) _ _⟩
end Go.Proofs.Ytemnhmnompehoaa
