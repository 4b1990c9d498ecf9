/-
  One member more: Join.
-/
import Derived.Test.YtemnhmnompehoaaAgain
import Derived.Deep.AppendLies
import Derived.Deep.RegionHeldLaw
namespace Go.Proofs.Ytemnhmnompehoaa
open Go Go.RowKit
attribute [local go_sem ↓] Go.wp_at_zero Go.wp_at_succ

theorem Ow.gs {w0 w : World} {p i g c c0 : Nat} {A : Option Addr} {l : List Gv} {x : Gv} (h : Ow w0 w p l i g c x) (H : Gs w0 p A c0 l) (hok : GOk w x) : Gs w p (some ⟨g, 0, none⟩) c (l.set i x) :=
  ⟨by rw [List.length_set]; exact h.hp, by have := h.row; rw [List.length_set]; exact this, (fun h => by cases h), fun y hy => by
    rcases List.mem_or_eq_of_mem_set hy with hy | rfl
    · exact (H.ok y hy).past H.cell h.gr
    · exact hok⟩
theorem Own.ne_row {w : World} {base g n k : Nat} {v : Value} {xs : List Int} {l : List Gv} (h : Own w base v xs) (hr : RG w (some ⟨g, 0, none⟩) n l) (hn : 0 < n) (hk : v.ownBlock = some k) : k ≠ g := by
  rintro rfl
  obtain ⟨cur, hb⟩ := hr.blk hn
  unfold Own at h
  rcases h.2 with ⟨rfl, _⟩ | ⟨g', cap, cur', rfl, _, hh, _⟩
  · simp [Value.ownBlock] at hk
  · simp [Value.ownBlock] at hk
    subst hk
    rw [hh] at hb
    cases hb
theorem Own.next' {W : World} {base : Nat} {v u u' : Value} {xs : List Int} (h : Own W base v xs) (hd : Dj v u) (hu : u'.ownBlock = u.ownBlock ∨ ∃ b, u'.ownBlock = some b ∧ W.heap.size ≤ b) : Dj v u' := Dj.next h hd hu
theorem step_app1 {ops : Array Oper} {o : Oper} {a : Act} {K : Act → World → Prop} {Q : Exit → Act → World → Prop} {E : Prop} {W : World} (hgd : o.guard = none) (s x : Operand)
    (ho : o.op = .call { callee := .builtin .append, args := #[s, x], argTypes := #[22, 22] })
    (base : Nat) (v : Value) (xs : List Int) (y : Int) (hs : a.eval s = v) (hx : a.eval x = .slice (some ⟨W.heap.size, 0, none⟩) 1 1)
    (HO : Own W base v xs) (hbase : base ≤ W.heap.size) (hl : xs.length + 1 ≤ 17592186044416)
    (h : ∀ g cap w1, Own w1 base (.slice (some ⟨g, 0, none⟩) (xs.length + 1) cap) (xs ++ [y]) → W.grownBy w1 v.ownBlock → (v.ownBlock = some g ∨ W.heap.size ≤ g) → K (a.put o.dst (.slice (some ⟨g, 0, none⟩) (xs.length + 1) cap)) w1) :
    if Region.wanted o (yielded ops a.tmps) = true then Oper.wp Try.prog o a (W.alloc (.cells #[.int .i64 y] 3)) K Q else E := by
  obtain ⟨i0, hi, hz0, hz1, hz2⟩ := info_parts Try.info3'
  refine step_append_lies (W.alloc (.cells #[.int .i64 y] 3)) hgd s x 22 ho base 3 i0 (.int .i64 0) 1 8 Try.underlying22 hi hz0 hz1 hz2 rfl (by omega) v xs.length _ hs (World.ownsRow.alloc HO _) ⟨W.heap.size, 0, none⟩ 1 1 [.int .i64 y] hx rfl
    ?_ (by intro u hu; simp at hu; subst hu; rfl) (by omega) (by unfold maxLen; omega) (by omega) (by simp; omega) (W.heap.size + 1) (by simp) ?_
  · intro j u hj
    match j, hj with
    | 0, hj => simp at hj; subst hj; simp [Addr.add]
  · intro g cap w1 hown hg hat _
    refine h g cap w1 ?_ (World.grownBy.trans (World.grownBy_alloc W _ _) hg) ?_
    · unfold Own; simpa using hown
    · rcases hat with hat | hat
      · exact .inl hat
      · exact .inr (by omega)

theorem grown_trans {a b c : World} {p : Nat} (h : Below a.heap.size a b) (k : b.grownBy c (some p)) : a.grownBy c (some p) := (grows_below h (Nat.le_refl _) (some p)).trans k
def Gp.joined (x : Gp) : Gp := { x with mem := x.mem ++ [x.next], next := x.next + 1 }.anew
set_option maxHeartbeats 8000000 in
theorem join_ok {w : World} {p : Nat} {A : Option Addr} {c : Nat} {l : List Gv} (h : Gs w p A c l) (s : ByteArray) (k : Nat) (x : Gv) (hn : whereN s.toList l = k) (hx : l[k]? = some x)
    (hm : x.x.mem.length < 6) (ht0 : 0 ≤ x.x.term) (ht1 : x.x.term < 1099511627776) (hn0 : 0 ≤ x.x.next) (hn1 : x.x.next < 1099511627776) (hs : x.x.small) (hw1 : ∀ m ∈ x.x.own, Wf m) (hw2 : ∀ m ∈ x.x.mem, Wf m) :
    Calls Try.prog 43 #[.pointer (some ⟨p, 0, none⟩), .string s] w fun e w' =>
    e = .returned (.tuple #[.int .i64 x.x.next, .int .i64 0]) ∧ ∃ A' c' x', Gs w' p A' c' (l.set k x') ∧ x'.x = x.x.joined ∧ w.grownBy w' (some p) := by
  have HG := Kp.mk h
  have HX := Kp.mk hx
  have FI := Kp.mk (find_at h s k hn)
  have hkl : k < l.length := (List.getElem?_eq_some_iff.1 hx).1
  have hk0 : (0 : Int) ≤ ↑k := by omega
  have hk1 : (↑k : Int) < ↑l.length := by omega
  have hmm : (↑x.x.mem.length : Int) < 6 := by omega
  have hbd := h.row.bd
  have hlt := h.lt
  have HS := Kp.mk hs
  have V1 := Kp.mk hw1
  have V2 := Kp.mk hw2
  clear h hx hn hs hw1 hw2
  go_enter Try.func43, Try.ntmps43
  go_wp2_with (first | (go_at_call 64; refine FI.it.mono ?_; rintro e w1 ⟨rfl, hb1⟩; have B1 := Kp.mk hb1; have G1 := Kp.mk (HG.it.below hb1); have hsz1 := hb1.size; clear hb1; have z0 := G1.it.c0; obtain ⟨g0, rfl, hg0, b0, b1, b2, b3, b4, b5, b6⟩ := G1.it.row.get HX.it) | (go_at_call 73; refine (own_any G1.it k x HX.it).mono ?_; rintro e w2 ⟨g, c2, ⟨yx, E1, d1, E2, d2, E3, d3⟩, rfl, hO, hyx, hF⟩; (have hyx' : yx = x.x := hyx); subst hyx'; have O2 := Kp.mk hO; have F2 := Kp.mk hF; clear hO hF hyx; obtain ⟨hg2, y0, y1, y2, y3, y4, y5, y6, f0, f1, f2, f3, f4, f5, f6⟩ := O2.it.row.cells (O2.it.get hkl)))
  have hF2 : Own w2.drew w1.heap.size (.slice E1 x.x.mem.length d1) x.x.mem := F2.it.m
  have HL : Kp (x.x.mem.length + 1 ≤ 17592186044416) := ⟨by omega⟩
  have HM := Kp.mk hF2
  have hz2 : w1.heap.size ≤ w2.heap.size := O2.it.gr.size
  clear hF2
  have NE : Kp (∀ k, (Value.slice E1 x.x.mem.length d1).ownBlock = some k → w1.heap.size ≤ k ∧ k ≠ g) := ⟨fun k hk => ⟨HM.it.base_le k hk, HM.it.ne_row O2.it.row.drew (by omega) hk⟩⟩
  go_region_law (refine step_app1 (W := w2.drew) rfl (.tmp 58) (.tmp 63) rfl w1.heap.size (.slice E1 x.x.mem.length d1) x.x.mem x.x.next rfl rfl HM.it hz2 HL.it ?_; intro gm dm w3 ho3 hg3 hat3; have P3 := Kp.mk ho3; have Q3 := Kp.mk hg3; have A3 := Kp.mk hat3; clear ho3 hg3 hat3; have O3 : Kp (Ow w1 w3 p l k g c2 ⟨x.x, E1, d1, E2, d2, E3, d3⟩) := ⟨O2.it.kept (by omega) (⟨Q3.it.os, Q3.it.tape, Q3.it.output, Q3.it.size, Q3.it.block⟩ : w2.grownBy w3 _) NE.it⟩; obtain ⟨hg3', m0, m1, m2, m3, m4, m5, m6, n0, n1, n2, n3, n4, n5, n6⟩ := O3.it.row.cells (O3.it.get hkl))
  all_goals
    obtain ⟨y, hy⟩ : ∃ y : Gv, y = ⟨{ x.x with mem := x.x.mem ++ [x.x.next], next := x.x.next + 1 }, some ⟨gm, 0, none⟩, dm, E2, d2, E3, d3⟩ := ⟨_, rfl⟩
    have hlen : (x.x.mem ++ [x.x.next]).length = x.x.mem.length + 1 := by simp
    obtain ⟨cur3, hc3⟩ := O3.it.row.blk (by omega)
    have Q3' : Kp (w2.grownBy w3 (Value.slice E1 x.x.mem.length d1).ownBlock) := ⟨⟨Q3.it.os, Q3.it.tape, Q3.it.output, Q3.it.size, Q3.it.block⟩⟩
    have HN : (Value.slice (some ⟨gm, 0, none⟩) (x.x.mem.length + 1) dm).ownBlock = (Value.slice E1 x.x.mem.length d1).ownBlock ∨ ∃ b, (Value.slice (some ⟨gm, 0, none⟩) (x.x.mem.length + 1) dm).ownBlock = some b ∧ w2.heap.size ≤ b := by
      rcases A3.it with h | h
      · exact .inl (by rw [h]; rfl)
      · exact .inr ⟨gm, rfl, h⟩
    have O4 : Kp (Ow w1 ((w3.setCell ⟨g, k * 7 + 4, none⟩ (.slice (some ⟨gm, 0, none⟩) (x.x.mem.length + 1) dm)).setCell ⟨g, k * 7 + 3, none⟩ (.int .i64 (x.x.next + 1))) p l k g c2 y) := ⟨
      (O3.it.store (y := ⟨{ x.x with mem := x.x.mem ++ [x.x.next] }, some ⟨gm, 0, none⟩, dm, E2, d2, E3, d3⟩) hkl (by omega) (by unfold Gv.cells; dsimp only; rw [hlen]; rfl) (by omega)).store hkl (by omega) (by rw [hy]; rfl) (by omega)⟩
    have F4 : Kp (Fresh ((w3.setCell ⟨g, k * 7 + 4, none⟩ (.slice (some ⟨gm, 0, none⟩) (x.x.mem.length + 1) dm)).setCell ⟨g, k * 7 + 3, none⟩ (.int .i64 (x.x.next + 1))) w1.heap.size y) := ⟨by
      rw [hy]
      have hc4 := blk_set (o := k * 7 + 4) (.slice (some ⟨gm, 0, none⟩) (x.x.mem.length + 1) dm) hc3
      have q1 := (P3.it.far (k := k * 7 + 4) (u := .slice (some ⟨gm, 0, none⟩) (x.x.mem.length + 1) dm) hc3 (by decide)).far (k := k * 7 + 3) (u := .int .i64 (x.x.next + 1)) hc4 (by decide)
      have q2 := ((F2.it.o.grow Q3'.it F2.it.mo.symm).far (k := k * 7 + 4) (u := .slice (some ⟨gm, 0, none⟩) (x.x.mem.length + 1) dm) hc3 (by decide)).far (k := k * 7 + 3) (u := .int .i64 (x.x.next + 1)) hc4 (by decide)
      have q3 := ((F2.it.t.grow Q3'.it F2.it.mt.symm).far (k := k * 7 + 4) (u := .slice (some ⟨gm, 0, none⟩) (x.x.mem.length + 1) dm) hc3 (by decide)).far (k := k * 7 + 3) (u := .int .i64 (x.x.next + 1)) hc4 (by decide)
      refine ⟨?_, q2, q3, ?_, ?_, F2.it.ot⟩
      · dsimp only; rw [hlen]; exact q1
      · dsimp only; rw [hlen]; exact (F2.it.o.next' F2.it.mo.symm HN).symm
      · dsimp only; rw [hlen]; exact (F2.it.t.next' F2.it.mt.symm HN).symm⟩
    have YX : Kp (y.x.anew = x.x.joined) := ⟨by rw [hy]; rfl⟩
    have YN : Kp (y.x.anew.next = x.x.next + 1) := ⟨by rw [hy]; rfl⟩
    have AG := Kp.mk (again_any O4.it F4.it (by rw [hy]; exact ⟨by dsimp only; rw [hlen]; omega, HS.it.o, HS.it.t⟩) hkl (by omega) (by rw [hy]; exact ht0) (by rw [hy]; exact Int.le_of_lt ht1) (by rw [hy]; exact V1.it) (by
      rw [hy]
      intro m hm
      rcases List.mem_append.1 hm with hm | hm
      · exact V2.it m hm
      · simp at hm; subst hm; exact wf_of (by omega) (by omega)))
    have hso : (share y.x.own y.x.mem).length ≤ 1000 := by rw [share_len, hy]; exact HS.it.o
    have SM : Kp y.x.anew.small := ⟨⟨by rw [hy]; dsimp only [Gp.anew]; rw [hlen]; omega, hso, by rw [hy]; exact HS.it.t⟩⟩
    clear hy hso HN hlen
    go_wp2_with fail
    go_at_call 74
    refine AG.it.mono ?_
    rintro e w5 ⟨rfl, z, hz, hO5, hF5⟩
    have ZX := Kp.mk hz
    have O5 := Kp.mk hO5
    have F5 := Kp.mk hF5
    have hzn : z.x.next = x.x.next + 1 := by rw [hz]; exact YN.it
    clear hz hO5 hF5
    obtain ⟨hg5, r0, r1, r2, r3, r4, r5, r6, _⟩ := O5.it.row.cells (O5.it.get hkl)
    rw [hzn] at r3
    go_wp2
    go_ret2
    refine ⟨rfl, _, _, _, O5.it.gs G1.it (F5.it.ok (by rw [ZX.it]; exact SM.it)), ZX.it.trans YX.it, grown_trans B1.it O5.it.gr⟩
