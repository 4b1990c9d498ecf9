/-
  The events of all parts are all events, each once, each part's in their order.
-/
import Derived.Test.YtemnhmnompehoaaLawParts
import Derived.Test.YtemnhmnompehoaaRow
namespace Go.Proofs.Ytemnhmnompehoaa
open Go.ChangeShapes Go.WideShapes Go.ChangeAt Go.RowKit

theorem part_bd {p : Int} (hp : 0 < p) (s : ByteArray) : 0 ≤ partOf p s ∧ partOf p s < p := by
  unfold partOf
  rw [if_neg (by omega)]
  exact ⟨Int.emod_nonneg _ (by omega), Int.emod_lt_of_pos _ hp⟩
/-- How many events are of the first k parts. -/
def tot (p : Int) (ks : List Ev) (k : Nat) : Nat := ks.countP (fun e => decide (partOf p e.key < (k : Int)))
theorem tot_zero {p : Int} (hp : 0 < p) (ks : List Ev) : tot p ks 0 = 0 := by
  unfold tot
  rw [List.countP_eq_zero]
  intro e _
  have := (part_bd hp e.key).1
  simp
  omega
theorem isOf_pos {p : Int} (hp : 0 < p) (q : Int) (k : Ev) : isOf p q k = decide (partOf p k.key = q) := by
  unfold isOf
  rw [show decide (0 < p) = true by simpa using hp, Bool.true_and]
  exact Bool.beq_eq_decide_eq _ _
theorem tot_succ {p : Int} (hp : 0 < p) (ks : List Ev) (k : Nat) : tot p ks (k + 1) = tot p ks k + (passE p k ks).length := by
  unfold tot passE
  induction ks with
  | nil => rfl
  | cons e l ih =>
    rw [List.countP_cons, List.countP_cons, List.filter_cons, isOf_pos hp, ih]
    by_cases h1 : partOf p e.key = (k : Int)
    · rw [decide_eq_true (show partOf p e.key < ((k + 1 : Nat) : Int) by omega), decide_eq_false (show ¬ partOf p e.key < (k : Int) by omega), decide_eq_true h1, if_pos rfl, if_pos rfl, if_neg (by simp), List.length_cons]
      omega
    · by_cases h2 : partOf p e.key < (k : Int)
      · rw [decide_eq_true (show partOf p e.key < ((k + 1 : Nat) : Int) by omega), decide_eq_true h2, decide_eq_false h1]
        simp only [if_true, Bool.false_eq_true, if_false]
        omega
      · rw [decide_eq_false (show ¬ partOf p e.key < ((k + 1 : Nat) : Int) by omega), decide_eq_false h2, decide_eq_false h1]
        simp only [Bool.false_eq_true, if_false]
        omega
theorem tot_le (p : Int) (ks : List Ev) (k : Nat) : tot p ks k ≤ ks.length := List.countP_le_length
theorem tot_all {P : Nat} (hP : 0 < P) (ks : List Ev) : tot (P : Int) ks P = ks.length := by
  unfold tot
  rw [List.countP_eq_length]
  intro e _
  have := (part_bd (p := (P : Int)) (by omega) e.key).2
  simpa using this
/-- How many of each part came so far. -/
def cnts (P : Nat) (ks : List Ev) (k : Nat) : List Int := (List.range P).map fun q : Nat => ((passE (P : Int) (q : Int) (ks.take k)).length : Int)
theorem cnts_len (P : Nat) (ks : List Ev) (k : Nat) : (cnts P ks k).length = P := by simp [cnts]
theorem cnts_rd {P r : Nat} (ks : List Ev) (k : Nat) (hr : r < P) : rd (cnts P ks k) r = ((passE (P : Int) (r : Int) (ks.take k)).length : Int) := by
  rw [rd_lt (by rw [cnts_len]; exact hr)]
  simp [cnts]
theorem cnts_zero (P : Nat) (ks : List Ev) : cnts P ks 0 = List.replicate P 0 := by
  unfold cnts passE
  simp [List.map_const']
theorem cnts_succ {P r : Nat} {ks : List Ev} {k : Nat} {x : Ev} (hx : ks[k]? = some x) (hP : 0 < P) (hr : partOf (P : Int) x.key = (r : Int)) :
    cnts P ks (k + 1) = (cnts P ks k).set r (((passE (P : Int) (r : Int) (ks.take k)).length : Int) + 1) := by
  apply List.ext_getElem (by simp [cnts])
  intro i h1 h2
  have hi : i < P := by rw [cnts_len] at h1; exact h1
  rw [List.getElem_set, ← rd_lt h1, ← rd_lt (by rw [cnts_len]; exact hi), cnts_rd _ _ hi, cnts_rd _ _ hi, passE_succ _ _ ks hx, isOf_pos (by omega), hr]
  by_cases h : r = i
  · subst h
    simp
  · have : ¬ ((r : Int) = (i : Int)) := by omega
    simp [h, this]
theorem pass_at {p q : Int} {ks : List Ev} {k : Nat} {x : Ev} (hx : ks[k]? = some x) (h : isOf p q x = true) : (passE p q ks)[(passE p q (ks.take k)).length]? = some x := by
  obtain ⟨hk, rfl⟩ := List.getElem?_eq_some_iff.1 hx
  have e : ks = ks.take k ++ ks[k] :: ks.drop (k + 1) := by
    rw [← List.drop_eq_getElem_cons hk, List.take_append_drop]
  have e2 : passE p q ks = passE p q (ks.take k) ++ ks[k] :: passE p q (ks.drop (k + 1)) := by
    conv => lhs; rw [e]
    unfold passE
    rw [List.filter_append, List.filter_cons, if_pos h]
  rw [e2, List.getElem?_append_right (Nat.le_refl _), Nat.sub_self]
  rfl

theorem RE.far {w : World} {A : Option Addr} {n : Nat} {ks : List Ev} (h : RE w A n ks) {G o : Nat} {v : Value} (hne : ∀ b o' s, A = some ⟨b, o', s⟩ → b ≠ G) : RE (w.setCell ⟨G, o, none⟩ v) A n ks :=
  ⟨h.len, h.bd, h.str, fun hn => by
    obtain ⟨b, o', e, hl, hc⟩ := h.row hn
    exact ⟨b, o', e, by rw [size_set]; exact hl, fun i k hk j u hu => (cell_other _ _ _ _ (hne b o' none e)).trans (hc i k hk j u hu)⟩⟩

/-- A slice. -/
structure Rw where
  A : Option Addr
  n : Nat
  c : Nat
def Rw.val (r : Rw) : Value := .slice r.A r.n r.c
theorem Try.info56' : (Try.prog.info? 56).map (fun i => (i.zero, i.size, i.bytes)) = some (some (.slice none 0 0), 1, 24) := by kernel_rfl
def OwnS (W : World) (base : Nat) (v : Value) (L : List Rw) : Prop := W.ownsRow base 56 1 v L.length (L.map Rw.val)
theorem OwnS.base_le {W : World} {base : Nat} {v : Value} {L : List Rw} (h : OwnS W base v L) (k : Nat) (hk : v.ownBlock = some k) : base ≤ k := by
  unfold OwnS at h
  rcases h.2 with ⟨rfl, _⟩ | ⟨g, cap, cur, rfl, hb, _⟩
  · simp [Value.ownBlock] at hk
  · have : g = k := by simpa [Value.ownBlock] using hk
    omega
theorem OwnS.form {W : World} {base : Nat} {v : Value} {L : List Rw} (h : OwnS W base v L) :
    ∃ A c, v = .slice A L.length c ∧ (0 < L.length → ∃ b, A = some ⟨b, 0, none⟩ ∧ base ≤ b ∧ b < W.heap.size ∧ ∀ (q : Nat) (r : Rw), L[q]? = some r → W.cell? ⟨b, q, none⟩ = some (.slice r.A r.n r.c)) := by
  unfold OwnS at h
  rcases h.2 with ⟨rfl, h0⟩ | ⟨g, cap, cur, rfl, hb, hh, h1, h2, h3, h4⟩
  · exact ⟨none, 0, by rw [h0], fun h => absurd h (by omega)⟩
  · refine ⟨_, cap, rfl, fun _ => ⟨g, rfl, hb, (Array.getElem?_eq_some_iff.1 hh).1, fun q r hq => ?_⟩⟩
    have hl : q < L.length := (List.getElem?_eq_some_iff.1 hq).1
    refine blk_cell hh ?_
    have e : (L.map Rw.val)[q]? = some (.slice r.A r.n r.c) := by rw [List.getElem?_map, hq]; rfl
    rw [← h4, List.getElem?_take, if_pos (by omega)] at e
    simpa using e
theorem OwnS.below {W W' : World} {base : Nat} {v : Value} {L : List Rw} (h : OwnS W base v L) (hb : Below W.heap.size W W') : OwnS W' base v L :=
  World.ownsRow.kept h (⟨hb.os, hb.tape, hb.output, hb.size, fun i hi _ => hb.block i hi⟩ : W.grownBy W' none) (by cases v.ownBlock <;> simp)
theorem OwnS.alloc {W : World} {base : Nat} {v : Value} {L : List Rw} (h : OwnS W base v L) (o : Obj) : OwnS (W.alloc o) base v L := World.ownsRow.alloc h o
theorem OwnS.far {W : World} {base : Nat} {v : Value} {L : List Rw} (h : OwnS W base v L) {G o : Nat} {u : Value} (hG : G < base) : OwnS (W.setCell ⟨G, o, none⟩ u) base v L := by
  refine World.ownsRow.kept h (grown_set (World.grownBy.refl W (some G)) o u) ?_
  have := h.base_le
  cases hv : v.ownBlock with
  | none => simp
  | some k => have := this k hv; simp; omega
theorem below_ownS {B base : Nat} {w0 wr w1 : World} {v : Value} {L : List Rw} (hW : Below B w0 wr) (hsz : B ≤ wr.heap.size) (hown : OwnS wr base v L) (hbase : B ≤ base) (hg : wr.grownBy w1 v.ownBlock) : Below B w0 w1 :=
  hW.grown hg hsz (fun k hk => Nat.le_trans hbase (hown.base_le k hk))
theorem app_s {ops : Array Oper} {rest : List Oper} {o : Oper} {a : Act} {Q : Exit → Act → World → Prop} {W : World} (hgd : o.guard = none) (s x : Operand)
    (ho : o.op = .call { callee := .builtin .append, args := #[s, x], argTypes := #[64, 64] })
    (base : Nat) (v : Value) (L : List Rw) (y : Rw) (hs : a.eval s = v) (hx : a.eval x = .slice (some ⟨W.heap.size, 0, none⟩) 1 1)
    (HO : OwnS W base v L) (hbase : base ≤ W.heap.size) (hl : L.length + 1 ≤ 1000)
    (h : ∀ v1 w1, OwnS w1 base v1 (L ++ [y]) → W.grownBy w1 v.ownBlock → (v1.ownBlock = v.ownBlock ∨ ∃ b, v1.ownBlock = some b ∧ W.heap.size ≤ b) → wpList Try.prog ops Q rest (a.put o.dst v1) w1) :
    wpList Try.prog ops Q (o :: rest) a (W.alloc (.cells #[.slice y.A y.n y.c] 56)) := by
  obtain ⟨i0, hi, hz0, hz1, hz2⟩ := info_parts Try.info56'
  refine wpList_append_own_at (W.alloc (.cells #[.slice y.A y.n y.c] 56)) hgd s x 64 ho base 56 i0 (.slice none 0 0) 1 24 Try.underlying64 hi hz0 hz1 hz2 rfl (by omega) v L.length _ hs (World.ownsRow.alloc HO _) ⟨W.heap.size, 0, none⟩ 1 1 [.slice y.A y.n y.c] hx rfl
    ?_ (by intro u hu; simp at hu; subst hu; rfl) (by unfold maxLen; omega) (by omega) (by simp; omega) ?_
  · intro j u hj
    match j, hj with
    | 0, hj => simp at hj; subst hj; simp [Addr.add]
  · intro v1 w1 hown hg _ hat
    refine h v1 w1 ?_ (World.grownBy.trans (World.grownBy_alloc W _ _) hg) ?_
    · unfold OwnS
      rw [List.length_append, List.map_append]
      exact hown
    · rcases hat with hat | hat
      · exact .inl hat
      · exact .inr ⟨_, hat, by simp⟩
theorem RE.grown {w w' : World} {A : Option Addr} {n : Nat} {ks : List Ev} (h : RE w A n ks) {X : Option Nat} (hg : w.grownBy w' X) (hne : ∀ b o' s, A = some ⟨b, o', s⟩ → X ≠ some b) : RE w' A n ks :=
  ⟨h.len, h.bd, h.str, fun hn => by
    obtain ⟨b, o', e, hl, hc⟩ := h.row hn
    refine ⟨b, o', e, Nat.lt_of_lt_of_le hl hg.size, fun i k hk j u hu => ?_⟩
    rw [← hc i k hk j u hu]
    unfold World.cell?
    rw [hg.block b hl (Ne.symm (hne b o' none e))]⟩
/-- The rows of the first parts; none lies in block G, none in X. -/
def Rows3 (w : World) (G : Nat) (X : Option Nat) (P : Nat) (ks : List Ev) (L : List Rw) : Prop :=
  ∀ (q : Nat) (r : Rw), L[q]? = some r → r.n = (passE (P : Int) (q : Int) ks).length ∧ RE w r.A r.n (passE (P : Int) (q : Int) ks) ∧ ∀ b o s, r.A = some ⟨b, o, s⟩ → b ≠ G ∧ b < w.heap.size ∧ X ≠ some b
theorem Rows3.below {w w' : World} {G P : Nat} {X : Option Nat} {ks : List Ev} {L : List Rw} (h : Rows3 w G X P ks L) (hb : Below w.heap.size w w') : Rows3 w' G X P ks L :=
  fun q r hq => ⟨(h q r hq).1, (h q r hq).2.1.below hb, fun b o s e => ⟨((h q r hq).2.2 b o s e).1, Nat.lt_of_lt_of_le ((h q r hq).2.2 b o s e).2.1 hb.size, ((h q r hq).2.2 b o s e).2.2⟩⟩
theorem Rows3.far {w : World} {G P : Nat} {X : Option Nat} {ks : List Ev} {L : List Rw} (h : Rows3 w G X P ks L) (o : Nat) (v : Value) : Rows3 (w.setCell ⟨G, o, none⟩ v) G X P ks L :=
  fun q r hq => ⟨(h q r hq).1, (h q r hq).2.1.far (fun b o s e => ((h q r hq).2.2 b o s e).1), fun b o s e => by rw [size_set]; exact (h q r hq).2.2 b o s e⟩
theorem Rows3.grow {w w' : World} {G P : Nat} {X X' : Option Nat} {ks : List Ev} {L : List Rw} (h : Rows3 w G X P ks L) (hg : w.grownBy w' X) (hX : X' = X ∨ ∃ b, X' = some b ∧ w.heap.size ≤ b) : Rows3 w' G X' P ks L :=
  fun q r hq => ⟨(h q r hq).1, (h q r hq).2.1.grown hg (fun b o s e => ((h q r hq).2.2 b o s e).2.2), fun b o s e => by
    obtain ⟨h1, h2, h3⟩ := (h q r hq).2.2 b o s e
    refine ⟨h1, Nat.lt_of_lt_of_le h2 hg.size, ?_⟩
    rcases hX with rfl | ⟨b', rfl, hb'⟩
    · exact h3
    · intro e2
      injection e2
      omega⟩
theorem Rows3.push {w : World} {G P : Nat} {X : Option Nat} {ks : List Ev} {L : List Rw} (h : Rows3 w G X P ks L) {r : Rw} (h1 : r.n = (passE (P : Int) (L.length : Int) ks).length) (h2 : RE w r.A r.n (passE (P : Int) (L.length : Int) ks)) (h3 : ∀ b o s, r.A = some ⟨b, o, s⟩ → b ≠ G ∧ b < w.heap.size ∧ X ≠ some b) : Rows3 w G X P ks (L ++ [r]) := by
  intro q r' hq
  rcases Nat.lt_or_ge q L.length with hl | hl
  · rw [List.getElem?_append_left hl] at hq
    exact h q r' hq
  · rw [List.getElem?_append_right hl] at hq
    have hq0 : q - L.length = 0 := by
      have := (List.getElem?_eq_some_iff.1 hq).1
      simp at this
      omega
    rw [hq0] at hq
    simp at hq
    subst hq
    obtain rfl : q = L.length := by omega
    exact ⟨h1, h2, h3⟩
theorem OwnE.blk {W : World} {base : Nat} {A : Option Addr} {n c : Nat} {l : List Ev} (h : OwnE W base (.slice A n c) l) : ∀ b o s, A = some ⟨b, o, s⟩ → base ≤ b ∧ b < W.heap.size := by
  rintro b o s rfl
  refine ⟨h.base_le b rfl, ?_⟩
  unfold OwnE at h
  rcases h.2 with ⟨e, _⟩ | ⟨g, cap, cur, e, hb, hh, _⟩
  · cases e
  · cases e
    exact (Array.getElem?_eq_some_iff.1 hh).1
theorem OwnS.lt {W : World} {base : Nat} {v : Value} {L : List Rw} (h : OwnS W base v L) (k : Nat) (hk : v.ownBlock = some k) : k < W.heap.size := by
  unfold OwnS at h
  rcases h.2 with ⟨rfl, _⟩ | ⟨g, cap, cur, rfl, hb, hh, _⟩
  · simp [Value.ownBlock] at hk
  · have : g = k := by simpa [Value.ownBlock] using hk
    subst this
    exact (Array.getElem?_eq_some_iff.1 hh).1

set_option linter.unusedVariables false in
set_option maxRecDepth 100000 in
set_option maxHeartbeats 8000000 in
theorem all_walk (p : Int) (A : Option Addr) (n c : Nat) (ks : List Ev) (w : World) (h : RE w A n ks) :
    Calls Try.prog 10 #[.int .i64 p, .slice A n c] w fun e w' => e = .returned (.bool true) ∧ Below w.heap.size w w' := by
  have hbd := h.bd
  have H := Kp.mk h
  clear h
  obtain ⟨m, hm, hm12⟩ : ∃ m : Nat, (IntKind.u64.wrap p).tmod 12 = (m : Int) ∧ m < 12 := by
    have h0 := Int.tmod_nonneg (12 : Int) (wrap_u64_nonneg p)
    have h1 := Int.tmod_lt_of_pos (IntKind.u64.wrap p) (show (0 : Int) < 12 by omega)
    exact ⟨((IntKind.u64.wrap p).tmod 12).toNat, by omega, by omega⟩
  have hwm : IntKind.u64.wrap (m : Int) = m := by rw [IntKind.wrap_u64]; omega
  have hwi : IntKind.i64.wrap (m : Int) = m := by rw [IntKind.wrap_i64]; omega
  obtain ⟨P, hP⟩ : ∃ P : Nat, 1 + (m : Int) = (P : Int) := ⟨m + 1, by omega⟩
  have hP0 : 0 < P := by omega
  have hP12 : P ≤ 12 := by omega
  have hmk := make_ints P (by omega)
  go_enter Try.func10, Try.ntmps10
  go_wp2
  go_loopw [5, 6] (fun s i wr => ∃ k : Nat, k ≤ n ∧ i = .int .i64 k ∧ s = .int .i64 (lens (ks.take k) : Nat) ∧ lens (ks.take k) ≤ 8200 ∧ Kp (∃ q, wr = w.drewN q)) (fun _ i _ => n - (intOf i).toNat)
  case atStart => exact ⟨0, by omega, rfl, rfl, Nat.zero_le _, ⟨0, rfl⟩⟩
  case round =>
    obtain ⟨k, hk, rfl, rfl, hl8, HW⟩ := hrel
    by_cases hkn : k < n
    · have hd : decide ((k : Int) < (n : Int)) = true := by simp; omega
      by_cases hl : lens (ks.take k) ≤ 4096
      · have hd2 : decide (((lens (ks.take k) : Nat) : Int) ≤ 4096) = true := by simp; omega
        obtain ⟨x, hx⟩ : ∃ x, ks[k]? = some x := ⟨_, List.getElem?_eq_getElem (by rw [H.it.len]; exact hkn)⟩
        obtain ⟨b1, o1, hA, _, _, f1, _⟩ := H.it.get hx
        cases hA
        have g1 : wr.cell? ⟨b1, o1 + k * 6 + 1, none⟩ = some (.string x.key) := by obtain ⟨q, rfl⟩ := HW.it; exact f1
        clear f1
        have HX := Kp.mk (lens_succ ks hx)
        clear hx
        go_wp2
        go_roundw
        case rel => exact ⟨k + 1, by omega, by go_num, by rw [HX.it]; go_num, by rw [HX.it]; omega, HW⟩
        case measure => simp [intOf]; omega
      · have hd2 : decide (((lens (ks.take k) : Nat) : Int) ≤ 4096) = false := by rw [decide_eq_false_iff_not]; omega
        have hd3 : decide ((4096 : Int) < ((lens (ks.take k) : Nat) : Int)) = true := by simp; omega
        go_wp2_with (go_at_call 13; refine (awake_any _).mono ?_; rintro e w' ⟨rfl, hb'⟩)
        go_ret
        exact ⟨rfl, by obtain ⟨q, rfl⟩ := HW.it; exact (below_drewN (Below.refl _ _) q).trans hb'⟩
    · obtain rfl : k = n := by omega
      have HT : Kp (ks.take k = ks) := ⟨List.take_of_length_le (by rw [H.it.len]; omega)⟩
      rw [HT.it] at hl8 ⊢
      obtain ⟨L, hL⟩ : ∃ L, L = lens ks := ⟨_, rfl⟩
      rw [← hL] at hl8 ⊢
      have HL := Kp.mk hL
      clear hL
      by_cases hl : L ≤ 4096
      · have hd3 : decide ((4096 : Int) < (L : Int)) = false := by rw [decide_eq_false_iff_not]; omega
        have hk4 : k ≤ 4096 := by have := lens_len ks; rw [← HL.it, H.it.len] at this; omega
        have HZ : Kp (∀ x ∈ ks, x.key.size ≤ 140737488351232) := ⟨fun x hx => by have := lens_key ks hx; rw [← HL.it] at this; omega⟩
        have HB0 : Kp (Below w.heap.size w wr) := ⟨by obtain ⟨q, rfl⟩ := HW.it; exact below_drewN (Below.refl _ _) q⟩
        have HN : Kp (ks.length = k) := ⟨H.it.len⟩
        obtain ⟨wo, rfl⟩ : ∃ wo : World, wo = wr := ⟨_, rfl⟩
        have HK0 : Kp (Blk (wo.alloc (.cells (zrow P) 3)) wo.heap.size (List.replicate P 0)) := ⟨blk_zrow wo P⟩
        have HB1 : Kp (Below w.heap.size w (wo.alloc (.cells (zrow P) 3))) := ⟨HB0.it.alloc HB0.it.size _⟩
        have HGw : Kp (w.heap.size ≤ wo.heap.size) := ⟨HB0.it.size⟩
        go_wp2
        obtain ⟨G, hG⟩ : ∃ G, G = wo.heap.size := ⟨_, rfl⟩
        rw [← hG] at HK0 HGw ⊢
        clear hG
        go_loopw [5, 8, 44] (fun s a i wx => ∃ (j : Nat) (B : Option Addr) (d : Nat) (L2 : List Rw), j ≤ P ∧ s = .int .i64 (tot (P : Int) ks j : Nat) ∧ a = .slice B j d ∧ i = .int .i64 j ∧ tot (P : Int) ks j ≤ k ∧ Kp (L2.length = j) ∧ Kp (OwnS wx (G + 1) (.slice B j d) L2) ∧ Kp (Rows3 wx G (Value.slice B j d).ownBlock P ks L2) ∧ Kp (Blk wx G (List.replicate P 0)) ∧ Kp (Below w.heap.size w wx)) (fun _ _ i _ => P - (intOf i).toNat)
        case atStart => exact ⟨0, none, 0, [], by omega, by rw [tot_zero (by omega)]; rfl, rfl, rfl, by rw [tot_zero (by omega)]; omega, ⟨rfl⟩, ⟨World.ownsRow_nil _ _ _ _⟩, ⟨fun q r hq => by simp at hq⟩, HK0, HB1⟩
        case round =>
          clear HK0 HB1
          obtain ⟨j, B, d, L2, hj, rfl, rfl, rfl, htj, HL2, HO, HR, HK, HB⟩ := hrel
          by_cases hjP : j < P
          · have hd4 : decide ((j : Int) < (P : Int)) = true := by simp; omega
            have HS : Kp (∀ y ∈ passE (P : Int) (j : Int) ks, y.key.size ≤ maxLen ∧ y.old.size ≤ maxLen ∧ y.now.size ≤ maxLen) := ⟨fun y hy => H.it.str y (List.mem_filter.1 hy).1⟩
            have HPL : Kp ((passE (P : Int) (j : Int) ks).length ≤ 4096) := ⟨by unfold passE; have := List.length_filter_le (isOf (P : Int) (j : Int)) ks; rw [HN.it] at this; omega⟩
            go_wp2_with fail
            go_at_call 39
            refine (pass_any (P : Int) (j : Int) (by omega) A k c ks _ (H.it.below HB.it) hk4 HZ.it).mono ?_
            rintro e w2 ⟨v2, rfl, ho2, hb2⟩
            obtain ⟨A2, c2, rfl, _, hr2⟩ := ho2.form (by have := HPL.it; omega) HS.it
            obtain ⟨N, hN⟩ : ∃ N, N = (passE (P : Int) (j : Int) ks).length := ⟨_, rfl⟩
            rw [← hN] at hr2 ho2 ⊢
            have HN2 := Kp.mk hN
            have htn : tot (P : Int) ks j + N ≤ k := by have h1 := tot_succ (p := (P : Int)) (by omega) ks j; have h2 := tot_le (P : Int) ks (j + 1); rw [HN.it] at h2; omega
            clear hN
            have HGl := Kp.mk HK.it.lt
            have NB : Kp (∀ b o s, A2 = some ⟨b, o, s⟩ → b ≠ G ∧ b < w2.heap.size ∧ (Value.slice B j d).ownBlock ≠ some b) := ⟨fun b o s e => by
              obtain ⟨q1, q2⟩ := ho2.blk b o s e
              refine ⟨by have := HGl.it; omega, q2, fun e2 => ?_⟩
              have := HO.it.lt b e2
              omega⟩
            have R2 := Kp.mk hr2
            have O2 := Kp.mk (HO.it.below hb2)
            have T2 := Kp.mk (HR.it.below hb2)
            have K2 := Kp.mk (HK.it.below hb2 HGl.it)
            have B2 := Kp.mk (HB.it.trans (hb2.mono HB.it.size))
            have Z2 : Kp (G + 1 ≤ w2.heap.size) := ⟨by have := K2.it.lt; omega⟩
            have Y2 : Kp (L2.length + 1 ≤ 1000) := ⟨by rw [HL2.it]; omega⟩
            clear ho2 hb2 hr2 HO HR HK HB HS
            go_upto_region 16 with (at_builtin; refine app_s rfl (.tmp 47) (.tmp 52) rfl (G + 1) (.slice B j d) L2 ⟨A2, N, c2⟩ rfl rfl O2.it Z2.it Y2.it ?_; intro v1 w3 ho3 hg3 hx3; have O3 := Kp.mk ho3; have G3 := Kp.mk hg3; have X3 := Kp.mk hx3; clear ho3 hg3 hx3)
            have B3 : Kp (Below w.heap.size w w3) := ⟨below_ownS B2.it B2.it.size O2.it (by have := HGw.it; omega) G3.it⟩
            have K3 : Kp (Blk w3 G (List.replicate P 0)) := ⟨K2.it.kept G3.it (fun e => by have := O2.it.base_le G e.symm; omega)⟩
            have T3 : Kp (Rows3 w3 G v1.ownBlock P ks (L2 ++ [⟨A2, N, c2⟩])) := ⟨by
              have q := T2.it.push (r := ⟨A2, N, c2⟩) (by rw [HL2.it]; exact HN2.it) (by rw [HL2.it]; exact R2.it) NB.it
              exact q.grow G3.it X3.it⟩
            obtain ⟨B3', d3, hv3, hc3⟩ := O3.it.form
            have hlen : (L2 ++ [(⟨A2, N, c2⟩ : Rw)]).length = j + 1 := by simp [HL2.it]
            rw [hlen] at hv3 hc3
            subst hv3
            obtain ⟨b3, hB3, _, hlt3, hcell⟩ := hc3 (by omega)
            subst hB3
            have z3 : w3.cell? ⟨b3, j, none⟩ = some (.slice A2 N c2) := hcell j ⟨A2, N, c2⟩ (by rw [List.getElem?_append_right (by rw [HL2.it]; omega), HL2.it, Nat.sub_self]; rfl)
            have HLN := Kp.mk hlen
            clear hc3 hcell hlen
            go_wp2
            go_roundw
            case rel => exact ⟨j + 1, _, d3, _, by omega, by rw [tot_succ (by omega), ← HN2.it]; go_num, rfl, by go_num, by rw [tot_succ (by omega), ← HN2.it]; omega, HLN, O3, T3, K3, B3⟩
            case measure => simp [intOf]; omega
          · obtain rfl : P = j := by omega
            have HTA : Kp (tot (P : Int) ks P = k) := ⟨by rw [tot_all hP0, HN.it]⟩
            rw [HTA.it]
            obtain ⟨B', d', hv, hc⟩ := HO.it.form
            rw [HL2.it] at hv hc
            cases hv
            obtain ⟨b3, hB3, hb3G, _, _⟩ := hc (by omega)
            subst hB3
            clear hc
            have HK' : Kp (Blk wr G (cnts P ks 0)) := ⟨by rw [cnts_zero]; exact HK.it⟩
            clear HK
            obtain ⟨wo2, rfl⟩ : ∃ wo2 : World, wo2 = wr := ⟨_, rfl⟩
            go_wp2
            go_loopw [64] (fun i wy => ∃ q : Nat, q ≤ k ∧ i = .int .i64 q ∧ Kp (OwnS wy (G + 1) (.slice (some ⟨b3, 0, none⟩) P d) L2) ∧ Kp (Rows3 wy G (some b3) P ks L2) ∧ Kp (Blk wy G (cnts P ks q)) ∧ Kp (Below w.heap.size w wy)) (fun i _ => k - (intOf i).toNat)
            case atStart => exact ⟨0, by omega, rfl, HO, HR, HK', HB⟩
            case round =>
              clear HO HR HK' HB
              obtain ⟨q, hq, rfl, HO, HR, HK, HB⟩ := hrel
              by_cases hqk : q < k
              · have hd5 : decide ((q : Int) < (k : Int)) = true := by simp; omega
                obtain ⟨x, hx⟩ : ∃ x, ks[q]? = some x := ⟨_, List.getElem?_eq_getElem (by rw [HN.it]; exact hqk)⟩
                obtain ⟨b1, o1, hA, _, f0, f1, f2, f3, f4, f5⟩ := (H.it.below HB.it).get hx
                cases hA
                have HX := Kp.mk hx
                have hks : x.key.size ≤ 140737488351232 := HZ.it x (List.mem_of_getElem? hx)
                clear hx
                go_upto_region 21 with fail
                refine wp_on (fun wz => wz.heap[wr.heap.size]? = some (.cells #[.int .i64 x.pos, .string x.key, .bool x.had, .string x.old, .bool x.has, .string x.now] 58 (0, 0)) ∧ Below wr.heap.size wr wz) ⟨heap_new _ _, (Below.refl wr.heap.size wr).alloc (Nat.le_refl _) _⟩ (fun w1 h1 => ?_)
                obtain ⟨h1, hb1⟩ := h1
                have HE := Kp.mk h1
                have B1 := Kp.mk hb1
                clear h1 hb1 f0 f1 f2 f3 f4 f5
                have g1 : w1.cell? ⟨wr.heap.size, 1, none⟩ = some (.string x.key) := blk_cell HE.it rfl
                go_wp2_with fail
                go_at_call 36
                refine (part_any (P : Int) (by omega) x.key w1 hks).mono ?_
                rintro e w2 ⟨rfl, hb2⟩
                have HE2 : Kp (w2.heap[wr.heap.size]? = some (.cells #[.int .i64 x.pos, .string x.key, .bool x.had, .string x.old, .bool x.has, .string x.now] 58 (0, 0))) := ⟨by rw [hb2.block _ (Array.getElem?_eq_some_iff.1 HE.it).1]; exact HE.it⟩
                have B2 := Kp.mk (B1.it.trans (hb2.mono B1.it.size))
                clear hb2 g1
                obtain ⟨r, hr, hrP⟩ : ∃ r : Nat, partOf (P : Int) x.key = (r : Int) ∧ r < P := by
                  have := part_bd (p := (P : Int)) (by omega) x.key
                  exact ⟨(partOf (P : Int) x.key).toNat, by omega, by omega⟩
                rw [hr]
                have HRr := Kp.mk hr
                clear hr
                have hd6 : decide ((r : Int) < 0) = false := by rw [decide_eq_false_iff_not]; omega
                have hd7 : decide ((P : Int) ≤ (r : Int)) = false := by rw [decide_eq_false_iff_not]; omega
                have O2 := Kp.mk (HO.it.below B2.it)
                have T2 := Kp.mk (HR.it.below B2.it)
                have K2 := Kp.mk (HK.it.below B2.it HK.it.lt)
                have W2 := Kp.mk (HB.it.trans (B2.it.mono HB.it.size))
                obtain ⟨⟨A3, n3, c3⟩, hL⟩ : ∃ y, L2[r]? = some y := ⟨_, List.getElem?_eq_getElem (by rw [HL2.it]; exact hrP)⟩
                obtain ⟨hn3, hre, _⟩ := T2.it r _ hL
                dsimp only at hn3 hre
                have z2 : w2.cell? ⟨b3, r, none⟩ = some (.slice A3 n3 c3) := by
                  obtain ⟨B', d', hv, hc⟩ := O2.it.form
                  rw [HL2.it] at hv hc
                  cases hv
                  obtain ⟨b', hB', _, _, hcell⟩ := hc (by omega)
                  cases hB'
                  exact hcell r _ hL
                obtain ⟨old, hold⟩ : ∃ old, old = (passE (P : Int) (r : Int) (ks.take q)).length := ⟨_, rfl⟩
                have hxo := pass_at (p := (P : Int)) (q := (r : Int)) HX.it (by rw [isOf_pos (by omega), HRr.it]; simp)
                rw [← hold] at hxo
                have hold3 : old < n3 := by rw [hn3]; exact (List.getElem?_eq_some_iff.1 hxo).1
                have hn4 : n3 ≤ 4096 := by rw [hn3]; unfold passE; have := List.length_filter_le (isOf (P : Int) (r : Int)) ks; rw [HN.it] at this; omega
                obtain ⟨b4, o4, hA3, hlt4, e0, e1, e2, e3, e4, e5⟩ := hre.get hxo
                subst hA3
                have y2 : w2.cell? ⟨G, r, none⟩ = some (.int .i64 (old : Int)) := by
                  have := K2.it.cell (j := r) (by rw [cnts_len]; exact hrP)
                  rw [cnts_rd ks q hrP, ← hold] at this
                  exact this
                have HC : Kp (cnts P ks (q + 1) = (cnts P ks q).set r ((old : Int) + 1)) := ⟨by rw [hold]; exact cnts_succ HX.it hP0 HRr.it⟩
                clear hold hxo hre hn3 hL
                have hd8 : decide ((n3 : Int) ≤ (old : Int)) = false := by rw [decide_eq_false_iff_not]; omega
                have g0 : w2.cell? ⟨wr.heap.size, 0, none⟩ = some (.int .i64 x.pos) := blk_cell HE2.it rfl
                have g1 : w2.cell? ⟨wr.heap.size, 1, none⟩ = some (.string x.key) := blk_cell HE2.it rfl
                have g2 : w2.cell? ⟨wr.heap.size, 2, none⟩ = some (.bool x.had) := blk_cell HE2.it rfl
                have g3 : w2.cell? ⟨wr.heap.size, 3, none⟩ = some (.string x.old) := blk_cell HE2.it rfl
                have g4 : w2.cell? ⟨wr.heap.size, 4, none⟩ = some (.bool x.has) := blk_cell HE2.it rfl
                have g5 : w2.cell? ⟨wr.heap.size, 5, none⟩ = some (.string x.now) := blk_cell HE2.it rfl
                have hfz : w2.frozen? ⟨G, r, none⟩ = false := K2.it.free r
                go_wp2
                go_quiet (fail)
                go_wp2
                go_roundw
                case rel =>
                  refine ⟨q + 1, by omega, by go_num, ⟨?_⟩, ⟨?_⟩, ⟨?_⟩, ⟨?_⟩⟩
                  · exact (O2.it.below (below_drewN (Below.refl _ _) _)).far (by omega)
                  · exact (T2.it.below (below_drewN (Below.refl _ _) _)).far _ _
                  · rw [HC.it]; exact (K2.it.below (below_drewN (Below.refl _ _) _) K2.it.lt).store _ _
                  · exact (W2.it.trans (below_drewN (Below.refl _ _) _)).setCell HGw.it _
                case measure => simp [intOf]; omega
              · obtain rfl : k = q := by omega
                go_wp2_with (go_at_call 13; refine (awake_any _).mono ?_; rintro e w' ⟨rfl, hb'⟩)
                go_ret
                exact ⟨rfl, HB.it.trans (hb'.mono HB.it.size)⟩
      · have hd3 : decide ((4096 : Int) < (L : Int)) = true := by simp; omega
        go_wp2_with (go_at_call 13; refine (awake_any _).mono ?_; rintro e w' ⟨rfl, hb'⟩)
        go_ret
        exact ⟨rfl, by obtain ⟨q, rfl⟩ := HW.it; exact (below_drewN (Below.refl _ _) q).trans hb'⟩

set_option linter.unusedVariables false in
set_option maxRecDepth 100000 in
theorem groupAll_lifted (os : Os) (started : os.Started) (H : Type) (enc : TypeId × Value → H) :
    ReturnsInHanded {} Try.checked os 10 .any (Rows.groupAllSpec.pre6 enc Try.prog Try.f10 Rows.groupAllRow.domain false) (Rows.groupAllSpec.post enc Try.prog Try.f10 false true false false) := by
  refine returnsInHanded_of_change_sized (C := Try.checked) (by kernel_rfl) started (by kernel_rfl) Try.func10
    (ChangeSpec.witness6 (enc := enc) (C := Try.checked) false ⟨#[], #[.int .i64 0, .slice none 0 0], []⟩ 8 (by kernel_rfl) (by kernel_rfl) (by kernel_rfl) (by kernel_rfl)) ?_
  intro W base args ds gs before hval0 hW hcnd hsz0 _
  have hval : ∀ (j : Nat) t v, Try.f10.params[j]? = some t → args[j]? = some v → Value.okWide Try.prog W .any base t v := hval0
  have hW' := hW
  obtain ⟨p, q, hA0, hV, rfl, hfz, hnd⟩ := hW
  have hA : DataW.TrodAll enc Try.prog W 0 (fun _ => true) true Try.f10.params.toList args.toList ds p := hA0
  have hsz : (DataW.weightsEach Try.prog (Try.f10.params.toList ++ Rows.groupAllSpec.plain.varTypes Try.prog) (ds ++ gs)).all (· ≤ reachBytes) = true := hsz0
  rw [Try.params10] at hA hval hsz
  obtain ⟨v0, vs0, d0, ds0, p0, q0, hargs, rfl, rfl, h0, r0⟩ := trodAll_cons hA
  obtain ⟨v1, vs1, d1, ds1, p1, q1, rfl, rfl, rfl, h1, r1⟩ := trodAll_cons r0
  obtain ⟨rfl, rfl, rfl⟩ := trodAll_nil r1
  obtain rfl : args = #[v0, v1] := by cases args; simp_all
  obtain ⟨rfl, rfl⟩ := trodVars_none hV
  have k0 := h0
  have lt0 : ∀ x ∈ p0, x.block < W.heap.size := by obtain ⟨m, hm⟩ := k0; exact DataW.trod_lt m _ _ _ hm
  obtain ⟨a0, rfl, rfl, rfl, w0⟩ := open_int Try.underlying3 (hval 0 3 v0 rfl rfl) h0
  have k1 := h1
  have lt1 : ∀ x ∈ p1, x.block < W.heap.size := by obtain ⟨m, hm⟩ := k1; exact DataW.trod_lt m _ _ _ hm
  obtain ⟨A1, n1, c1, ks1, rfl, ra1, ea1, bd1⟩ := evs_open (hval 1 56 v1 rfl rfl) h1 (fun x hx => by simpa using List.all_eq_true.1 hsz x (DataW.weights_mem_each (j := 1) (t := 56) rfl rfl x hx))
  clear hA0 hval0 hsz hsz0
  refine (all_walk a0 _ _ _ ks1 W ra1).mono fun e W' ⟨he, bel⟩ => ?_
  subst he
  exact ⟨_, rfl, _, _, _, [], _, [], hW', trodAll_mk1 (shut_bool Try.underlying4 _), (trodAll_cons_mk (shut_int Try.underlying3 w0) (trodAll_cons_mk (Below.trod (by kernel_rfl) (by kernel_rfl) (of_decide_eq_true (by kernel_rfl)) k1 bel lt1) trodAll_mk0)), rfl, bel.frame _, fun h => by cases h⟩

theorem GroupAll_holds : Rows.GroupAllSaid :=
  OpenClaim.holds_of_wide 10 Try.f10 rfl rfl rfl rfl rfl rfl rfl ⟨rfl, rfl, rfl, rfl, rfl⟩ rfl rfl rfl rfl rfl (by kernel_rfl) Try.func10 (by kernel_rfl)
    (of_decide_eq_true (by kernel_rfl)) (by unfold Func.isWrapper; first | (rw [if_pos (by decide +kernel)]; kernel_rfl) | (rw [if_neg (by decide +kernel)]; exact ⟨rfl, rfl⟩))
    (fun os started H enc _ => groupAll_lifted os started H enc)
end Go.Proofs.Ytemnhmnompehoaa
