/-
  All pairs of a part; Pairs of the program and of the reference.
-/
import Derived.Test.YtcmkjoepndbicaaWds
namespace Go.Proofs.Ytcmkjoepndbicaa
open Go Go.RowKit Go.Shelf
open Go.Sort hiding Below

/-- The comparison of Pairs. -/
def cfQ (x y : Pr) : Int := if ltB x.1 y.1 = true then -1 else 1
theorem ltOf_cfQ : ltOf cfQ = ltOf cfP := by
  funext x y
  rw [ltOf_cfP]
  unfold ltOf cfQ
  cases h : ltB x.1 y.1 <;> simp
theorem swoQ : SWO (ltOf cfQ) := by rw [ltOf_cfQ]; exact swoP
set_option maxHeartbeats 1000000 in
theorem closure65 (x y : Pr) (W : World) : Calls Try.prog 65 #[.agg #[.string x.1, .string x.2], .agg #[.string y.1, .string y.2]] W fun e w' => e = .returned (.int .i64 (cfQ x y)) ∧ ∃ q os', w' = grow (W.drewN q) os' := by
  unfold cfQ
  cases h : ltB x.1 y.1 with
  | true =>
    have h' : Op.bytesLess x.1.toList y.1.toList = true := h
    go_enter Try.func65, Try.ntmps65
    go_wp2
    go_ret
    exact ⟨rfl, 0, _, by rw [alloc_eq_grow, alloc_eq_grow, grow_grow]; rfl⟩
  | false =>
    have h' : Op.bytesLess x.1.toList y.1.toList = false := h
    go_enter Try.func65, Try.ntmps65
    go_wp2
    go_ret
    exact ⟨rfl, 0, _, by rw [alloc_eq_grow, alloc_eq_grow, grow_grow]; rfl⟩
theorem cmpLays65 (blk off size : Nat) (w : World) : CmpLays Try.prog 65 #[] pcells 2 cfQ blk off size w := fun _ _ _ _ x y => closure65 x y _
theorem sort_q (v : Value) (l : List Pr) (w : World) (base : Nat) (h : OwnP w base v l) (hl : l.length ≤ 100000) (hn : (l.map keyP).Nodup) :
    Calls Try.prog 48 #[v, .func (.func 65) #[] #[]] w fun e w' => e = .returned (.tuple #[]) ∧ OwnP w' base v (l.mergeSort leP) ∧ w.grownBy w' v.ownBlock := by
  have hml : (l.mergeSort leP).length = l.length := List.length_mergeSort _
  have h' := h
  unfold OwnP at h'
  rcases h'.2 with ⟨rfl, h0⟩ | ⟨g, cap, cur, rfl, hb, hh, h1, h2, h3, h4⟩
  · have hx : l = [] := List.eq_nil_of_length_eq_zero h0
    subst hx
    refine (AnyF.slices_SortFunc_none Try.sortPr none 0 (.func (.func 65) #[] #[]) w).mono ?_
    rintro e w' ⟨rfl, rfl⟩
    exact ⟨rfl, by simpa using OwnP.nil w' base, World.grownBy.refl _ _⟩
  · have eg : ∀ args w, (callFunc 65 args).run Try.prog w = .ok (.enter 65 args) w := enters_of Try.func65 (by kernel_rfl) rfl
    have hq := AnyQ.slices_SortFunc Try.sortPr 2 Try.isAgg43 Try.sizeOf43 pcells (fun _ => rfl) (fun x u hu => by unfold pcells at hu; simp at hu; rcases hu with rfl | rfl <;> rfl) cfQ swoQ 65 #[] g 0 cap l.toArray w eg (cmpLays65 g 0 _ w) (holdsP hh h4) (Array.getElem?_eq_some_iff.1 hh).1 (by simp; omega)
    change Calls Try.prog 48 _ _ _ at hq
    have hsz : l.toArray.size = l.length := by simp
    rw [hsz] at hq
    refine hq.mono ?_
    rintro e w' ⟨rfl, d', n, os, hp, hs, rfl⟩
    have hd := sorted_is hn (by rw [hsz]; exact hp) (by rw [hsz, ← ltOf_cfQ]; exact hs)
    subst hd
    refine ⟨rfl, ?_, grownBy_sortedP _⟩
    unfold OwnP
    rw [hml]
    have hf : (flatK pcells 2 (l.mergeSort leP).toArray).size = l.length * 2 := by simp
    refine ⟨by rw [pvs_len, hml], .inr ⟨g, cap, _, rfl, hb, heap_sortedP _ hh, h1, h2, by simp [putCells, h3], ?_⟩⟩
    have := take_putCellsP cur (flatK pcells 2 (l.mergeSort leP).toArray) (by rw [hf, h3]; omega)
    rw [hf, flatK_pvs] at this
    exact this

/-- The pairs of a part as they are gathered. -/
def flatP (ka kb : BitVec 64) : Nat → List Pr → List Pr
  | 0, l => l
  | f + 1, l => (List.range 16).flatMap fun i => flatP ka kb f (kid ka kb (3 - f) i l)
theorem flat_perm {β : Type} (R : List Nat) (g h : Nat → List β) (hp : ∀ i ∈ R, (g i).Perm (h i)) : (R.flatMap g).Perm (R.flatMap h) := by
  induction R with
  | nil => exact List.Perm.refl _
  | cons r R ih =>
    rw [List.flatMap_cons, List.flatMap_cons]
    exact (hp r List.mem_cons_self).append (ih fun i hi => hp i (List.mem_cons_of_mem _ hi))
theorem pick_perm {β : Type} (x : β) (g : Nat → List β) (d : Nat) : ∀ R : List Nat, R.Nodup → d ∈ R → (R.flatMap fun i => if d = i then x :: g i else g i).Perm (x :: R.flatMap g)
  | r :: R, hn, hd => by
    rw [List.flatMap_cons, List.flatMap_cons]
    have hn' := List.nodup_cons.1 hn
    by_cases h : d = r
    · subst h
      rw [if_pos rfl]
      have : (R.flatMap fun i => if d = i then x :: g i else g i) = R.flatMap g := by
        have e : ∀ i ∈ R, (if d = i then x :: g i else g i) = g i := fun i hi => if_neg (fun h : d = i => hn'.1 (by rw [h]; exact hi))
        clear hn hd hn'
        induction R with
        | nil => rfl
        | cons r R ih => rw [List.flatMap_cons, List.flatMap_cons, e r List.mem_cons_self, ih fun i hi => e i (List.mem_cons_of_mem _ hi)]
      rw [this]
      exact List.Perm.refl _
    · rw [if_neg h]
      have hd' : d ∈ R := by
        rcases List.mem_cons.1 hd with e | e
        · exact absurd e h
        · exact e
      exact ((pick_perm x g d R hn'.2 hd').append_left (g r)).trans List.perm_middle
theorem kids_perm (ka kb : BitVec 64) (a : Nat) (l : List Pr) : ((List.range 16).flatMap fun i => kid ka kb a i l).Perm l := by
  induction l with
  | nil =>
    have : ((List.range 16).flatMap fun i => kid ka kb a i []) = [] := by
      rw [List.flatMap_eq_nil_iff]
      intro i _
      rfl
    rw [this]
  | cons x l ih =>
    have e : (fun i => kid ka kb a i (x :: l)) = fun i => if dg ka kb a x = i then x :: kid ka kb a i l else kid ka kb a i l := by
      funext i
      unfold kid
      rw [List.filter_cons]
      by_cases h : dg ka kb a x = i
      · rw [if_pos h, if_pos (by simpa using h)]
      · rw [if_neg h, if_neg (by simpa using h)]
    rw [e]
    exact (pick_perm x _ _ _ List.nodup_range (List.mem_range.2 (dg_lt ka kb a x))).trans (List.Perm.cons x ih)
theorem flatP_perm (ka kb : BitVec 64) : ∀ (f : Nat) (l : List Pr), (flatP ka kb f l).Perm l
  | 0, _ => List.Perm.refl _
  | f + 1, l => (flat_perm _ _ _ fun i _ => flatP_perm ka kb f (kid ka kb (3 - f) i l)).trans (kids_perm ka kb (3 - f) l)
theorem flatP_len (ka kb : BitVec 64) (f : Nat) (l : List Pr) : (flatP ka kb f l).length = l.length := (flatP_perm ka kb f l).length_eq
theorem flatP_nil (ka kb : BitVec 64) (f : Nat) : flatP ka kb f [] = [] := List.eq_nil_of_length_eq_zero (by rw [flatP_len]; rfl)
theorem rise_nodup {l : List Pr} (h : Rise l) : (l.map keyP).Nodup := by
  rw [List.Nodup, List.pairwise_map]
  exact List.Pairwise.imp (fun {a b} (hab : keyP a < keyP b) (e : keyP a = keyP b) => by rw [e] at hab; exact List.lt_irrefl _ hab) h
theorem flatP_sort (ka kb : BitVec 64) (f : Nat) {l : List Pr} (h : Rise l) : (flatP ka kb f l).mergeSort leP = l :=
  rise_eq (rise_of (leP_sorted _) (nodup_perm ((List.mergeSort_perm _ _).trans (flatP_perm ka kb f l)).symm (rise_nodup h))) h ((List.mergeSort_perm _ _).trans (flatP_perm ka kb f l))
section
variable {ops : Array Oper} {rest : List Oper} {o : Oper} {a : Act} {Q : Exit → Act → World → Prop} {W : World}
theorem run_app_none {w : World} {base : Nat} (ty c : Nat) (v : Value) (l : List Pr) (hown : OwnP w base v l) :
    (Builtin.append_ #[25, 25] ty #[v, .slice none 0 c]).run Try.prog w = .ok v w := by
  obtain ⟨i0, hi, hz0, hz1, hz2⟩ := info_parts Try.info43'
  unfold OwnP at hown
  rcases hown.2 with ⟨rfl, _⟩ | ⟨g, cap, cur, rfl, _, _, hnc, _⟩
  · simp [Builtin.append_, run_underlying Try.underlying25, sizeOf, typeInfo, hi, Builtin.lenOf, Builtin.firstCells]
  · simp [Builtin.append_, run_underlying Try.underlying25, sizeOf, typeInfo, hi, Builtin.lenOf, Builtin.firstCells, hnc, storeCells]
/-- append of pairs that are read, of whatever capacity. -/
theorem app_pz (hgd : o.guard = none) (s x : Operand)
    (ho : o.op = .call { callee := .builtin .append, args := #[s, x], argTypes := #[25, 25] })
    (base : Nat) (v : Value) (l : List Pr) (S : Nat → Prop) (A : Option Addr) (n c : Nat) (ys : List Pr) (hs : a.eval s = v) (hx : a.eval x = .slice A n c)
    (HO : OwnP W base v l) (HR : RP W S A n ys) (hbase : base ≤ W.heap.size) (hl : l.length + ys.length ≤ 100000)
    (h : ∀ v1 w1, OwnP w1 base v1 (l ++ ys) → W.grownBy w1 v.ownBlock → wpList Try.prog ops Q rest (a.put o.dst v1) w1) :
    wpList Try.prog ops Q (o :: rest) a W := by
  cases A with
  | some ad => exact app_ps hgd s x ho base v l S (some ad) n c ys hs hx HO HR (fun e => by cases e) hbase hl h
  | none =>
    have hn : n = 0 := by
      rcases Nat.eq_zero_or_pos n with h0 | h0
      · exact h0
      · obtain ⟨b, o', e, _⟩ := HR.row h0
        cases e
    subst hn
    have hy : ys = [] := List.eq_nil_of_length_eq_zero HR.len
    subst hy
    refine wpList_plain hgd fun K hK => ?_
    have hrun := run_app_none o.type c v l HO
    unfold Oper.wp
    simp [execOp, ho, resolve, invoke, builtin, hs, hx, hrun, Result.andThen]
    exact hK _ _ (h v W (by simpa using HO) (World.grownBy.refl _ _))
end
/-- What all does, f times deep yet. -/
def AllOk (ka kb : BitVec 64) (f : Nat) : Prop := ∀ (B px : Nat) (L : List Pr) (A3 : Option Addr) (k3 c3 : Nat) (l0 : List Pr) (w : World), Tr ka kb (fun q => q < B) f L w px → OwnP w B (.slice A3 k3 c3) l0 → B ≤ w.heap.size → l0.length + L.length ≤ 50000 →
    Calls Try.prog 64 #[.pointer (some ⟨px, 0, none⟩), .slice A3 k3 c3] w fun e w' => ∃ A4 k4 c4, e = .returned (.slice A4 k4 c4) ∧ OwnP w' B (.slice A4 k4 c4) (l0 ++ flatP ka kb f L) ∧ Below B w w'
set_option maxRecDepth 100000 in
set_option maxHeartbeats 4000000 in
theorem all_zero (ka kb : BitVec 64) : AllOk ka kb 0 := by
  intro B px L A3 k3 c3 l0 w T O hB hl
  obtain ⟨_, AP, nP, cP, h, _, hr⟩ := tr_zero T
  have HO := Kp.mk O
  have HR := Kp.mk hr
  have HBK := Kp.mk hB
  have HE := Kp.mk h
  have HN : Kp (l0.length + L.length ≤ 100000) := ⟨by omega⟩
  have z1 : w.cell? ⟨px, 1, none⟩ = some (.slice none 0 0) := blk_cell h rfl
  have z2 : w.cell? ⟨px, 2, none⟩ = some (.slice AP nP cP) := blk_cell h rfl
  have hlt := (Array.getElem?_eq_some_iff.1 h).1
  have hpB : px < B := T.1
  obtain ⟨k4, hk4⟩ : ∃ k, k = (l0 ++ L).length := ⟨_, rfl⟩
  have HK4 := Kp.mk hk4.symm
  clear T O h hr hB hl hk4
  go_enter Try.func64, Try.ntmps64
  go_upto_region 2 with (refine app_pz rfl (.tmp 7) (.tmp 11) rfl B (.slice A3 k3 c3) l0 _ AP nP cP L rfl rfl HO.it HR.it HBK.it HN.it ?_; intro v1 w1 ho1 hg1; obtain ⟨A4, c4, hv4, _, _, _⟩ := ho1.form (by rw [List.length_append]; exact HN.it); rw [HK4.it] at hv4; subst hv4; have O1 := Kp.mk ho1; have B1 : Kp (Below B w w1) := ⟨below_ownP (Below.refl _ _) HBK.it HO.it (Nat.le_refl _) hg1⟩; clear ho1 hg1)
  have y1 : w1.cell? ⟨px, 1, none⟩ = some (.slice none 0 0) := (B1.it.cell (p := ⟨px, 1, none⟩) hpB).trans z1
  have hlt1 : px < w1.heap.size := Nat.lt_of_lt_of_le hlt B1.it.size
  clear z1 z2 hlt
  go_wp2
  go_loopw [1, 18] (fun x i wr => x = .slice A4 k4 c4 ∧ i = .int .i64 0 ∧ wr = w1) (fun _ _ _ => 0)
  case atStart => exact ⟨rfl, rfl, rfl⟩
  case round =>
    obtain ⟨rfl, rfl, rfl⟩ := hrel
    have hd : decide ((0 : Int) < 0) = false := by decide
    go_wp2
    go_ret
    exact ⟨_, _, _, rfl, O1.it, B1.it⟩
set_option maxRecDepth 100000 in
set_option maxHeartbeats 4000000 in
theorem all_succ (ka kb : BitVec 64) (f : Nat) (ih : AllOk ka kb f) : AllOk ka kb (f + 1) := by
  intro B px L A3 k3 c3 l0 w T O hB hl
  obtain ⟨_, AP, nP, cP, h, hcase⟩ := tr_succ T
  have IH := Kp.mk ih
  have HO := Kp.mk O
  have HBK := Kp.mk hB
  have HC := Kp.mk hcase
  have HN : Kp (l0.length + ([] : List Pr).length ≤ 100000) := ⟨by simp; omega⟩
  have HNL := Kp.mk hl
  have z1 : w.cell? ⟨px, 1, none⟩ = some (.slice AP nP cP) := blk_cell h rfl
  have z2 : w.cell? ⟨px, 2, none⟩ = some (.slice none 0 0) := blk_cell h rfl
  have hlt := (Array.getElem?_eq_some_iff.1 h).1
  have hpB : px < B := T.1
  have HR : Kp (RP w (fun _ => True) none 0 []) := ⟨RP.nil _ _ _⟩
  obtain ⟨k4, hk4⟩ : ∃ k, k = l0.length := ⟨_, rfl⟩
  have HK4 := Kp.mk hk4.symm
  clear T O h hB hcase ih hl hk4
  go_enter Try.func64, Try.ntmps64
  go_upto_region 2 with (refine app_pz rfl (.tmp 7) (.tmp 11) rfl B (.slice A3 k3 c3) l0 _ none 0 0 [] rfl rfl HO.it HR.it HBK.it HN.it ?_; intro v1 w1 ho1 hg1; rw [List.append_nil] at ho1; obtain ⟨A4, c4, hv4, _, _, _⟩ := ho1.form (by have := HNL.it; omega); rw [HK4.it] at hv4; subst hv4; have O1 := Kp.mk ho1; have B1 : Kp (Below B w w1) := ⟨below_ownP (Below.refl _ _) HBK.it HO.it (Nat.le_refl _) hg1⟩; clear ho1 hg1)
  have y1 : w1.cell? ⟨px, 1, none⟩ = some (.slice AP nP cP) := (B1.it.cell (p := ⟨px, 1, none⟩) hpB).trans z1
  have hlt1 : px < w1.heap.size := Nat.lt_of_lt_of_le hlt B1.it.size
  clear z1 z2 hlt HR HN
  rcases HC.it with ⟨hE, hn0⟩ | ⟨_, hn0, g, hA, hgB, hgl, hk⟩
  · subst hn0
    have HE : Kp (l0 ++ flatP ka kb (f + 1) L = l0) := ⟨by rw [hE, flatP_nil, List.append_nil]⟩
    clear hE HC
    go_wp2
    go_loopw [1, 18] (fun x i wr => x = .slice A4 k4 c4 ∧ i = .int .i64 0 ∧ wr = w1) (fun _ _ _ => 0)
    case atStart => exact ⟨rfl, rfl, rfl⟩
    case round =>
      obtain ⟨rfl, rfl, rfl⟩ := hrel
      have hd : decide ((0 : Int) < 0) = false := by decide
      go_wp2
      go_ret
      exact ⟨_, _, _, rfl, by rw [HE.it]; exact O1.it, B1.it⟩
  · subst hn0
    subst hA
    have HK := Kp.mk hk
    have HGL := Kp.mk hgl
    clear hk hgl HC
    go_wp2
    clear y1 hlt1
    go_loopw [1, 18] (fun x i wr => ∃ (d : Nat) (A5 : Option Addr) (k5 c5 : Nat), d ≤ 16 ∧ i = .int .i64 d ∧ x = .slice A5 k5 c5 ∧ Kp (OwnP wr B (.slice A5 k5 c5) (l0 ++ (List.range d).flatMap fun i => flatP ka kb f (kid ka kb (3 - f) i L))) ∧ Kp (Below B w wr)) (fun _ i _ => 16 - (intOf i).toNat)
    case atStart => exact ⟨0, A4, k4, c4, by omega, rfl, rfl, ⟨by simpa using O1.it⟩, B1⟩
    case round =>
      clear O1 B1
      obtain ⟨d, A5, k5, c5, hd16, rfl, rfl, O, BW⟩ := hrel
      by_cases hdn : d < 16
      · have hd : decide ((d : Int) < 16) = true := by simp; omega
        have hdz : (d : Int) < 16 := by omega
        obtain ⟨q, hq, hqt⟩ := HK.it d hdn
        have g0 : wr.cell? ⟨g, d, none⟩ = some (.pointer (some ⟨q, 0, none⟩)) := (BW.it.cell (p := ⟨g, d, none⟩) hgB).trans hq
        have hgl : g < wr.heap.size := Nat.lt_of_lt_of_le HGL.it BW.it.size
        have HT : Kp (Tr ka kb (fun q => q < B) f (kid ka kb (3 - f) d L) wr q) := ⟨Tr.same ⟨BW.it.size, fun b hb _ => BW.it.block b hb⟩ f hqt⟩
        have HZ : Kp (B ≤ wr.heap.size) := ⟨Nat.le_trans HBK.it BW.it.size⟩
        have HLE : Kp ((l0 ++ (List.range d).flatMap fun i => flatP ka kb f (kid ka kb (3 - f) i L)).length + (kid ka kb (3 - f) d L).length ≤ 50000) := ⟨by
          have h1 := (kids_perm ka kb (3 - f) L).length_eq
          rw [List.length_flatMap] at h1
          have h2 : ((List.range d).flatMap fun i => flatP ka kb f (kid ka kb (3 - f) i L)).length + (kid ka kb (3 - f) d L).length ≤ L.length := by
            rw [List.length_flatMap, ← h1, show (16 : Nat) = (d + 1) + (15 - d) by omega, List.range_add, List.map_append, List.sum_append, List.range_succ, List.map_append, List.sum_append]
            simp only [flatP_len, List.map_cons, List.map_nil, List.sum_cons, List.sum_nil]
            omega
          rw [List.length_append]
          have := HNL.it
          omega⟩
        clear hq hqt
        go_wp2_with fail
        go_at_call 64
        refine (IH.it B q _ A5 k5 c5 _ wr HT.it O.it HZ.it HLE.it).mono ?_
        rintro e w6 ⟨A6, k6, c6, rfl, ho6, hb6⟩
        have O6 : Kp (OwnP w6 B (.slice A6 k6 c6) (l0 ++ (List.range (d + 1)).flatMap fun i => flatP ka kb f (kid ka kb (3 - f) i L))) := ⟨by
          rw [List.range_succ, List.flatMap_append, ← List.append_assoc]
          simpa using ho6⟩
        have B6 := Kp.mk (BW.it.trans hb6)
        clear ho6 hb6
        go_wp2
        go_roundw
        case rel => exact ⟨d + 1, A6, k6, c6, by omega, by go_num, rfl, O6, B6⟩
        case measure => simp [intOf]; omega
      · obtain rfl : d = 16 := by omega
        have hd : decide (((16 : Nat) : Int) < 16) = false := by decide
        have HE : Kp (OwnP wr B (.slice A5 k5 c5) (l0 ++ flatP ka kb (f + 1) L)) := ⟨O.it⟩
        clear O
        go_wp2
        go_ret
        exact ⟨_, _, _, rfl, HE.it, BW.it⟩
theorem all_any (ka kb : BitVec 64) : ∀ f, AllOk ka kb f
  | 0 => all_zero ka kb
  | f + 1 => all_succ ka kb f (all_any ka kb f)
end Go.Proofs.Ytcmkjoepndbicaa
