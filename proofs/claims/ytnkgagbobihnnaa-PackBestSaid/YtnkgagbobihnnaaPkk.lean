/-
  The program's Pack.
-/
import Derived.Test.YtnkgagbobihnnaaChv
import Derived.Test.YtnkgagbobihnnaaSml
import Derived.Test.YtnkgagbobihnnaaWir
namespace Go.Proofs.Ytnkgagbobihnnaa
open Go Go.RowKit Go.Shelf
attribute [local go_sem] Oper.semAt_some

/-- The k-th part. -/
def part (b : List UInt8) (k : Nat) : List UInt8 := (b.drop (4096 * k)).take 4096
theorem part_len {b : List UInt8} {n : Nat} (h : b.length = n) (k : Nat) : (part b k).length = cl n k := by
  unfold part cl
  rw [List.length_take, List.length_drop, h]
/-- What is written of a part. -/
def blockP (p : List UInt8) : List UInt8 := if (smallP p).length < p.length then numB 1 ++ txtB ⟨(smallP p).toArray⟩ else numB 0 ++ txtB ⟨p.toArray⟩
def packN (b : List UInt8) (l : List Nat) : List UInt8 := numB b.length ++ l.flatMap fun k => blockP (part b k)
def packP (b : List UInt8) : List UInt8 := packN b (List.range (cks b.length))
theorem packN_snoc (b : List UInt8) (l : List Nat) (k : Nat) : packN b (l ++ [k]) = packN b l ++ blockP (part b k) := by
  unfold packN
  rw [List.flatMap_append, ← List.append_assoc]
  simp
theorem rb_part {w : World} {b o n : Nat} {bs : List UInt8} (h : Rb w (some ⟨b, o, none⟩) n bs) {k : Nat} (hk : 4096 * k < n) : Rb w (some ⟨b, o + 4096 * k, none⟩) (cl n k) (part bs k) :=
  ⟨part_len h.len k, by have := h.bd; unfold cl; omega, fun h0 => by
    obtain ⟨b', o', e, hlt, hc⟩ := h.cells (by omega)
    cases e
    refine ⟨b, o + 4096 * k, rfl, hlt, fun j hj => ?_⟩
    have hj2 : j < 4096 ∧ 4096 * k + j < n := by unfold cl at hj; omega
    rw [Nat.add_assoc, hc _ hj2.2]
    congr 2
    unfold byte part
    congr 2
    rw [List.getD_eq_getElem?_getD, List.getD_eq_getElem?_getD, List.getElem?_take_of_lt hj2.1, List.getElem?_drop]⟩
/-- The out box while parts come. -/
structure PI (w : World) (n Po : Nat) (bs : List UInt8) (pre : List Nat) (W : World) (A : Option Addr) (m c : Nat) : Prop where
  box : W.heap[Po]? = some (.cells #[.slice A m c] 29 (0, 0))
  own : OwnB W w.heap.size (.slice A m c) (packN bs pre)
  len : m = (packN bs pre).length
  nil : A = none → c = 0
  bel : Below w.heap.size w W
  lo : w.heap.size ≤ Po
  sz : Po + 3 ≤ W.heap.size
def PJ (w : World) (n Po : Nat) (bs : List UInt8) (pre : List (Fin (cks n))) (W : World) : Prop := ∃ A m c, PI w n Po bs (pre.map Fin.val) W A m c
theorem ownB_kept' {W W' : World} {base : Nat} {v : Value} {l : List UInt8} {row : Option Nat} (h : OwnB W base v l) (hg : W.grownBy W' row) (hr : ∀ r, row = some r → ∃ o : Obj, W.heap[r]? = some o ∧ o.isCells = false) : OwnB W' base v l := by
  refine h.kept hg ?_
  cases hv : v.ownBlock with
  | none => exact .inr rfl
  | some g =>
    left
    intro e
    obtain ⟨cur, hc⟩ := h.blkt g hv
    obtain ⟨o, ho, ho2⟩ := hr g e.symm
    rw [hc] at ho
    cases ho
    simp [Obj.isCells] at ho2
theorem PJ.ownFrom {w : World} {n Po : Nat} {bs : List UInt8} {B : Nat} (hB : w.heap.size ≤ B) : OwnFrom B (PJ w n Po bs) := by
  rintro s W W' row ⟨A, m, c, h⟩ hg hr
  refine ⟨A, m, c, ⟨(hg.block Po (lt_of_obj h.box) (fun e => ?_)).trans h.box, ownB_kept' h.own hg (fun r e => (hr r e).2), h.len, h.nil, h.bel.grown hg h.bel.size (fun k e => Nat.le_trans hB (hr k e).1), h.lo, Nat.le_trans h.sz hg.size⟩⟩
  obtain ⟨o, ho, ho2⟩ := (hr Po e.symm).2
  rw [h.box] at ho
  cases ho
  simp [Obj.isCells] at ho2
theorem keeps_below {W W' : World} (h : Below W.heap.size W W') : KeepsOthers W W' := KeepsOthers.of_grownBy (row := none) ⟨h.os, h.tape, h.output, h.size, fun k hk _ => h.block k hk⟩ (fun _ _ e => by cases e)
theorem PI.start {w W : World} {n Po : Nat} {bs : List UInt8} {A : Option Addr} {m c : Nat} (hb : W.heap[Po]? = some (.cells #[.slice A m c] 29 (0, 0))) (ho : OwnB W w.heap.size (.slice A m c) (numB bs.length)) (hl : m = (numB bs.length).length) (hn : A = none → c = 0) (h : Below w.heap.size w W) (h0 : w.heap.size ≤ Po) (hz : Po + 3 ≤ W.heap.size) : PI w n Po bs [] W A m c :=
  ⟨hb, by unfold packN; simpa using ho, by unfold packN; simpa using hl, hn, h, h0, hz⟩
theorem fin_map (N : Nat) : (List.finRange N).map Fin.val = List.range N := by
  apply List.ext_getElem
  · simp
  · intro i h1 h2; simp
theorem pk_len_le (bits : List Nat) : (pk bits).length ≤ bits.length := by
  have key : ∀ (bits : List Nat) (s : List UInt8 × Nat), (bits.foldl pkS s).1.length ≤ s.1.length + bits.length := by
    intro bits
    induction bits with
    | nil => intro s; exact Nat.le_refl _
    | cons d bits ih =>
      intro s
      have h := ih (pkS s d)
      have h2 : (pkS s d).1.length ≤ s.1.length + 1 := by
        unfold pkS
        split
        · rw [List.length_append, List.length_singleton]; exact Nat.le_refl _
        · rw [List.length_set]; omega
      rw [List.foldl_cons, List.length_cons]
      omega
  have := key bits ([], 0)
  show (bits.foldl pkS ([], 0)).1.length ≤ _
  simpa using this
theorem smallP_len {b : List UInt8} (h : b.length ≤ 5000) : (smallP b).length ≤ 200000 := by
  have h1 := pk_len_le (bitsP b)
  have hs := signsP_lt b
  have hsl := signsP_len b
  have HW := wts_ok (fun k hk => (hs k hk).1) (by omega)
  have h2 := lensB_len HW.len
  have h3 := codeB_len (cs := (codesP (lengthsN (cntW (signsP b)))).2) HW.rng (fun k hk => (hs k hk).1) (signsP b).length (Nat.le_refl _)
  have h4 : (bitsP b).length ≤ 200000 := by
    unfold bitsP
    rw [List.length_append, List.length_append, dg_len]
    omega
  unfold smallP
  omega
theorem txtB_len (s : ByteArray) : (txtB s).length = (numB s.size).length + s.size := by
  unfold txtB
  rw [List.length_append]
  simp
theorem arr_size (l : List UInt8) : (⟨l.toArray⟩ : ByteArray).size = l.length := by simp [ByteArray.size]
theorem blockP_len {p : List UInt8} (h : p.length ≤ 4096) : (blockP p).length ≤ 4200 := by
  have h0 := numB_len 0 (by omega)
  have h1 := numB_len 1 (by omega)
  unfold blockP
  split
  · have h2 := numB_len (smallP p).length (by omega)
    rw [List.length_append, txtB_len, arr_size]
    omega
  · have h2 := numB_len p.length (by omega)
    rw [List.length_append, txtB_len, arr_size]
    omega
theorem packN_len {b : List UInt8} {n : Nat} (hb : b.length = n) (hn : n ≤ 1000000) (l : List Nat) : (packN b l).length ≤ 9 + 4200 * l.length := by
  unfold packN
  rw [List.length_append]
  have h0 := numB_len b.length (by omega)
  have key : (l.flatMap fun k => blockP (part b k)).length ≤ 4200 * l.length := by
    induction l with
    | nil => simp
    | cons k l ih =>
      rw [List.flatMap_cons, List.length_append, List.length_cons]
      have := blockP_len (p := part b k) (by rw [part_len hb]; unfold cl; omega)
      omega
  omega
theorem KpC.put {q n₀ : Nat} {W W1 : World} (h : Below W.heap.size W W1) (hn : n₀ ≤ W.heap.size) (v : Value) : KpC q n₀ W (W1.setCell ⟨q, 0, none⟩ v) :=
  ⟨by rw [size_set]; exact h.size, fun i h1 h2 => by rw [other_block _ _ _ h2]; exact h.block i (Nat.lt_of_lt_of_le h1 hn)⟩
/-- The out row moves into the box. -/
theorem PI.put {w W W1 : World} {n Po : Nat} {bs : List UInt8} {pre pre' : List Nat} {A A1 : Option Addr} {m c m1 c1 : Nat} (h : PI w n Po bs pre W A m c) (hb : Below W.heap.size W W1) (ho : OwnB W1 W.heap.size (.slice A1 m1 c1) (packN bs pre')) (hl : m1 = (packN bs pre').length) (hn : A1 = none → c1 = 0) :
    PI w n Po bs pre' (W1.setCell ⟨Po, 0, none⟩ (.slice A1 m1 c1)) A1 m1 c1 := by
  have hP := (hb.block Po (lt_of_obj h.box)).trans h.box
  refine ⟨by rw [blk_set _ hP]; rfl, (ho.relax h.bel.size).kept (grown_set (World.grownBy.refl W1 (some Po)) _ _) (.inl fun e => ?_), hl, hn, (h.bel.trans (hb.mono h.bel.size)).setCell h.lo _, h.lo, by rw [size_set]; exact Nat.le_trans h.sz hb.size⟩
  have h1 := ho.base_le Po e
  have h2 := lt_of_obj h.box
  omega
set_option maxRecDepth 100000 in
set_option maxHeartbeats 8000000 in
theorem pack_any (A : Option Addr) (n c : Nat) (bs : List UInt8) (w : World) (h : Rb w A n bs) (hnil : A = none → c = 0) (hnc : n ≤ c) (hn : n ≤ 1000000) :
    Calls Try.prog 37 #[.slice A n c] w fun e w' => ∃ v, e = .returned v ∧ OwnB w' w.heap.size v (packP bs) ∧ Below w.heap.size w w' := by
  have H := Kp.mk h
  have HL := Kp.mk h.len
  have HNUM := Kp.mk (number_any none 0 0 [] n w ⟨rfl, by omega, fun h => absurd h (by omega)⟩ (fun _ => rfl) (by omega) (by omega))
  clear h
  refine (callsIn_wide (n := 5)).1 ?_
  refine callsIn_of_wp_marks Try.func37 rfl trivial ?_
  simp only [Try.ntmps37, List.size_toArray, List.length_cons, List.length_nil, Nat.reduceAdd, Nat.reduceSub, Array.replicate_succ, Array.replicate_zero, List.push_toArray, List.append_toArray, List.nil_append, List.cons_append]
  have HN9 : Kp ((numB n).length ≤ 9) := ⟨numB_len n (by omega)⟩
  gi_wp2_with (first | (refine ⟨trivial, ?_⟩; gi_at_call 62; refine (callsIn_wide.2 HNUM.it).mono ?_; rintro e w1 ⟨v1, rfl, ho1, hb1⟩; obtain ⟨A1, c1, hv1, hn1, _, _⟩ := ho1.form (by rw [List.nil_append]; have := HN9.it; omega); rw [List.nil_append] at hv1 ho1; subst hv1; have O1 := Kp.mk ho1; have B1 := Kp.mk hb1; have N1 := Kp.mk hn1; clear ho1 hb1 hn1) | (refine ⟨trivial, ?_⟩; gi_at_call 63; refine (callsIn_wide.2 (chunk_any A n c _)).mono ?_; rintro e w' ⟨rfl, rfl⟩))
  obtain ⟨Po, hPo⟩ : ∃ Po, Po = w1.heap.size := ⟨_, rfl⟩
  have HPW : Kp (w.heap.size ≤ Po) := ⟨by rw [hPo]; exact B1.it.size⟩
  have hb3 : Below w1.heap.size w1 (((w1.alloc (.cells #[.slice A1 (numB n).length c1] 29)).alloc (.cells #[.slice A n c] 29)).alloc (.cells #[.int .i64 4096] 3)) := (((Below.refl _ _).alloc (Nat.le_refl _) _).alloc (by simp) _).alloc (by simp; omega) _
  have HPI : Kp (PI w n Po bs [] (((w1.alloc (.cells #[.slice A1 (numB n).length c1] 29)).alloc (.cells #[.slice A n c] 29)).alloc (.cells #[.int .i64 4096] 3)) A1 (numB n).length c1) := ⟨by
    refine PI.start ?_ ?_ (by rw [HL.it]) N1.it (B1.it.trans (hb3.mono B1.it.size)) HPW.it (by rw [hPo]; simp)
    · rw [hPo]; exact blk_old _ (blk_old _ (blk_new _ _))
    · rw [HL.it]
      exact O1.it.below hb3⟩
  have HC1 : Kp ((((w1.alloc (.cells #[.slice A1 (numB n).length c1] 29)).alloc (.cells #[.slice A n c] 29)).alloc (.cells #[.int .i64 4096] 3)).cell? ⟨Po + 1, 0, none⟩ = some (.slice A n c)) := ⟨by
    rw [hPo]; exact blk_cell (blk_old _ (blk_new1 _ _ _)) rfl⟩
  have HC2 : Kp ((((w1.alloc (.cells #[.slice A1 (numB n).length c1] 29)).alloc (.cells #[.slice A n c] 29)).alloc (.cells #[.int .i64 4096] 3)).cell? ⟨Po + 1 + 1, 0, none⟩ = some (.int .i64 4096)) := ⟨by
    have h9 := blk_new ((w1.alloc (.cells #[.slice A1 (numB n).length c1] 29)).alloc (.cells #[.slice A n c] 29)) (.cells #[.int .i64 4096] 3)
    simp only [World.size_alloc] at h9
    rw [hPo]; exact blk_cell h9 rfl⟩
  have HZ : Kp ((((w1.alloc (.cells #[.slice A1 (numB n).length c1] 29)).alloc (.cells #[.slice A n c] 29)).alloc (.cells #[.int .i64 4096] 3)).heap.size = Po + 3) := ⟨by rw [hPo]; simp⟩
  rw [← hPo]
  clear hb3 O1 B1 N1 HNUM hPo
  generalize ((w1.alloc (.cells #[.slice A1 (numB n).length c1] 29)).alloc (.cells #[.slice A n c] 29)).alloc (.cells #[.int .i64 4096] 3) = W0 at HPI HC1 HC2 HZ ⊢
  obtain ⟨b, o, hA⟩ : ∃ b o, 0 < n → A = some ⟨b, o, none⟩ := by
    rcases Nat.eq_zero_or_pos n with h0 | h0
    · exact ⟨0, 0, fun h9 => by omega⟩
    · obtain ⟨b, o, e, _⟩ := H.it.cells h0
      exact ⟨b, o, fun _ => e⟩
  generalize hm1 : (numB n).length = m1 at HPI ⊢
  clear hm1 HN9
  refine wpIn_rangeFunc_ownF rfl (by omega) (gf := 93) (lb := #[.pointer (some ⟨Po + 1, 0, none⟩), .pointer (some ⟨Po + 1 + 1, 0, none⟩)]) rfl trivial (enters_of Try.func93 (by kernel_rfl) rfl)
    (chunk_stops Fence.wide (5 - 1) trivial rfl (by omega) (Po + 1) (Po + 1 + 1) (Po + 3) Po b o n c A hA (by omega) hnc ⟨by omega, by omega, by omega, by omega⟩ W0 ⟨by rw [HZ.it]; omega, by rw [HZ.it]; omega⟩ HC1.it HC2.it)
    KpC.trans (kpC_b (by rw [HZ.it]; exact Nat.le_refl _)) (Below.refl _ _) (fun _ => rfl) (PJ w n Po bs) (fun _ _ _ => False) (PJ.ownFrom (by rw [HZ.it]; have := HPW.it; omega)) (fun _ _ _ _ _ hs _ _ => hs) ⟨_, _, _, HPI.it⟩
    (fun x => { tmps := #[.slice A n c, undef, .slice none 0 0, .pointer (some ⟨Po, 0, none⟩), .slice (some ⟨b, o + 4096 * x.val, none⟩) (cl n x.val) (cl n x.val), undef, .slice A n c, .int .i64 n, .slice A1 m1 c1, .slice A n c, .func (.func 93) #[] #[.pointer (some ⟨Po + 1, 0, none⟩), .pointer (some ⟨Po + 1 + 1, 0, none⟩)], .slice (some ⟨b, o + 4096 * x.val, none⟩) (cl n x.val) (cl n x.val), undef, undef, undef, undef, undef, undef, undef, undef, undef, undef, undef, undef, undef, undef, undef, undef, undef, undef], defers := [] }) ?assign ?body ?done ?stop
  case assign =>
    intro l x W K hK
    gi_wp2
    exact hK
  case body =>
    rintro l pre x W ⟨A2, m2, c2, hI⟩ hpre
    have hx : 4096 * x.val < n := by have := x.isLt; unfold cks at this; omega
    have hAx := hA (by omega)
    subst hAx
    have HI := Kp.mk hI
    have HP : Kp (Rb W (some ⟨b, o + 4096 * x.val, none⟩) (cl n x.val) (part bs x.val)) := ⟨rb_part (H.it.below hI.bel) hx⟩
    have HSM := Kp.mk (small_any _ _ (cl n x.val) _ W HP.it (by unfold cl; omega))
    have hcl : cl n x.val ≤ 4096 := by unfold cl; omega
    have HCL := Kp.mk HP.it.len
    have HFL : Kp (packN bs ((pre ++ [x]).map Fin.val) = packN bs (pre.map Fin.val) ++ blockP (part bs x.val)) := ⟨by rw [List.map_append]; exact packN_snoc _ _ _⟩
    have hbox := blk_cell (o := 0) hI.box rfl
    have hd : 1 ≤ 5 - 1 - 1 := by omega
    have hmx : Try.prog.follows .mixedOrders = true := by kernel_rfl
    clear hI
    have HPL : Kp ((packN bs (pre.map Fin.val)).length ≤ 2000000000) := ⟨by
      have h1 := packN_len HL.it hn (pre.map Fin.val)
      rw [List.length_map] at h1
      have hck : cks n ≤ 245 := by unfold cks; omega
      omega⟩
    have HSL := Kp.mk (smallP_len (b := part bs x.val) (by rw [HCL.it]; omega))
    have HBP : Kp (blockP (part bs x.val) = if (smallP (part bs x.val)).length < cl n x.val then numB 1 ++ txtB ⟨(smallP (part bs x.val)).toArray⟩ else numB 0 ++ txtB ⟨(part bs x.val).toArray⟩) := ⟨by unfold blockP; rw [HCL.it]⟩
    clear hpre
    obtain ⟨L5, hL5⟩ : ∃ L5, L5 = (smallP (part bs x.val)).length := ⟨_, rfl⟩
    rw [← hL5] at HBP HSL
    have HL5 := Kp.mk hL5
    have hL5b := HSL.it
    clear hL5
    by_cases hlt : L5 < cl n x.val
    · rw [if_pos hlt] at HBP
      have hq1 : decide (L5 < cl n x.val) = true := by simpa using hlt
      clear hlt
      gi_wp2_with (refine ⟨trivial, ?_⟩; gi_at_call 64; refine (CallsIn.inRound l (callsIn_wide.2 HSM.it)).mono ?_; rintro e w5 ⟨v5, rfl, ho5, hb5⟩; obtain ⟨A5, c5, hv5, _, _, hr5⟩ := ho5.form (by rw [← HL5.it]; omega); rw [← HL5.it] at hv5 hr5; subst hv5; have R5 := Kp.mk hr5; have B5 := Kp.mk hb5; have bx5 : w5.cell? ⟨Po, 0, none⟩ = some (.slice A2 m2 c2) := (hb5.cell (p := ⟨Po, 0, none⟩) (lt_of_obj HI.it.box)).trans (blk_cell HI.it.box rfl); clear ho5 hb5 hr5)
      have HNIL := Kp.mk HI.it.nil
      have HO5 : Kp (OwnB w5 w.heap.size (.slice A2 m2 c2) (packN bs (pre.map Fin.val))) := ⟨HI.it.own.below B5.it⟩
      have HM2 : Kp (m2 = (packN bs (pre.map Fin.val)).length) := ⟨HI.it.len⟩
      have HR2 : Kp (Rb w5.drew A2 m2 (packN bs (pre.map Fin.val))) := ⟨by
        obtain ⟨A9, c9, e9, _, _, hr9⟩ := HO5.it.form (by have := HPL.it; omega)
        rw [← HM2.it] at e9 hr9
        cases e9
        exact hr9.below (below_drew (Below.refl _ _))⟩
      have hnum := number_any A2 m2 c2 (packN bs (pre.map Fin.val)) 1 w5.drew HR2.it HNIL.it (by omega) (by have := HPL.it; have := HM2.it; omega)
      have HNUM2 := Kp.mk hnum
      have hcv5 := (R5.it.below (below_drew (Below.refl _ _)) : Rb w5.drew A5 L5 _).conv c5
      have HLE9 : Kp ((numB 1).length ≤ 9) := ⟨numB_len 1 (by omega)⟩
      have HN5 : Kp ((numB L5).length ≤ 9) := ⟨numB_len L5 (by omega)⟩
      have HWZ : Kp (Po + 3 ≤ W.heap.size) := ⟨HI.it.sz⟩
      clear hnum
      gi_region_with_o (first | (refine ⟨trivial, ?_⟩; gi_at_call 62; refine (CallsIn.inRound l (callsIn_wide.2 HNUM2.it)).mono ?_; rintro e w6 ⟨v6, rfl, ho6, hb6⟩; obtain ⟨A6, c6, hv6, hn6, _, hr6⟩ := ho6.form (by rw [List.length_append, ← HM2.it]; have := HPL.it; have := HM2.it; have := HLE9.it; omega); rw [List.length_append, ← HM2.it] at hv6 hr6; subst hv6; have hcv6 := (R5.it.below ((below_drew (Below.refl _ _)).trans hb6) : Rb w6 A5 L5 _).conv c5; have HT6 := Kp.mk (text_any A6 (m2 + (numB 1).length) c6 _ ⟨(smallP (part bs x.val)).toArray⟩ w6 hr6 hn6 (by rw [arr_size, ← HL5.it]; have := HPL.it; have := HM2.it; have := HLE9.it; omega)); have B6 := Kp.mk hb6; clear ho6 hb6 hr6 hn6) | (refine ⟨trivial, ?_⟩; gi_at_call 65; refine (CallsIn.inRound l (callsIn_wide.2 HT6.it)).mono ?_; rintro e w7 ⟨v7, rfl, ho7, hb7⟩; obtain ⟨A7, c7, hv7, hn7, _, _⟩ := ho7.form (by rw [List.length_append, List.length_append, ← HM2.it, txtB_len, arr_size, ← HL5.it]; have := HPL.it; have := HM2.it; have := HLE9.it; have := HN5.it; omega); obtain ⟨m7, hm7⟩ : ∃ m7, m7 = (packN bs (pre.map Fin.val) ++ numB 1 ++ txtB ⟨(smallP (part bs x.val)).toArray⟩).length := ⟨_, rfl⟩; rw [← hm7] at hv7; subst hv7; have B7 : Kp (Below W.heap.size W w7) := ⟨B5.it.trans ((((below_drew (Below.refl _ _)).trans B6.it).trans (hb7.mono B6.it.size)).mono B5.it.size)⟩; have PF := Kp.mk (PI.put (pre' := (pre ++ [x]).map Fin.val) HI.it B7.it (by rw [HFL.it, HBP.it, ← List.append_assoc]; exact ho7.relax (Nat.le_trans B5.it.size B6.it.size)) (by rw [HFL.it, HBP.it, ← List.append_assoc]; exact hm7) hn7); have hp7 := (B7.it.block Po (lt_of_obj HI.it.box)).trans HI.it.box; have bx7 := blk_cell (o := 0) hp7 rfl; have fx7 : w7.frozen? ⟨Po, 0, none⟩ = false := blk_free hp7; clear ho7 hb7 hm7 hn7 hp7))
      all_goals
        gi_wp2
        exact ⟨(keeps_below B7.it).trans (KeepsOthers.setCell _ _ _), KpC.put B7.it HWZ.it _, ⟨_, _, _, PF.it⟩⟩
    · rw [if_neg hlt] at HBP
      have hq1 : decide (L5 < cl n x.val) = false := by simpa using hlt
      clear hlt
      gi_wp2_with (refine ⟨trivial, ?_⟩; gi_at_call 64; refine (CallsIn.inRound l (callsIn_wide.2 HSM.it)).mono ?_; rintro e w5 ⟨v5, rfl, ho5, hb5⟩; obtain ⟨A5, c5, hv5, _, _, hr5⟩ := ho5.form (by rw [← HL5.it]; omega); rw [← HL5.it] at hv5 hr5; subst hv5; have R5 := Kp.mk hr5; have B5 := Kp.mk hb5; have bx5 : w5.cell? ⟨Po, 0, none⟩ = some (.slice A2 m2 c2) := (hb5.cell (p := ⟨Po, 0, none⟩) (lt_of_obj HI.it.box)).trans (blk_cell HI.it.box rfl); clear ho5 hb5 hr5)
      have HNIL := Kp.mk HI.it.nil
      have HO5 : Kp (OwnB w5 w.heap.size (.slice A2 m2 c2) (packN bs (pre.map Fin.val))) := ⟨HI.it.own.below B5.it⟩
      have HM2 : Kp (m2 = (packN bs (pre.map Fin.val)).length) := ⟨HI.it.len⟩
      have HR2 : Kp (Rb w5.drew A2 m2 (packN bs (pre.map Fin.val))) := ⟨by
        obtain ⟨A9, c9, e9, _, _, hr9⟩ := HO5.it.form (by have := HPL.it; omega)
        rw [← HM2.it] at e9 hr9
        cases e9
        exact hr9.below (below_drew (Below.refl _ _))⟩
      have hnum := number_any A2 m2 c2 (packN bs (pre.map Fin.val)) 0 w5.drew HR2.it HNIL.it (by omega) (by have := HPL.it; have := HM2.it; omega)
      have HNUM2 := Kp.mk hnum
      have RP5 : Kp (Rb w5 (some ⟨b, o + 4096 * x.val, none⟩) (cl n x.val) (part bs x.val)) := ⟨HP.it.below B5.it⟩
      have hcv5 := (RP5.it.below (below_drew (Below.refl _ _)) : Rb w5.drew _ _ _).conv (cl n x.val)
      have HLE9 : Kp ((numB 0).length ≤ 9) := ⟨numB_len 0 (by omega)⟩
      have HN5 : Kp ((numB (cl n x.val)).length ≤ 9) := ⟨numB_len (cl n x.val) (by omega)⟩
      have HWZ : Kp (Po + 3 ≤ W.heap.size) := ⟨HI.it.sz⟩
      clear hnum
      gi_region_with_o (first | (refine ⟨trivial, ?_⟩; gi_at_call 62; refine (CallsIn.inRound l (callsIn_wide.2 HNUM2.it)).mono ?_; rintro e w6 ⟨v6, rfl, ho6, hb6⟩; obtain ⟨A6, c6, hv6, hn6, _, hr6⟩ := ho6.form (by rw [List.length_append, ← HM2.it]; have := HPL.it; have := HM2.it; have := HLE9.it; omega); rw [List.length_append, ← HM2.it] at hv6 hr6; subst hv6; have hcv6 := (RP5.it.below ((below_drew (Below.refl _ _)).trans hb6) : Rb w6 _ _ _).conv (cl n x.val); have HT6 := Kp.mk (text_any A6 (m2 + (numB 0).length) c6 _ ⟨(part bs x.val).toArray⟩ w6 hr6 hn6 (by rw [arr_size, HCL.it]; have := HPL.it; have := HM2.it; have := HLE9.it; omega)); have B6 := Kp.mk hb6; clear ho6 hb6 hr6 hn6) | (refine ⟨trivial, ?_⟩; gi_at_call 65; refine (CallsIn.inRound l (callsIn_wide.2 HT6.it)).mono ?_; rintro e w7 ⟨v7, rfl, ho7, hb7⟩; obtain ⟨A7, c7, hv7, hn7, _, _⟩ := ho7.form (by rw [List.length_append, List.length_append, ← HM2.it, txtB_len, arr_size, HCL.it]; have := HPL.it; have := HM2.it; have := HLE9.it; have := HN5.it; omega); obtain ⟨m7, hm7⟩ : ∃ m7, m7 = (packN bs (pre.map Fin.val) ++ numB 0 ++ txtB ⟨(part bs x.val).toArray⟩).length := ⟨_, rfl⟩; rw [← hm7] at hv7; subst hv7; have B7 : Kp (Below W.heap.size W w7) := ⟨B5.it.trans ((((below_drew (Below.refl _ _)).trans B6.it).trans (hb7.mono B6.it.size)).mono B5.it.size)⟩; have PF := Kp.mk (PI.put (pre' := (pre ++ [x]).map Fin.val) HI.it B7.it (by rw [HFL.it, HBP.it, ← List.append_assoc]; exact ho7.relax (Nat.le_trans B5.it.size B6.it.size)) (by rw [HFL.it, HBP.it, ← List.append_assoc]; exact hm7) hn7); have hp7 := (B7.it.block Po (lt_of_obj HI.it.box)).trans HI.it.box; have bx7 := blk_cell (o := 0) hp7 rfl; have fx7 : w7.frozen? ⟨Po, 0, none⟩ = false := blk_free hp7; clear ho7 hb7 hm7 hn7 hp7))
      all_goals
        gi_wp2
        exact ⟨(keeps_below B7.it).trans (KeepsOthers.setCell _ _ _), KpC.put B7.it HWZ.it _, ⟨_, _, _, PF.it⟩⟩
  case done =>
    rintro D ys W hD rfl ⟨A2, m2, c2, hI⟩ hK
    have hc := blk_cell (o := 0) hI.box rfl
    gi_wp2
    refine ⟨by simp, .inl ⟨_, _, rfl, run_takeDeferred hK, ?_⟩⟩
    refine ⟨_, results_tmp rfl _ _ _, _, rfl, ?_, ?_⟩
    · have h9 := ownB_kept' hI.own (grownBy_putObj' W D (.deferred none)) (fun r e => by cases e; exact ⟨_, hK, rfl⟩)
      rw [fin_map] at h9
      unfold packP
      rw [HL.it]
      exact h9
    · exact hI.bel.grown (grownBy_putObj' W D (.deferred none)) hI.bel.size (fun k e => by cases e; rw [HZ.it] at hD; have := HPW.it; omega)
  case stop =>
    rintro D c pre W _ _ h _
    exact h.elim
end Go.Proofs.Ytnkgagbobihnnaa
