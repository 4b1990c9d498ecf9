/-
  The reference's Get, Union, Diff; rows of events.
-/
import Derived.Test.YtcmkjoepndbicaaSho
namespace Go.Proofs.Ytcmkjoepndbicaa
open Go Go.RowKit

/-- An event. -/
structure Ev where
  pos : Int
  key : ByteArray
  had : Bool
  old : ByteArray
  has : Bool
  now : ByteArray
def Ev.cells (k : Ev) : List Value := [.int .i64 k.pos, .string k.key, .bool k.had, .string k.old, .bool k.has, .string k.now]
/-- A slice of events, as read. -/
structure RE (w : World) (A : Option Addr) (n : Nat) (ks : List Ev) : Prop where
  len : ks.length = n
  bd : n * 72 ≤ 140737488355328
  row : 0 < n → ∃ b o, A = some ⟨b, o, none⟩ ∧ b < w.heap.size ∧ ∀ (i : Nat) (k : Ev), ks[i]? = some k → ∀ (j : Nat) (u : Value), k.cells[j]? = some u → w.cell? ⟨b, o + (i * 6 + j), none⟩ = some u
theorem RE.below {w w' : World} {A : Option Addr} {n : Nat} {ks : List Ev} (h : RE w A n ks) (hb : Below w.heap.size w w') : RE w' A n ks :=
  ⟨h.len, h.bd, fun hn => by
    obtain ⟨b, o, e, hl, hc⟩ := h.row hn
    exact ⟨b, o, e, Nat.lt_of_lt_of_le hl hb.size, fun i k hk j u hu => (hb.cell (p := ⟨b, o + (i * 6 + j), none⟩) hl).trans (hc i k hk j u hu)⟩⟩
theorem RE.get {w : World} {A : Option Addr} {n : Nat} {ks : List Ev} (h : RE w A n ks) {i : Nat} {k : Ev} (hk : ks[i]? = some k) :
    ∃ b o : Nat, A = some ⟨b, o, none⟩ ∧ b < w.heap.size ∧ w.cell? ⟨b, o + i * 6, none⟩ = some (.int .i64 k.pos) ∧ w.cell? ⟨b, o + i * 6 + 1, none⟩ = some (.string k.key) ∧ w.cell? ⟨b, o + i * 6 + 2, none⟩ = some (.bool k.had) ∧
      w.cell? ⟨b, o + i * 6 + 3, none⟩ = some (.string k.old) ∧ w.cell? ⟨b, o + i * 6 + 4, none⟩ = some (.bool k.has) ∧ w.cell? ⟨b, o + i * 6 + 5, none⟩ = some (.string k.now) := by
  have hi : i < ks.length := (List.getElem?_eq_some_iff.1 hk).1
  obtain ⟨b, o, e, hl, hc⟩ := h.row (by rw [← h.len]; omega)
  have q := fun (j : Nat) (u : Value) => hc i k hk j u
  simp only [← Nat.add_assoc] at q
  exact ⟨b, o, e, hl, q 0 _ rfl, q 1 _ rfl, q 2 _ rfl, q 3 _ rfl, q 4 _ rfl, q 5 _ rfl⟩
theorem Try.info83' : (Try.prog.info? 83).map (fun i => (i.zero, i.size, i.bytes)) = some (some (.agg #[.int .i64 0, .string ⟨#[]⟩, .bool false, .string ⟨#[]⟩, .bool false, .string ⟨#[]⟩]), 6, 72) := by kernel_rfl
def flatE (l : List Ev) : List Value := l.flatMap Ev.cells
theorem flatE_append (a b : List Ev) : flatE (a ++ b) = flatE a ++ flatE b := by unfold flatE; rw [List.flatMap_append]
theorem flatE_len (l : List Ev) : (flatE l).length = l.length * 6 := by
  induction l with
  | nil => rfl
  | cons x l ih =>
    have e : flatE (x :: l) = x.cells ++ flatE l := rfl
    rw [e, List.length_append, ih, List.length_cons]
    have : x.cells.length = 6 := rfl
    omega
theorem flatE_get {l : List Ev} : ∀ {i : Nat} {x : Ev}, l[i]? = some x → ∀ j, j < 6 → (flatE l)[i * 6 + j]? = x.cells[j]? := by
  induction l with
  | nil => intro i x h; simp at h
  | cons y l ih =>
    intro i x h j hj
    have e : flatE (y :: l) = y.cells ++ flatE l := rfl
    have h7 : y.cells.length = 6 := rfl
    rw [e]
    cases i with
    | zero =>
      simp at h
      subst h
      rw [List.getElem?_append_left (by omega)]
      congr 1
      omega
    | succ i =>
      rw [List.getElem?_append_right (by omega), ← ih (by simpa using h) j hj]
      congr 1
      omega
theorem flatE_one (l : List Ev) : ∀ u ∈ flatE l, u.oneCell' = true := by
  intro u hu
  unfold flatE at hu
  obtain ⟨x, _, hx⟩ := List.mem_flatMap.1 hu
  unfold Ev.cells at hx
  simp at hx
  rcases hx with rfl | rfl | rfl | rfl | rfl | rfl <;> rfl
def OwnE (W : World) (base : Nat) (v : Value) (l : List Ev) : Prop := W.ownsRow base 83 6 v l.length (flatE l)
theorem OwnE.nil (W : World) (base : Nat) : OwnE W base (.slice none 0 0) [] := World.ownsRow_nil _ _ _ _
theorem OwnE.lt {W : World} {base : Nat} {v : Value} {l : List Ev} (h : OwnE W base v l) (k : Nat) (hk : v.ownBlock = some k) : base ≤ k ∧ k < W.heap.size := by
  unfold OwnE at h
  exact h.lt k hk
theorem OwnE.form {W : World} {base : Nat} {v : Value} {l : List Ev} (h : OwnE W base v l) (hl : l.length ≤ 5000) :
    ∃ A c, v = .slice A l.length c ∧ RE W A l.length l := by
  unfold OwnE at h
  rcases h.2 with ⟨rfl, h0⟩ | ⟨g, cap, cur, rfl, hb, hh, h1, h2, h3, h4⟩
  · obtain rfl : l = [] := List.eq_nil_of_length_eq_zero h0
    exact ⟨none, 0, rfl, ⟨rfl, by decide, fun h => absurd h (Nat.lt_irrefl _)⟩⟩
  · refine ⟨_, cap, rfl, rfl, by omega, fun _ => ⟨g, 0, rfl, (Array.getElem?_eq_some_iff.1 hh).1, fun i x hx j u hu => ?_⟩⟩
    have hi : i < l.length := (List.getElem?_eq_some_iff.1 hx).1
    have hj : j < 6 := (List.getElem?_eq_some_iff.1 hu).1
    have e := flatE_get hx j hj
    rw [← h4, List.getElem?_take, if_pos (by omega), hu] at e
    rw [Nat.zero_add]
    exact blk_cell hh (by simpa using e)
theorem OwnE.below {W W' : World} {base : Nat} {v : Value} {l : List Ev} (h : OwnE W base v l) (hb : Below W.heap.size W W') : OwnE W' base v l :=
  World.ownsRow.kept h (⟨hb.os, hb.tape, hb.output, hb.size, fun i hi _ => hb.block i hi⟩ : W.grownBy W' none) (by cases v.ownBlock <;> simp)
theorem OwnE.relax {W : World} {base base' : Nat} {v : Value} {l : List Ev} (h : OwnE W base v l) (hb : base' ≤ base) : OwnE W base' v l := by
  unfold OwnE at *
  refine ⟨h.1, ?_⟩
  rcases h.2 with h1 | ⟨g, cap, cur, hv, h2, r⟩
  · exact .inl h1
  · exact .inr ⟨g, cap, cur, hv, Nat.le_trans hb h2, r⟩
theorem below_ownE {B base : Nat} {w0 wr w1 : World} {v : Value} {l : List Ev} (hW : Below B w0 wr) (hsz : B ≤ wr.heap.size) (hown : OwnE wr base v l) (hbase : B ≤ base) (hg : wr.grownBy w1 v.ownBlock) : Below B w0 w1 :=
  hW.grown hg hsz (fun k hk => Nat.le_trans hbase (hown.lt k hk).1)
/-- append of one event. -/
theorem app_e1 {ops : Array Oper} {rest : List Oper} {o : Oper} {a : Act} {Q : Exit → Act → World → Prop} {W : World} (hgd : o.guard = none) (s x : Operand)
    (ho : o.op = .call { callee := .builtin .append, args := #[s, x], argTypes := #[78, 78] })
    (base : Nat) (v : Value) (l : List Ev) (y : Ev) (hs : a.eval s = v) (hx : a.eval x = .slice (some ⟨W.heap.size, 0, none⟩) 1 1)
    (HO : OwnE W base v l) (hbase : base ≤ W.heap.size) (hl : l.length + 1 ≤ 5000)
    (h : ∀ v1 w1, OwnE w1 base v1 (l ++ [y]) → W.grownBy w1 v.ownBlock → wpList Try.prog ops Q rest (a.put o.dst v1) w1) :
    wpList Try.prog ops Q (o :: rest) a (W.alloc (.cells #[.int .i64 y.pos, .string y.key, .bool y.had, .string y.old, .bool y.has, .string y.now] 83)) := by
  obtain ⟨i0, hi, hz0, hz1, hz2⟩ := info_parts Try.info83'
  refine wpList_append_own_at (W.alloc (.cells #[.int .i64 y.pos, .string y.key, .bool y.had, .string y.old, .bool y.has, .string y.now] 83)) hgd s x 78 ho base 83 i0 _ 6 72 Try.underlying78 hi hz0 hz1 hz2 rfl (by omega) v l.length _ hs (World.ownsRow.alloc HO _) ⟨W.heap.size, 0, none⟩ 1 1 y.cells hx rfl
    ?_ (by intro u hu; unfold Ev.cells at hu; simp at hu; rcases hu with rfl | rfl | rfl | rfl | rfl | rfl <;> rfl) (by unfold maxLen; omega) (by omega) (by simp; omega) ?_
  · intro j u hj
    rw [add_plain, Nat.zero_add]
    refine blk_cell (blk_new _ _) ?_
    rw [← hj]
    unfold Ev.cells
    simp
  · intro v1 w1 hown hg _ _
    refine h v1 w1 ?_ (World.grownBy.trans (World.grownBy_alloc W _ _) hg)
    unfold OwnE
    rw [List.length_append, flatE_append]
    have e : flatE [y] = y.cells := by unfold flatE; simp
    rw [e]
    exact hown
/-- What a list has for a pair's key. -/
def fnd (l : List Pr) (p : Pr) : Option Pr := l.find? fun x => decide (keyP x = keyP p)
def gv (l : List Pr) (p : Pr) : ByteArray := ((fnd l p).map (·.2)).getD ⟨#[]⟩
def gh (l : List Pr) (p : Pr) : Bool := (fnd l p).isSome
set_option maxRecDepth 100000 in
set_option maxHeartbeats 4000000 in
theorem get_any (A : Option Addr) (n c : Nat) (l : List Pr) (p : Pr) (w : World) (S : Nat → Prop) (h : RP w S A n l) (hn : n ≤ 1000) :
    Calls Try.prog 67 #[.slice A n c, .string p.1] w fun e w' => e = .returned (.tuple #[.string (gv l p), .bool (gh l p)]) ∧ Below w.heap.size w w' := by
  have HL := Kp.mk h.len
  have H := Kp.mk h
  clear h
  go_enter Try.func67, Try.ntmps67
  go_wp2
  go_loopw [10] (fun i wr => ∃ k : Nat, k ≤ n ∧ i = .int .i64 k ∧ Kp (fnd l p = fnd (l.drop k) p) ∧ Kp (Below w.heap.size w wr)) (fun i _ => n - (intOf i).toNat)
  case atStart => exact ⟨0, by omega, rfl, ⟨by rw [List.drop_zero]⟩, ⟨Below.refl _ _⟩⟩
  case round =>
    obtain ⟨k, hk, rfl, HF, HB⟩ := hrel
    by_cases hkn : k < n
    · have hd : decide ((k : Int) < (n : Int)) = true := by simp; omega
      obtain ⟨x, hx⟩ : ∃ x, l[k]? = some x := ⟨_, List.getElem?_eq_getElem (by rw [HL.it]; exact hkn)⟩
      obtain ⟨b1, o1, hA, hS1, hl1, f0, f1⟩ := (H.it.below HB.it).get hx
      cases hA
      have HDX := Kp.mk (drop_at hx)
      clear hx
      go_upto_region 4 with fail
      refine wp_on (fun wz => wz.heap[wr.heap.size]? = some (.cells #[.string x.1, .string x.2] 43 (0, 0)) ∧ Below wr.heap.size wr wz) (pr_new wr x) (fun w4 h4 => ?_)
      obtain ⟨h4, hb4⟩ := h4
      have HB4 := Kp.mk (HB.it.trans (hb4.mono HB.it.size))
      have g0 : w4.cell? ⟨wr.heap.size, 0, none⟩ = some (.string x.1) := blk_cell h4 rfl
      have g1 : w4.cell? ⟨wr.heap.size, 1, none⟩ = some (.string x.2) := blk_cell h4 rfl
      have hlt4 := (Array.getElem?_eq_some_iff.1 h4).1
      clear h4 hb4 f0 f1
      by_cases hm : keyP x = keyP p
      · have hq : (x.1.toList == p.1.toList) = true := by rw [key_iff]; simp [hm]
        have HE : Kp (fnd l p = some x) := ⟨by rw [HF.it, HDX.it]; unfold fnd; rw [List.find?_cons, decide_eq_true hm]⟩
        have HV : Kp (gv l p = x.2) := ⟨by unfold gv; rw [HE.it]; rfl⟩
        have HH : Kp (gh l p = true) := ⟨by unfold gh; rw [HE.it]; rfl⟩
        clear hm
        go_wp2
        go_ret2
        exact ⟨by rw [HV.it, HH.it]; rfl, HB4.it⟩
      · have hq : (x.1.toList == p.1.toList) = false := by rw [key_iff]; simp [hm]
        have HE : Kp (fnd l p = fnd (l.drop (k + 1)) p) := ⟨by rw [HF.it, HDX.it]; unfold fnd; rw [List.find?_cons, decide_eq_false hm]⟩
        clear hm
        go_wp2
        go_roundw
        case rel => exact ⟨k + 1, by omega, by go_num, HE, HB4⟩
        case measure => simp [intOf]; omega
    · obtain rfl : k = n := by omega
      have hd : decide ((k : Int) < (k : Int)) = false := by simp
      have HE : Kp (fnd l p = none) := ⟨by rw [HF.it, List.drop_of_length_le (by rw [HL.it]; omega)]; rfl⟩
      have HV : Kp (gv l p = ⟨#[]⟩) := ⟨by unfold gv; rw [HE.it]; rfl⟩
      have HH : Kp (gh l p = false) := ⟨by unfold gh; rw [HE.it]; rfl⟩
      go_wp2
      go_ret2
      exact ⟨by rw [HV.it, HH.it]; rfl, HB.it⟩
def unionP (a b : List Pr) : List Pr := b.foldl withP a
theorem unionP_succ (a b : List Pr) {k : Nat} {x : Pr} (hx : b[k]? = some x) : unionP a (b.take (k + 1)) = withP (unionP a (b.take k)) x := by
  unfold unionP
  rw [List.take_add_one, hx, List.foldl_append]
  rfl
theorem unionP_len (a b : List Pr) : ∀ k, k ≤ b.length → (unionP a (b.take k)).length ≤ a.length + k := by
  intro k
  induction k with
  | zero => intro _; simp [unionP]
  | succ k ih =>
    intro hk
    rw [unionP_succ a b (List.getElem?_eq_getElem (show k < b.length by omega))]
    have := withP_le (unionP a (b.take k)) b[k]
    have := ih (by omega)
    omega
set_option maxRecDepth 100000 in
set_option maxHeartbeats 4000000 in
theorem union_any (A B : Option Addr) (n c m d : Nat) (a b : List Pr) (w : World) (S T : Nat → Prop) (h1 : RP w S A n a) (h2 : RP w T B m b) (hnm : n + m ≤ 900) :
    Calls Try.prog 66 #[.slice A n c, .slice B m d] w fun e w' => ∃ A3 n3 c3, e = .returned (.slice A3 n3 c3) ∧ RP w' (fun _ => True) A3 n3 (unionP a b) ∧ n3 ≤ 900 ∧ Below w.heap.size w w' := by
  have HL1 := Kp.mk h1.len
  have HL2 := Kp.mk h2.len
  have H1 := Kp.mk h1
  have H2 := Kp.mk h2
  clear h1 h2
  go_enter Try.func66, Try.ntmps66
  go_wp2
  go_loopw [5, 11] (fun o i wr => ∃ (k : Nat) (A3 : Option Addr) (k3 c3 : Nat), k ≤ m ∧ i = .int .i64 k ∧ o = .slice A3 k3 c3 ∧ k3 ≤ n + k ∧ Kp (RP wr (fun _ => True) A3 k3 (unionP a (b.take k))) ∧ Kp (Below w.heap.size w wr)) (fun _ i _ => m - (intOf i).toNat)
  case atStart => exact ⟨0, A, n, c, by omega, rfl, rfl, by omega, ⟨H1.it.relax (fun _ _ _ => trivial)⟩, ⟨Below.refl _ _⟩⟩
  case round =>
    obtain ⟨k, A3, k3, c3, hk, rfl, rfl, hk3, HR, HB⟩ := hrel
    by_cases hkn : k < m
    · have hd : decide ((k : Int) < (m : Int)) = true := by simp; omega
      obtain ⟨x, hx⟩ : ∃ x, b[k]? = some x := ⟨_, List.getElem?_eq_getElem (by rw [HL2.it]; exact hkn)⟩
      obtain ⟨b1, o1, hA, hS1, hl1, f0, f1⟩ := (H2.it.below HB.it).get hx
      cases hA
      have HU := Kp.mk (unionP_succ a b hx)
      have HUL : Kp ((unionP a (b.take (k + 1))).length ≤ n + (k + 1)) := ⟨by rw [← HL1.it]; exact unionP_len a b (k + 1) (by rw [HL2.it]; omega)⟩
      clear hx
      go_upto_region 5 with fail
      refine wp_on (fun wz => wz.heap[wr.heap.size]? = some (.cells #[.string x.1, .string x.2] 43 (0, 0)) ∧ Below wr.heap.size wr wz) (pr_new wr x) (fun w4 h4 => ?_)
      obtain ⟨h4, hb4⟩ := h4
      have g0 : w4.cell? ⟨wr.heap.size, 0, none⟩ = some (.string x.1) := blk_cell h4 rfl
      have g1 : w4.cell? ⟨wr.heap.size, 1, none⟩ = some (.string x.2) := blk_cell h4 rfl
      have hlt4 := (Array.getElem?_eq_some_iff.1 h4).1
      have HB4 := Kp.mk (HB.it.trans (hb4.mono HB.it.size))
      have R4 := Kp.mk (HR.it.below hb4)
      clear h4 hb4 f0 f1 HR HB
      go_wp2_with fail
      go_at_call 52
      refine (with_any A3 k3 c3 _ x w4 _ R4.it (by omega)).mono ?_
      rintro e w6 ⟨v6, rfl, ho6, hb6⟩
      rw [← HU.it] at ho6
      obtain ⟨q, hq⟩ : ∃ q, q = (unionP a (b.take (k + 1))).length := ⟨_, rfl⟩
      have hqk : q ≤ n + (k + 1) := by rw [hq]; exact HUL.it
      obtain ⟨A6, c6, rfl, _, _, hr6⟩ := ho6.form (by omega)
      rw [← hq] at hr6 ⊢
      have R6 := Kp.mk (hr6.relax (S' := fun _ => True) (fun _ _ _ => trivial))
      have B6 := Kp.mk (HB4.it.trans (hb6.mono HB4.it.size))
      clear ho6 hb6 hq g0 g1 hlt4 hr6
      go_wp2
      go_roundw
      case rel => exact ⟨k + 1, A6, q, c6, by omega, by go_num, rfl, by omega, R6, B6⟩
      case measure => simp [intOf]; omega
    · obtain rfl : k = m := by omega
      have hd : decide ((k : Int) < (k : Int)) = false := by simp
      rw [List.take_of_length_le (by rw [HL2.it]; omega)] at HR
      go_wp2
      go_ret
      exact ⟨_, _, _, rfl, HR.it, by omega, HB.it⟩
/-- What two lists have unlike for a key. -/
def evD (a b : List Pr) (x : Pr) : Ev := ⟨0, x.1, gh a x, gv a x, gh b x, gv b x⟩
def neD (a b : List Pr) (x : Pr) : Bool := (gh a x != gh b x) || !((gv a x).toList == (gv b x).toList)
def diffE (a b : List Pr) : List Ev := ((unionP a b).filter (neD a b)).map (evD a b)
def diffT (a b l : List Pr) : List Ev := (l.filter (neD a b)).map (evD a b)
theorem diffT_succ (a b l : List Pr) {k : Nat} {x : Pr} (hx : l[k]? = some x) : diffT a b (l.take (k + 1)) = if neD a b x = true then diffT a b (l.take k) ++ [evD a b x] else diffT a b (l.take k) := by
  obtain ⟨hk, rfl⟩ := List.getElem?_eq_some_iff.1 hx
  unfold diffT
  rw [List.take_succ_eq_append_getElem hk, List.filter_append]
  by_cases h : neD a b l[k] = true
  · rw [if_pos h]; simp [h]
  · rw [if_neg h]; simp [h]
set_option maxRecDepth 100000 in
set_option maxHeartbeats 8000000 in
theorem rdiff_any (A B : Option Addr) (n c m d : Nat) (a b : List Pr) (w : World) (S T : Nat → Prop) (h1 : RP w S A n a) (h2 : RP w T B m b) (hnm : n + m ≤ 900) :
    Calls Try.prog 38 #[.slice A n c, .slice B m d] w fun e w' => ∃ A3 n3 c3, e = .returned (.slice A3 n3 c3) ∧ OwnE w' w.heap.size (.slice A3 n3 c3) (diffE a b) ∧ n3 ≤ 900 ∧ Below w.heap.size w w' := by
  have HU := Kp.mk (union_any A B n c m d a b w S T h1 h2 hnm)
  have H1 := Kp.mk h1
  have H2 := Kp.mk h2
  clear h1 h2
  go_enter Try.func38, Try.ntmps38
  go_wp2_with fail
  go_at_call 66
  refine HU.it.mono ?_
  rintro e w1 ⟨A1, n1, c1, rfl, hr1, hn1, hb1⟩
  have R1 := Kp.mk hr1
  have B1 := Kp.mk hb1
  have HL1 := Kp.mk hr1.len
  clear hr1 hb1 HU
  obtain ⟨L, hL⟩ : ∃ L, L = unionP a b := ⟨_, rfl⟩
  rw [← hL] at R1 HL1
  have HLE : Kp (diffE a b = diffT a b L) := ⟨by rw [hL]; rfl⟩
  clear hL
  go_wp2
  go_loopw [5, 16] (fun o i wr => ∃ (k : Nat) (A3 : Option Addr) (k3 c3 : Nat), k ≤ n1 ∧ i = .int .i64 k ∧ o = .slice A3 k3 c3 ∧ k3 ≤ k ∧ Kp ((diffT a b (L.take k)).length = k3) ∧ Kp (OwnE wr w1.heap.size (.slice A3 k3 c3) (diffT a b (L.take k))) ∧ Kp (Below w.heap.size w wr) ∧ Kp (Below w1.heap.size w1 wr)) (fun _ i _ => n1 - (intOf i).toNat)
  case atStart => exact ⟨0, none, 0, 0, by omega, rfl, rfl, by omega, ⟨by simp [diffT]⟩, ⟨by simpa [diffT] using OwnE.nil w1 w1.heap.size⟩, B1, ⟨Below.refl _ _⟩⟩
  case round =>
    obtain ⟨k, A3, k3, c3, hk, rfl, rfl, hk3, HP, HO, HB, HC⟩ := hrel
    by_cases hkn : k < n1
    · have hd : decide ((k : Int) < (n1 : Int)) = true := by simp; omega
      obtain ⟨x, hx⟩ : ∃ x, L[k]? = some x := ⟨_, List.getElem?_eq_getElem (by rw [HL1.it]; exact hkn)⟩
      obtain ⟨b1, o1, hA, hS1, hl1, f0, f1⟩ := (R1.it.below HC.it).get hx
      cases hA
      have HUS := Kp.mk (diffT_succ a b L hx)
      clear hx
      go_upto_region 5 with fail
      refine wp_on (fun wz => wz.heap[wr.heap.size]? = some (.cells #[.string x.1, .string x.2] 43 (0, 0)) ∧ Below wr.heap.size wr wz) (pr_new wr x) (fun w4 h4 => ?_)
      obtain ⟨h4, hb4⟩ := h4
      have E4 := Kp.mk h4
      have B4 := Kp.mk (HB.it.trans (hb4.mono HB.it.size))
      have C4 := Kp.mk (HC.it.trans (hb4.mono HC.it.size))
      have O4 := Kp.mk (HO.it.below hb4)
      obtain ⟨X, hX⟩ : ∃ X, X = wr.heap.size := ⟨_, rfl⟩
      rw [← hX] at E4 ⊢
      clear h4 hb4 f0 f1 HO HB HC hX
      have g0 : w4.cell? ⟨X, 0, none⟩ = some (.string x.1) := blk_cell E4.it rfl
      have hlt4 := (Array.getElem?_eq_some_iff.1 E4.it).1
      have hn9 : n ≤ 1000 := by omega
      have hm9 : m ≤ 1000 := by omega
      go_wp2_with fail
      go_at_call 67
      refine (get_any A n c a x w4 _ (H1.it.below B4.it) hn9).mono ?_
      rintro e w5 ⟨rfl, hb5⟩
      have D5 := Kp.mk hb5
      have E5 : Kp (w5.heap[X]? = some (.cells #[.string x.1, .string x.2] 43 (0, 0))) := ⟨(hb5.block _ hlt4).trans E4.it⟩
      clear hb5 g0 hlt4
      have g0 : w5.cell? ⟨X, 0, none⟩ = some (.string x.1) := blk_cell E5.it rfl
      have hlt5 := (Array.getElem?_eq_some_iff.1 E5.it).1
      obtain ⟨va, hva⟩ : ∃ v, v = gv a x := ⟨_, rfl⟩
      obtain ⟨ha, hha⟩ : ∃ v, v = gh a x := ⟨_, rfl⟩
      rw [← hva, ← hha]
      have HVA := Kp.mk hva
      have HHA := Kp.mk hha
      clear hva hha
      go_wp2_with fail
      go_at_call 67
      refine (get_any B m d b x w5 _ ((H2.it.below B4.it).below D5.it) hm9).mono ?_
      rintro e w7 ⟨rfl, hb7⟩
      have D7 := Kp.mk (D5.it.trans (hb7.mono D5.it.size))
      have E7 : Kp (w7.heap[X]? = some (.cells #[.string x.1, .string x.2] 43 (0, 0))) := ⟨(hb7.block _ hlt5).trans E5.it⟩
      clear hb7 g0 hlt5
      have g0 : w7.cell? ⟨X, 0, none⟩ = some (.string x.1) := blk_cell E7.it rfl
      have hlt7 := (Array.getElem?_eq_some_iff.1 E7.it).1
      obtain ⟨vb, hvb⟩ : ∃ v, v = gv b x := ⟨_, rfl⟩
      obtain ⟨hb, hhb⟩ : ∃ v, v = gh b x := ⟨_, rfl⟩
      rw [← hvb, ← hhb]
      have B7 := Kp.mk (B4.it.trans (D7.it.mono B4.it.size))
      have C7 := Kp.mk (C4.it.trans (D7.it.mono C4.it.size))
      have O7 := Kp.mk (O4.it.below D7.it)
      have Z7 := Kp.mk B7.it.size
      have ZB : Kp (w1.heap.size ≤ w7.heap.size) := ⟨C7.it.size⟩
      have HB0 : Kp (w.heap.size ≤ w1.heap.size) := ⟨B1.it.size⟩
      have HC0 : Kp (w1.heap.size ≤ w1.heap.size) := ⟨Nat.le_refl _⟩
      have HNE : Kp (neD a b x = ((ha != hb) || !(va.toList == vb.toList))) := ⟨by rw [HVA.it, hvb, HHA.it, hhb]; rfl⟩
      have HEV : Kp (evD a b x = ⟨0, x.1, ha, va, hb, vb⟩) := ⟨by rw [HVA.it, hvb, HHA.it, hhb]; rfl⟩
      have HN : Kp ((diffT a b (L.take k)).length + 1 ≤ 5000) := ⟨by rw [HP.it]; omega⟩
      clear hvb hhb HVA HHA
      cases ha with
      | true =>
        cases hb with
        | true =>
          cases q2 : (va.toList == vb.toList) with
          | true =>
            have HE : Kp (diffT a b (L.take (k + 1)) = diffT a b (L.take k)) := ⟨by rw [HUS.it, HNE.it, q2]; rfl⟩
            go_wp2
            go_roundw
            case rel => exact ⟨k + 1, A3, k3, c3, by omega, by go_num, rfl, by omega, ⟨by rw [HE.it, HP.it]⟩, ⟨by rw [HE.it]; exact O7.it⟩, B7, C7⟩
            case measure => simp [intOf]; omega
          | false =>
            have HE : Kp (diffT a b (L.take (k + 1)) = diffT a b (L.take k) ++ [⟨0, x.1, true, va, true, vb⟩]) := ⟨by rw [HUS.it, HNE.it, q2, HEV.it]; rfl⟩
            have HLN : Kp ((diffT a b (L.take k) ++ [(⟨0, x.1, true, va, true, vb⟩ : Ev)]).length = k3 + 1) := ⟨by rw [List.length_append, HP.it]; rfl⟩
            go_wp2_with (refine app_e1 rfl (.tmp 42) (.tmp 50) rfl w1.heap.size (.slice A3 k3 c3) _ ⟨0, x.1, true, va, true, vb⟩ rfl rfl O7.it ZB.it HN.it ?_; intro v6 w6 ho6 hg6; obtain ⟨A6, c6, hv6, _⟩ := ho6.form (by rw [HLN.it]; omega); rw [HLN.it] at hv6; subst hv6; have O6 := Kp.mk ho6; have B6 := Kp.mk (below_ownE B7.it Z7.it O7.it HB0.it hg6); have C6 := Kp.mk (below_ownE C7.it C7.it.size O7.it HC0.it hg6); clear ho6 hg6)
            go_roundw
            case rel => exact ⟨k + 1, A6, k3 + 1, c6, by omega, by go_num, rfl, by omega, ⟨by rw [HE.it, HLN.it]⟩, ⟨by rw [HE.it]; exact O6.it⟩, B6, C6⟩
            case measure => simp [intOf]; omega
        | false =>
          have HE : Kp (diffT a b (L.take (k + 1)) = diffT a b (L.take k) ++ [⟨0, x.1, true, va, false, vb⟩]) := ⟨by rw [HUS.it, HNE.it, HEV.it]; rfl⟩
          have HLN : Kp ((diffT a b (L.take k) ++ [(⟨0, x.1, true, va, false, vb⟩ : Ev)]).length = k3 + 1) := ⟨by rw [List.length_append, HP.it]; rfl⟩
          go_wp2_with (refine app_e1 rfl (.tmp 42) (.tmp 50) rfl w1.heap.size (.slice A3 k3 c3) _ ⟨0, x.1, true, va, false, vb⟩ rfl rfl O7.it ZB.it HN.it ?_; intro v6 w6 ho6 hg6; obtain ⟨A6, c6, hv6, _⟩ := ho6.form (by rw [HLN.it]; omega); rw [HLN.it] at hv6; subst hv6; have O6 := Kp.mk ho6; have B6 := Kp.mk (below_ownE B7.it Z7.it O7.it HB0.it hg6); have C6 := Kp.mk (below_ownE C7.it C7.it.size O7.it HC0.it hg6); clear ho6 hg6)
          go_roundw
          case rel => exact ⟨k + 1, A6, k3 + 1, c6, by omega, by go_num, rfl, by omega, ⟨by rw [HE.it, HLN.it]⟩, ⟨by rw [HE.it]; exact O6.it⟩, B6, C6⟩
          case measure => simp [intOf]; omega
      | false =>
        cases hb with
        | true =>
          have HE : Kp (diffT a b (L.take (k + 1)) = diffT a b (L.take k) ++ [⟨0, x.1, false, va, true, vb⟩]) := ⟨by rw [HUS.it, HNE.it, HEV.it]; rfl⟩
          have HLN : Kp ((diffT a b (L.take k) ++ [(⟨0, x.1, false, va, true, vb⟩ : Ev)]).length = k3 + 1) := ⟨by rw [List.length_append, HP.it]; rfl⟩
          go_wp2_with (refine app_e1 rfl (.tmp 42) (.tmp 50) rfl w1.heap.size (.slice A3 k3 c3) _ ⟨0, x.1, false, va, true, vb⟩ rfl rfl O7.it ZB.it HN.it ?_; intro v6 w6 ho6 hg6; obtain ⟨A6, c6, hv6, _⟩ := ho6.form (by rw [HLN.it]; omega); rw [HLN.it] at hv6; subst hv6; have O6 := Kp.mk ho6; have B6 := Kp.mk (below_ownE B7.it Z7.it O7.it HB0.it hg6); have C6 := Kp.mk (below_ownE C7.it C7.it.size O7.it HC0.it hg6); clear ho6 hg6)
          go_roundw
          case rel => exact ⟨k + 1, A6, k3 + 1, c6, by omega, by go_num, rfl, by omega, ⟨by rw [HE.it, HLN.it]⟩, ⟨by rw [HE.it]; exact O6.it⟩, B6, C6⟩
          case measure => simp [intOf]; omega
        | false =>
          cases q2 : (va.toList == vb.toList) with
          | true =>
            have HE : Kp (diffT a b (L.take (k + 1)) = diffT a b (L.take k)) := ⟨by rw [HUS.it, HNE.it, q2]; rfl⟩
            go_wp2
            go_roundw
            case rel => exact ⟨k + 1, A3, k3, c3, by omega, by go_num, rfl, by omega, ⟨by rw [HE.it, HP.it]⟩, ⟨by rw [HE.it]; exact O7.it⟩, B7, C7⟩
            case measure => simp [intOf]; omega
          | false =>
            have HE : Kp (diffT a b (L.take (k + 1)) = diffT a b (L.take k) ++ [⟨0, x.1, false, va, false, vb⟩]) := ⟨by rw [HUS.it, HNE.it, q2, HEV.it]; rfl⟩
            have HLN : Kp ((diffT a b (L.take k) ++ [(⟨0, x.1, false, va, false, vb⟩ : Ev)]).length = k3 + 1) := ⟨by rw [List.length_append, HP.it]; rfl⟩
            go_wp2_with (refine app_e1 rfl (.tmp 42) (.tmp 50) rfl w1.heap.size (.slice A3 k3 c3) _ ⟨0, x.1, false, va, false, vb⟩ rfl rfl O7.it ZB.it HN.it ?_; intro v6 w6 ho6 hg6; obtain ⟨A6, c6, hv6, _⟩ := ho6.form (by rw [HLN.it]; omega); rw [HLN.it] at hv6; subst hv6; have O6 := Kp.mk ho6; have B6 := Kp.mk (below_ownE B7.it Z7.it O7.it HB0.it hg6); have C6 := Kp.mk (below_ownE C7.it C7.it.size O7.it HC0.it hg6); clear ho6 hg6)
            go_roundw
            case rel => exact ⟨k + 1, A6, k3 + 1, c6, by omega, by go_num, rfl, by omega, ⟨by rw [HE.it, HLN.it]⟩, ⟨by rw [HE.it]; exact O6.it⟩, B6, C6⟩
            case measure => simp [intOf]; omega
    · obtain rfl : k = n1 := by omega
      have hd : decide ((k : Int) < (k : Int)) = false := by simp
      have HE : Kp (diffT a b (L.take k) = diffE a b) := ⟨by rw [HLE.it, List.take_of_length_le (by rw [HL1.it]; omega)]⟩
      rw [HE.it] at HO
      go_wp2
      go_ret
      exact ⟨_, _, _, rfl, HO.it.relax B1.it.size, by omega, HB.it⟩
end Go.Proofs.Ytcmkjoepndbicaa
