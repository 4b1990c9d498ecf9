/-
  The program's order.
-/
import Derived.Test.YtnkgagbobihnnaaOrs
import Derived.Test.YtnkgagbobihnnaaReg2
import Derived.Laws.EntriesVeiled
namespace Go.Proofs.Ytnkgagbobihnnaa
open Go Go.RowKit
attribute [local go_sem ↓] Go.wp_at_zero Go.wp_at_succ

theorem blk4 (w : World) (a b c d : Obj) : ((((w.alloc a).alloc b).alloc c).alloc d).heap[w.heap.size]? = some a ∧ ((((w.alloc a).alloc b).alloc c).alloc d).heap[w.heap.size + 1]? = some b ∧
    ((((w.alloc a).alloc b).alloc c).alloc d).heap[w.heap.size + 1 + 1]? = some c ∧ ((((w.alloc a).alloc b).alloc c).alloc d).heap[w.heap.size + 1 + 1 + 1]? = some d := by
  have h1 := blk_new (((w.alloc a).alloc b).alloc c) d
  have h2 := blk_new ((w.alloc a).alloc b) c
  simp only [World.size_alloc] at h1 h2
  exact ⟨blk_old _ (blk_old _ (blk_old _ (blk_new _ _))), blk_old _ (blk_old _ (blk_new1 _ _ _)), blk_old _ h2, h1⟩
theorem below4 (w : World) (a b c d : Obj) : Below w.heap.size w ((((w.alloc a).alloc b).alloc c).alloc d).drew :=
  below_drew (((((Below.refl _ _).alloc (Nat.le_refl _) _).alloc (by simp) _).alloc (by simp; omega) _).alloc (by simp; omega) _)
/-- The boxes, the turns, the ranks. -/
structure OB1 (w0 : World) (P R ab rb n : Nat) (W : World) (l rk : List Int) : Prop where
  hN : W.heap[P]? = some (.cells #[.int .i64 (n : Int)] 3 (0, 0))
  hR : W.heap[R]? = some (.cells #[.slice (some ⟨rb, 0, none⟩) n n] 22 (0, 0))
  ha : Blk W ab l
  hr : Blk W rb rk
  ll : l.length = n
  rl : rk.length = n
  bel : Below w0.heap.size w0 W
  lo : w0.heap.size ≤ P ∧ w0.heap.size ≤ R ∧ w0.heap.size ≤ ab ∧ w0.heap.size ≤ rb
  ne : P ≠ R ∧ P ≠ ab ∧ P ≠ rb ∧ R ≠ ab ∧ R ≠ rb ∧ ab ≠ rb
theorem OB1.seta {w0 : World} {P R ab rb n : Nat} {W : World} {l rk : List Int} (h : OB1 w0 P R ab rb n W l rk) (i : Nat) (v : Int) : OB1 w0 P R ab rb n (W.setCell ⟨ab, i, none⟩ (.int .i64 v)) (l.set i v) rk := by
  obtain ⟨n1, n2, n3, n4, n5, n6⟩ := h.ne
  exact ⟨by rw [other_block _ _ _ (by exact n2)]; exact h.hN, by rw [other_block _ _ _ (by exact n4)]; exact h.hR, h.ha.store i v, by unfold Blk; rw [other_block _ _ _ (by exact fun e => n6 e.symm)]; exact h.hr, by rw [List.length_set]; exact h.ll, h.rl, h.bel.setCell h.lo.2.2.1 _, h.lo, h.ne⟩
theorem OB1.setr {w0 : World} {P R ab rb n : Nat} {W : World} {l rk : List Int} (h : OB1 w0 P R ab rb n W l rk) (i : Nat) (v : Int) : OB1 w0 P R ab rb n (W.setCell ⟨rb, i, none⟩ (.int .i64 v)) l (rk.set i v) := by
  obtain ⟨n1, n2, n3, n4, n5, n6⟩ := h.ne
  exact ⟨by rw [other_block _ _ _ (by exact n3)]; exact h.hN, by rw [other_block _ _ _ (by exact n5)]; exact h.hR, by unfold Blk; rw [other_block _ _ _ (by exact n6)]; exact h.ha, h.hr.store i v, h.ll, by rw [List.length_set]; exact h.rl, h.bel.setCell h.lo.2.2.2 _, h.lo, h.ne⟩
theorem OB1.drew {w0 : World} {P R ab rb n : Nat} {W : World} {l rk : List Int} (h : OB1 w0 P R ab rb n W l rk) : OB1 w0 P R ab rb n W.drew l rk := ⟨h.hN, h.hR, h.ha, h.hr, h.ll, h.rl, below_drew h.bel, h.lo, h.ne⟩
/-- The same with k's box; the turns as numbers. -/
structure OB2 (w0 : World) (P R ab rb Kb n k : Nat) (W : World) (l : List Nat) (rk : List Int) : Prop where
  hN : W.heap[P]? = some (.cells #[.int .i64 (n : Int)] 3 (0, 0))
  hR : W.heap[R]? = some (.cells #[.slice (some ⟨rb, 0, none⟩) n n] 22 (0, 0))
  hK : W.heap[Kb]? = some (.cells #[.int .i64 (k : Int)] 3 (0, 0))
  ha : Blk W ab (ints l)
  hr : Blk W rb rk
  ll : l.length = n
  rl : rk.length = n
  bel : Below w0.heap.size w0 W
  loA : w0.heap.size ≤ ab
  loR : w0.heap.size ≤ R
  neA : ab ≠ P ∧ ab ≠ R ∧ ab ≠ Kb ∧ ab ≠ rb
  neR : R ≠ P ∧ R ≠ Kb ∧ R ≠ rb
theorem lt_of_obj {W : World} {i : Nat} {o : Obj} (h : W.heap[i]? = some o) : i < W.heap.size := (Array.getElem?_eq_some_iff.1 h).1
theorem OB2.below {w0 : World} {P R ab rb Kb n k : Nat} {W W' : World} {l : List Nat} {rk : List Int} (h : OB2 w0 P R ab rb Kb n k W l rk) (hb : Below W.heap.size W W') : OB2 w0 P R ab rb Kb n k W' l rk :=
  ⟨(hb.block _ (lt_of_obj h.hN)).trans h.hN, (hb.block _ (lt_of_obj h.hR)).trans h.hR, (hb.block _ (lt_of_obj h.hK)).trans h.hK, (hb.block _ h.ha.lt).trans h.ha, (hb.block _ h.hr.lt).trans h.hr, h.ll, h.rl, h.bel.trans (hb.mono h.bel.size), h.loA, h.loR, h.neA, h.neR⟩
theorem OB2.other {w0 : World} {P R ab rb Kb n k : Nat} {W : World} {l : List Nat} {rk : List Int} (h : OB2 w0 P R ab rb Kb n k W l rk) {g : Nat} (hg : g ≠ P ∧ g ≠ R ∧ g ≠ Kb ∧ g ≠ ab ∧ g ≠ rb) (h0 : w0.heap.size ≤ g) (o : Nat) (v : Value) : OB2 w0 P R ab rb Kb n k (W.setCell ⟨g, o, none⟩ v) l rk := by
  obtain ⟨g1, g2, g3, g4, g5⟩ := hg
  exact ⟨by rw [other_block _ _ _ (by exact fun e => g1 e.symm)]; exact h.hN, by rw [other_block _ _ _ (by exact fun e => g2 e.symm)]; exact h.hR, by rw [other_block _ _ _ (by exact fun e => g3 e.symm)]; exact h.hK, by unfold Blk; rw [other_block _ _ _ (by exact fun e => g4 e.symm)]; exact h.ha, by unfold Blk; rw [other_block _ _ _ (by exact fun e => g5 e.symm)]; exact h.hr, h.ll, h.rl, h.bel.setCell h0 _, h.loA, h.loR, h.neA, h.neR⟩
theorem OB2.drewN {w0 : World} {P R ab rb Kb n k : Nat} {W : World} {l : List Nat} {rk : List Int} (h : OB2 w0 P R ab rb Kb n k W l rk) (q : Nat) : OB2 w0 P R ab rb Kb n k (W.drewN q) l rk := h.below (below_drewN (Below.refl _ _) q)
theorem OB2.sorted {w0 : World} {P R ab rb Kb n k : Nat} {W W' : World} {l l' : List Nat} {rk : List Int} (h : OB2 w0 P R ab rb Kb n k W l rk) (hg : W.grownBy W' (some ab)) (ha : Blk W' ab (ints l')) (hl : l'.length = n) : OB2 w0 P R ab rb Kb n k W' l' rk := by
  obtain ⟨n1, n2, n3, n4⟩ := h.neA
  exact ⟨(hg.block _ (lt_of_obj h.hN) (by intro e; injection e with e; exact n1 e.symm)).trans h.hN, (hg.block _ (lt_of_obj h.hR) (by intro e; injection e with e; exact n2 e.symm)).trans h.hR, (hg.block _ (lt_of_obj h.hK) (by intro e; injection e with e; exact n3 e.symm)).trans h.hK, ha, (hg.block _ h.hr.lt (by intro e; injection e with e; exact n4 e.symm)).trans h.hr, hl, h.rl, h.bel.grown hg h.bel.size (fun q hq => by cases hq; exact h.loA), h.loA, h.loR, h.neA, h.neR⟩
theorem OB2.om {w0 : World} {P R ab rb Kb n k : Nat} {W : World} {l : List Nat} {rk : List Int} (h : OB2 w0 P R ab rb Kb n k W l rk) {S : Nat} (hS : W.heap[S]? = some (.cells #[.func (.func 89) #[] #[.pointer (some ⟨R, 0, none⟩), .pointer (some ⟨Kb, 0, none⟩), .pointer (some ⟨P, 0, none⟩)]] 86 (0, 0))) : OM W P R Kb S rb n k rk :=
  ⟨h.hN, h.hR, h.hK, hS, h.hr, h.rl⟩
theorem K2_eq {rk : List Int} {b : List UInt8} {k : Nat} (h : RKI rk b k) {x y : Nat} (hx : x < b.length) (hy : y < b.length) : K b (k + k) x = K b (k + k) y ↔ rd rk x = rd rk y ∧ sv rk b.length k x = sv rk b.length k y := by
  have hp : 0 < b.length := by omega
  have h1 := h x y hx hy
  have h2 := h y x hy hx
  have h3 := h ((x + k) % b.length) ((y + k) % b.length) (Nat.mod_lt _ hp) (Nat.mod_lt _ hp)
  have h4 := h ((y + k) % b.length) ((x + k) % b.length) (Nat.mod_lt _ hp) (Nat.mod_lt _ hp)
  rw [K_mod, K_mod] at h3 h4
  have h5 := K_lex b k k x y
  have h6 := K_lex b k k y x
  unfold sv
  omega
theorem rki_next {xs : List Int} {b : List UInt8} {m : Nat} {l : List Nat} (ht : IsT b m l) (hx : ∀ t, t < l.length → rd xs (l.getD t 0) = (cls b m l t : Nat)) : RKI xs b m := by
  intro i j hi hj
  have hpos : ∀ i, i < b.length → ∃ p, p < l.length ∧ l.getD p 0 = i := fun i hi => by
    obtain ⟨p, hp, e⟩ := List.getElem_of_mem (ht.perm.mem_iff.2 (List.mem_range.2 hi))
    exact ⟨p, hp, by rw [getD_of hp]; exact e⟩
  obtain ⟨p, hp, rfl⟩ := hpos i hi
  obtain ⟨q, hq, rfl⟩ := hpos j hj
  rw [hx p hp, hx q hq]
  rcases Nat.lt_or_ge q p with h | h
  · have h1 := cls_K ht p q (by omega) hp
    have h2 := ht.le h hp
    omega
  · have h1 := cls_K ht q p h hq
    omega
theorem rki_one {bs : List UInt8} {n : Nat} (h : bs.length = n) : RKI (tab n fun j => (bs.getD j 0).toNat) bs 1 := by
  intro i j hi hj
  rw [h] at hi hj
  rw [tab_rd _ hi, tab_rd _ hj]
  have e : ∀ x, x < n → K bs 1 x = (bs.getD x 0).toNat := fun x hx => by
    show 0 * 256 + bv bs (x + 0) = _
    unfold bv
    rw [Nat.add_zero, h, Nat.mod_eq_of_lt hx]
    omega
  rw [e i hi, e j hj]
  omega
theorem ints_range (n : Nat) : ints (List.range n) = tab n fun j => j := rfl
theorem rd_zero (n j : Nat) : rd (List.replicate n 0) j = 0 := by
  unfold rd
  rw [List.getD_eq_getElem?_getD, List.getElem?_replicate]
  split <;> rfl
theorem rd_set_ne {l : List Int} {k j : Nat} {v : Int} (h : k ≠ j) : rd (l.set k v) j = rd l j := by
  unfold rd
  rw [List.getD_eq_getElem?_getD, List.getD_eq_getElem?_getD, List.getElem?_set, if_neg h]
/-- The ranks are new. -/
theorem OB2.rank {w0 : World} {P R ab rb Kb n k : Nat} {W : World} {l : List Nat} {rk : List Int} (h : OB2 w0 P R ab rb Kb n k W l rk) {nb : Nat} {xs : List Int} (hx : Blk W nb xs) (hl : xs.length = n) (hn : nb ≠ R) (hna : nb ≠ ab) :
    OB2 w0 P R ab nb Kb n k (W.setCell ⟨R, 0, none⟩ (.slice (some ⟨nb, 0, none⟩) n n)) l xs := by
  obtain ⟨n1, n2, n3, n4⟩ := h.neA
  obtain ⟨r1, r2, r3⟩ := h.neR
  exact ⟨by rw [other_block _ _ _ (by exact fun e => r1 e.symm)]; exact h.hN, by rw [blk_set _ h.hR]; rfl, by rw [other_block _ _ _ (by exact fun e => r2 e.symm)]; exact h.hK, by unfold Blk; rw [other_block _ _ _ (by exact n2)]; exact h.ha, by unfold Blk; rw [other_block _ _ _ (by exact hn)]; exact hx, h.ll, hl, h.bel.setCell h.loR _, h.loA, h.loR, ⟨n1, n2, n3, fun e => hna e.symm⟩, ⟨r1, r2, fun e => hn e.symm⟩⟩
/-- k's box is new. -/
theorem OB2.next {w0 : World} {P R ab rb Kb n k : Nat} {W : World} {l : List Nat} {rk : List Int} (h : OB2 w0 P R ab rb Kb n k W l rk) (k2 : Nat) : OB2 w0 P R ab rb W.heap.size n k2 (W.alloc (.cells #[.int .i64 (k2 : Int)] 3)) l rk := by
  obtain ⟨n1, n2, n3, n4⟩ := h.neA
  obtain ⟨r1, r2, r3⟩ := h.neR
  have h1 := h.ha.lt
  have h2 := lt_of_obj h.hR
  exact ⟨blk_old _ h.hN, blk_old _ h.hR, blk_new _ _, blk_old _ h.ha, blk_old _ h.hr, h.ll, h.rl, h.bel.alloc h.bel.size _, h.loA, h.loR, ⟨n1, n2, by omega, n4⟩, ⟨r1, by omega, r3⟩⟩
def Rel4 (w : World) (n P R ab : Nat) (bs : List UInt8) (u : Value) (wr : World) : Prop := ∃ (Kb k rb : Nat) (rk : List Int) (l : List Nat), u = .pointer (some ⟨Kb, 0, none⟩) ∧ 1 ≤ k ∧ k ≤ 2000000 ∧ Kp (OB2 w P R ab rb Kb n k wr l rk) ∧ Kp (RKI rk bs k) ∧ Kp (∀ j, j < n → 0 ≤ rd rk j ∧ rd rk j ≤ 1000000000) ∧ Kp (l.Perm (List.range n))
def mea4 (u : Value) (wr : World) : Nat := match u with
  | .pointer (some a) => (match wr.cell? a with
    | some (.int _ x) => 4000000 - x.toNat
    | _ => 0)
  | _ => 0
set_option maxRecDepth 100000 in
set_option maxHeartbeats 8000000 in
theorem order_any (A : Option Addr) (n c : Nat) (bs : List UInt8) (w : World) (h : Rb w A n bs) (hn0 : 0 < n) (hn : n ≤ 1000000) :
    Calls Try.prog 60 #[.slice A n c] w fun e w' => ∃ v, e = .returned v ∧ Own w' w.heap.size v (ints (tl bs)) ∧ Below w.heap.size w w' := by
  have H := Kp.mk h
  have HL := Kp.mk h.len
  have hmk := make_ints n (by omega)
  clear h
  obtain ⟨P, hP⟩ : ∃ P, P = w.heap.size := ⟨_, rfl⟩
  have HP := Kp.mk hP
  go_enter Try.func60, Try.ntmps60
  go_wp2
  rename_i KC hK
  have HK : ∀ (ab rb R : Nat) (W : World), Kp (OB1 w P R ab rb n W (List.replicate n 0) (List.replicate n 0)) → KC { tmps := #[.slice A n c, undef, .slice none 0 0, .pointer (some ⟨P, 0, none⟩), .slice (some ⟨ab, 0, none⟩) n n, .pointer (some ⟨R, 0, none⟩), undef, undef, undef, undef, undef, undef, .slice A n c, .int .i64 n, .int .i64 n, .slice (some ⟨ab, 0, none⟩) n n, .int .i64 n, .slice (some ⟨rb, 0, none⟩) n n, undef, undef, undef, undef, undef, undef, undef, undef, undef, undef, undef, undef, undef, undef, undef, undef, undef, undef, undef, undef, undef, undef, undef, undef, undef, undef, undef, undef, undef, undef, undef, undef, undef, undef, undef, undef, undef, undef, undef, undef, undef, undef, undef, undef, undef, undef, undef, undef, undef, undef, undef, undef, undef, undef, undef, undef, undef, undef, undef, undef, undef, undef, undef, undef, undef, undef, undef, undef, undef, undef, undef, undef, undef, undef, undef, undef, undef, undef, undef, undef, undef, undef, undef, undef, undef, undef, undef, undef, undef, undef, undef, undef, undef, undef, undef, undef, undef, undef, undef, undef, undef, undef, undef, undef, undef], defers := [] } W := by
    clear hP
    intro ab rb R W hO
    refine hK _ _ ?_
    clear hK
    have hcN := blk_cell (o := 0) hO.it.hN rfl
    have HNE := Kp.mk hO.it.ne
    go_wp2
    clear hcN
    have HO0 : Kp (OB1 w P R ab rb n W (tab n fun j => if j < 0 then j else 0) (tab n fun j => if j < 0 then (bs.getD j 0).toNat else 0)) := ⟨by rw [tab_zero n _ (fun y => if_neg (by omega)), tab_zero n _ (fun y => if_neg (by omega))]; exact hO.it⟩
    clear hO
    go_loopw [19] (fun i wr => ∃ k : Nat, k ≤ n ∧ i = .int .i64 k ∧ Kp (OB1 w P R ab rb n wr (tab n fun j => if j < k then j else 0) (tab n fun j => if j < k then (bs.getD j 0).toNat else 0))) (fun i _ => n - (intOf i).toNat)
    case atStart => exact ⟨0, by omega, rfl, HO0⟩
    case round =>
      clear HO0
      obtain ⟨k, hk, rfl, HO⟩ := hrel
      by_cases hkn : k < n
      · have hd : decide ((k : Int) < (n : Int)) = true := by simp; omega
        obtain ⟨b, o, hA, hlt, hc0⟩ := H.it.cells (by omega)
        have hcell := (HO.it.bel.cell (p := ⟨b, o + k, none⟩) hlt).trans (hc0 k hkn)
        cases hA
        clear hc0 hlt
        have hbx : byte bs k = (((bs.getD k 0).toNat : Nat) : Int) := rfl
        rw [hbx] at hcell
        have hX : (bs.getD k 0).toNat < 256 := UInt8.toNat_lt _
        have hca := HO.it.ha.cell (j := k) (by rw [tab_len]; exact hkn)
        have hcr := HO.it.hr.cell (j := k) (by rw [tab_len]; exact hkn)
        have hfa := HO.it.ha.free k
        have hfr := HO.it.hr.free k
        have hcR := blk_cell (o := 0) HO.it.hR rfl
        have HO2 : Kp (OB1 w P R ab rb n ((wr.setCell ⟨ab, k, none⟩ (.int .i64 (k : Int))).setCell ⟨rb, k, none⟩ (.int .i64 ((bs.getD k 0).toNat : Int))).drew (tab n fun j => if j < k + 1 then j else 0) (tab n fun j => if j < k + 1 then (bs.getD j 0).toNat else 0)) := ⟨by
          have h9 := ((HO.it.seta k (k : Int)).setr k ((bs.getD k 0).toNat : Int)).drew
          rw [tab_set _ (fun j => if j < k + 1 then j else 0) k k (by rw [if_pos (by omega)]) (fun y hy => by
            by_cases h0 : y < k
            · rw [if_pos h0, if_pos (by omega)]
            · rw [if_neg h0, if_neg (by omega)]), tab_set _ (fun j => if j < k + 1 then (bs.getD j 0).toNat else 0) k (bs.getD k 0).toNat (by rw [if_pos (by omega)]) (fun y hy => by
            by_cases h0 : y < k
            · rw [if_pos h0, if_pos (by omega)]
            · rw [if_neg h0, if_neg (by omega)])] at h9
          exact h9⟩
        generalize rd (tab n fun j => if j < k then j else 0) k = old1 at hca
        generalize rd (tab n fun j => if j < k then (bs.getD j 0).toNat else 0) k = old2 at hcr
        obtain ⟨X, hXe⟩ : ∃ X, X = (bs.getD k 0).toNat := ⟨_, rfl⟩
        rw [← hXe] at hcell hX HO2
        have hwx : wrap64 (X : Int) = (X : Int) := by unfold wrap64; omega
        obtain ⟨n1, n2, n3, n4, n5, n6⟩ := HNE.it
        clear hXe hbx HO
        go_wp2
        go_region
        all_goals
          go_wp2
          go_roundw
          case rel => exact ⟨k + 1, by omega, by go_num, HO2⟩
          case measure => simp [intOf]; omega
      obtain rfl : n = k := by omega
      have hd : decide ((n : Int) < (n : Int)) = false := by simp
      have HS0 : Kp (Rel4 w n P R ab bs (.pointer (some ⟨wr.heap.size, 0, none⟩)) (wr.alloc (.cells #[.int .i64 1] 3))) := ⟨by
        have e1 : (tab n fun j => if j < n then j else 0) = ints (List.range n) := by
          rw [ints_range]; unfold tab; exact List.map_congr_left (fun y hy => by have h9 := List.mem_range.1 hy; simp [h9])
        have e2 : (tab n fun j => if j < n then (bs.getD j 0).toNat else 0) = tab n fun j => (bs.getD j 0).toNat := by
          unfold tab; exact List.map_congr_left (fun y hy => by have h9 := List.mem_range.1 hy; simp [h9])
        have h9 := HO.it
        rw [e1, e2] at h9
        obtain ⟨n1, n2, n3, n4, n5, n6⟩ := h9.ne
        have hlt := h9.ha.lt
        have hltR := lt_of_obj h9.hR
        have hltP := lt_of_obj h9.hN
        have hltr := h9.hr.lt
        refine ⟨_, 1, rb, _, List.range n, rfl, Nat.le_refl _, by omega, ⟨⟨blk_old _ h9.hN, blk_old _ h9.hR, blk_new _ _, blk_old _ h9.ha, blk_old _ h9.hr, List.length_range, h9.rl, h9.bel.alloc h9.bel.size _, h9.lo.2.2.1, h9.lo.2.1, ⟨fun e => n2 e.symm, fun e => n4 e.symm, by omega, n6⟩, ⟨fun e => n1 e.symm, by omega, n5⟩⟩⟩, ⟨rki_one HL.it⟩, ⟨fun j hj => ?_⟩, ⟨.refl _⟩⟩
        rw [tab_rd _ hj]
        have := (bs.getD j 0).toNat_lt
        omega⟩
      clear HO HNE
      go_wp2
      go_loopw [7] (fun u wr => Rel4 w n P R ab bs u wr) (fun u wr => mea4 u wr)
      case atStart => exact HS0.it
      case round =>
        clear HS0
        obtain ⟨Kb, k, rb, rk, l, rfl, hk1, hk2, HO, HRK, HRB, HPM⟩ := hrel
        obtain ⟨m, hm⟩ : ∃ m, n = m + 1 := ⟨n - 1, by omega⟩
        have HM := Kp.mk hm
        clear hm
        obtain ⟨S, hS⟩ : ∃ S, S = wr.heap.size := ⟨_, rfl⟩
        have HO1 : Kp (OB2 w P R ab rb Kb n k (wr.alloc (.cells #[.func (.func 89) #[] #[.pointer (some ⟨R, 0, none⟩), .pointer (some ⟨Kb, 0, none⟩), .pointer (some ⟨P, 0, none⟩)]] 86)) l rk) := ⟨HO.it.below ((Below.refl _ _).alloc (Nat.le_refl _) _)⟩
        have HS1 : Kp ((wr.alloc (.cells #[.func (.func 89) #[] #[.pointer (some ⟨R, 0, none⟩), .pointer (some ⟨Kb, 0, none⟩), .pointer (some ⟨P, 0, none⟩)]] 86)).heap[S]? = some (.cells #[.func (.func 89) #[] #[.pointer (some ⟨R, 0, none⟩), .pointer (some ⟨Kb, 0, none⟩), .pointer (some ⟨P, 0, none⟩)]] 86 (0, 0))) := ⟨by rw [hS]; exact blk_new _ _⟩
        have HSA : Kp (ab ≠ S) := ⟨by rw [hS]; have := HO.it.ha.lt; omega⟩
        have hcK0 := blk_cell (o := 0) HO.it.hK rfl
        have HCK0 : Kp (wr.cell? ⟨Kb, 0, none⟩ = some (.int .i64 (k : Int))) := ⟨hcK0⟩
        clear HO
        go_wp2_with fail
        rw [← hS]
        clear hS
        generalize wr.alloc (.cells #[.func (.func 89) #[] #[.pointer (some ⟨R, 0, none⟩), .pointer (some ⟨Kb, 0, none⟩), .pointer (some ⟨P, 0, none⟩)]] 86) = W1 at HO1 HS1 ⊢
        have HC : Kp (Calls Try.prog 91 #[.slice (some ⟨ab, 0, none⟩) n n, .func (.func 90) #[] #[.pointer (some ⟨R, 0, none⟩), .pointer (some ⟨S, 0, none⟩)]] W1 fun e w' => e = .returned (.tuple #[]) ∧ ∃ l', IsT bs (k + k) l' ∧ Blk w' ab (ints l') ∧ W1.grownBy w' (some ab)) := ⟨by
          have h9 := HO1.it.om HS1.it
          rw [← HL.it] at h9
          have h8 := HPM.it
          have h7 := HRB.it
          rw [← HL.it] at h8 h7
          have h6 := sort_o h9 HRK.it (by rw [HL.it]; exact HM.it) h8 HO1.it.ha ⟨HO1.it.neA.1, HO1.it.neA.2.1, HO1.it.neA.2.2.1, HSA.it, HO1.it.neA.2.2.2⟩ (by omega) (by rw [HL.it]; omega) h7
          rw [HL.it] at h6
          exact h6⟩
        refine HC.it.mono ?_
        rintro e w2 ⟨rfl, l2, ht2, hb2, hg2⟩
        have HT := Kp.mk ht2
        have HO2 : Kp (OB2 w P R ab rb Kb n k w2 l2 rk) := ⟨HO1.it.sorted hg2 hb2 (by rw [ht2.len]; exact HL.it)⟩
        have HS2 : Kp (w2.heap[S]? = some (.cells #[.func (.func 89) #[] #[.pointer (some ⟨R, 0, none⟩), .pointer (some ⟨Kb, 0, none⟩), .pointer (some ⟨P, 0, none⟩)]] 86 (0, 0))) := ⟨(hg2.block S (lt_of_obj HS1.it) (by intro e; injection e with e; exact HSA.it e.symm)).trans HS1.it⟩
        clear HO1 HS1 HC ht2 hb2 hg2 HPM hcK0
        have hcN := blk_cell (o := 0) HO2.it.hN rfl
        obtain ⟨nb, hnb⟩ : ∃ nb, nb = w2.heap.size := ⟨_, rfl⟩
        have HO3 : Kp (OB2 w P R ab rb Kb n k (w2.alloc (.cells (zrow n) 3)) l2 rk) := ⟨HO2.it.below ((Below.refl _ _).alloc (Nat.le_refl _) _)⟩
        have HS3 : Kp ((w2.alloc (.cells (zrow n) 3)).heap[S]? = some (.cells #[.func (.func 89) #[] #[.pointer (some ⟨R, 0, none⟩), .pointer (some ⟨Kb, 0, none⟩), .pointer (some ⟨P, 0, none⟩)]] 86 (0, 0))) := ⟨blk_old _ HS2.it⟩
        have HX3 : Kp (Blk (w2.alloc (.cells (zrow n) 3)) nb (List.replicate n 0)) := ⟨by rw [hnb]; exact blk_zrow w2 n⟩
        have HNB : Kp ((nb ≠ P ∧ nb ≠ R ∧ nb ≠ Kb ∧ nb ≠ ab ∧ nb ≠ rb) ∧ nb ≠ S ∧ w.heap.size ≤ nb) := ⟨by
          have q1 := lt_of_obj HO2.it.hN
          have q2 := lt_of_obj HO2.it.hR
          have q3 := lt_of_obj HO2.it.hK
          have q4 := HO2.it.ha.lt
          have q5 := HO2.it.hr.lt
          have q6 := lt_of_obj HS2.it
          have q7 := HO2.it.bel.size
          rw [hnb]
          omega⟩
        clear HO2 HS2
        go_wp2
        rw [← hnb]
        clear hnb hcN
        generalize w2.alloc (.cells (zrow n) 3) = W3 at HO3 HS3 HX3 ⊢
        go_loopw [11] (fun u wr => ∃ (i : Nat) (xs : List Int), 1 ≤ i ∧ i ≤ n ∧ u = .int .i64 i ∧ Kp (OB2 w P R ab rb Kb n k wr l2 rk) ∧ Kp (wr.heap[S]? = some (.cells #[.func (.func 89) #[] #[.pointer (some ⟨R, 0, none⟩), .pointer (some ⟨Kb, 0, none⟩), .pointer (some ⟨P, 0, none⟩)]] 86 (0, 0))) ∧ Kp (Blk wr nb xs) ∧ Kp (xs.length = n) ∧ Kp (∀ t, t < i → rd xs (l2.getD t 0) = (cls bs (k + k) l2 t : Nat)) ∧ Kp (∀ j, j < n → 0 ≤ rd xs j ∧ rd xs j ≤ 1000000)) (fun u _ => n - (intOf u).toNat)
        case atStart => exact ⟨1, List.replicate n 0, by omega, by omega, rfl, HO3, HS3, HX3, ⟨List.length_replicate⟩, ⟨fun t ht => by
          obtain rfl : t = 0 := by omega
          rw [rd_zero]
          rfl⟩, ⟨fun j _ => by rw [rd_zero]; omega⟩⟩
        case round =>
          clear HO3 HS3 HX3
          obtain ⟨i, xs, hi1, hin, rfl, HO3, HS3, HX3, HXL, HXC, HXB⟩ := hrel
          have hcN := blk_cell (o := 0) HO3.it.hN rfl
          by_cases hi : i < n
          · have hd : decide ((i : Int) < (n : Int)) = true := by simp; omega
            obtain ⟨q, rfl⟩ : ∃ q, i = q + 1 := ⟨i - 1, by omega⟩
            rw [show (((q + 1 : Nat)) : Int) = (q : Int) + 1 by omega] at hd ⊢
            have hq3 : (q : Int) + 1 < (n : Int) := by omega
            have HLN : Kp (l2.length = n) := ⟨by rw [HT.it.len, HL.it]⟩
            have hxm : l2.getD (q + 1) 0 < n := by
              have h9 := HT.it.lt (List.getElem_mem (show q + 1 < l2.length by rw [HLN.it]; exact hi))
              rw [HL.it] at h9
              rw [getD_of (by rw [HLN.it]; exact hi)]; exact h9
            have hym : l2.getD q 0 < n := by
              have h9 := HT.it.lt (List.getElem_mem (show q < l2.length by rw [HLN.it]; omega))
              rw [HL.it] at h9
              rw [getD_of (by rw [HLN.it]; omega)]; exact h9
            have HND : Kp (∀ t, t < q + 1 → l2.getD (q + 1) 0 ≠ l2.getD t 0) := ⟨fun t ht e => by
              have h9 := List.pairwise_iff_getElem.1 HT.it.nodup t (q + 1) (by rw [HLN.it]; omega) (by rw [HLN.it]; exact hi) ht
              rw [getD_of (by rw [HLN.it]; exact hi), getD_of (by rw [HLN.it]; omega)] at e
              exact h9 e.symm⟩
            have hax := HO3.it.ha.cell (j := q + 1) (by rw [ints_len, HLN.it]; exact hi)
            have hay := HO3.it.ha.cell (j := q) (by rw [ints_len, HLN.it]; omega)
            rw [intsO_rd (by rw [HLN.it]; exact hi)] at hax
            rw [intsO_rd (by rw [HLN.it]; omega)] at hay
            have HCS : Kp (cls bs (k + k) l2 (q + 1) = if K bs (k + k) (l2.getD (q + 1) 0) = K bs (k + k) (l2.getD q 0) then cls bs (k + k) l2 q else cls bs (k + k) l2 q + 1) := ⟨rfl⟩
            have HEQ : Kp (K bs (k + k) (l2.getD (q + 1) 0) = K bs (k + k) (l2.getD q 0) ↔ rd rk (l2.getD (q + 1) 0) = rd rk (l2.getD q 0) ∧ sv rk n k (l2.getD (q + 1) 0) = sv rk n k (l2.getD q 0)) := ⟨by
              have h9 := K2_eq HRK.it (x := l2.getD (q + 1) 0) (y := l2.getD q 0) (by rw [HL.it]; exact hxm) (by rw [HL.it]; exact hym)
              rw [HL.it] at h9
              exact h9⟩
            have HXY := Kp.mk (HXC.it q (by omega))
            have HCB := cls_le bs (k + k) l2 q
            obtain ⟨x, hx⟩ : ∃ x, x = l2.getD (q + 1) 0 := ⟨_, rfl⟩
            obtain ⟨y, hy⟩ : ∃ y, y = l2.getD q 0 := ⟨_, rfl⟩
            obtain ⟨cq, hcq⟩ : ∃ cq, cq = cls bs (k + k) l2 q := ⟨_, rfl⟩
            rw [← hx] at hxm HND hax HCS HEQ
            rw [← hy] at hym hay HCS HEQ HXY
            rw [← hcq] at HCS HXY HCB
            have HX9 := Kp.mk hx
            have HY9 := Kp.mk hy
            have hcx := HX3.it.cell (j := x) (by rw [HXL.it]; exact hxm)
            have hcy := HX3.it.cell (j := y) (by rw [HXL.it]; exact hym)
            rw [HXY.it] at hcy
            have hfx := HX3.it.free x
            have hcR := blk_cell (o := 0) HO3.it.hR rfl
            have hcS := blk_cell (o := 0) HS3.it rfl
            have hrx := HO3.it.hr.cell (j := x) (by rw [HO3.it.rl]; exact hxm)
            have hry := HO3.it.hr.cell (j := y) (by rw [HO3.it.rl]; exact hym)
            have hx2 : (x : Int) < (n : Int) := by omega
            have hy2 : (y : Int) < (n : Int) := by omega
            have hq2 : (q : Int) < (n : Int) := by omega
            -- the world behind the store
            have HO4 : Kp (OB2 w P R ab rb Kb n k (wr.setCell ⟨nb, x, none⟩ (.int .i64 (cq : Int))).drew l2 rk) := ⟨(HO3.it.other HNB.it.1 HNB.it.2.2 x _).drewN 1⟩
            have HS4 : Kp ((wr.setCell ⟨nb, x, none⟩ (.int .i64 (cq : Int))).drew.heap[S]? = some (.cells #[.func (.func 89) #[] #[.pointer (some ⟨R, 0, none⟩), .pointer (some ⟨Kb, 0, none⟩), .pointer (some ⟨P, 0, none⟩)]] 86 (0, 0))) := ⟨by show (wr.setCell _ _).heap[S]? = _; rw [other_block _ _ _ (by exact fun e => HNB.it.2.1 e.symm)]; exact HS3.it⟩
            have HX4 : Kp (Blk (wr.setCell ⟨nb, x, none⟩ (.int .i64 (cq : Int))).drew nb (xs.set x (cq : Int))) := ⟨HX3.it.store x _⟩
            have HXL4 : Kp ((xs.set x (cq : Int)).length = n) := ⟨by rw [List.length_set]; exact HXL.it⟩
            have HXB4 : Kp (∀ j, j < n → 0 ≤ rd (xs.set x (cq : Int)) j ∧ rd (xs.set x (cq : Int)) j ≤ 1000000) := ⟨fun j hj => by
              by_cases e : x = j
              · subst e
                rw [rd_set (by rw [HXL.it]; exact hxm)]; omega
              · rw [rd_set_ne e]; exact HXB.it j hj⟩
            have HXC4 : Kp (∀ t, t < q + 1 → rd (xs.set x (cq : Int)) (l2.getD t 0) = (cls bs (k + k) l2 t : Nat)) := ⟨fun t ht => by rw [rd_set_ne (HND.it t ht)]; exact HXC.it t ht⟩
            have HX5 : Kp (rd (xs.set x (cq : Int)) x = (cq : Int)) := ⟨rd_set (by rw [HXL.it]; exact hxm)⟩
            generalize rd xs x = old at hcx
            obtain ⟨ra, hra⟩ : ∃ ra, ra = rd rk x := ⟨_, rfl⟩
            obtain ⟨rb2, hrb2⟩ : ∃ rb2, rb2 = rd rk y := ⟨_, rfl⟩
            have HRA := Kp.mk hra
            have HRB2 := Kp.mk hrb2
            rw [← hra] at hrx HEQ
            rw [← hrb2] at hry HEQ
            have HXN := Kp.mk hxm
            have HYN := Kp.mk hym
            obtain ⟨⟨m1, m2, m3, m4, m5⟩, m6, m7⟩ := HNB.it
            clear hx hy hcq hra hrb2 hxm hym HX3 HO3 HS3 HXC HXB HXL
            go_wp2
            go_region
            all_goals
              go_wp2
              generalize (wr.setCell ⟨nb, x, none⟩ (.int .i64 (cq : Int))).drew = w4 at HO4 HS4 HX4 ⊢
              clear hax hay hcx hcy hfx hcR hcS hrx hry hcN
              have hax := HO4.it.ha.cell (j := q + 1) (by rw [ints_len, HLN.it]; exact hi)
              have hay := HO4.it.ha.cell (j := q) (by rw [ints_len, HLN.it]; omega)
              rw [intsO_rd (by rw [HLN.it]; exact hi), ← HX9.it] at hax
              rw [intsO_rd (by rw [HLN.it]; omega), ← HY9.it] at hay
              have hcR := blk_cell (o := 0) HO4.it.hR rfl
              have hcS := blk_cell (o := 0) HS4.it rfl
              have hrx := HO4.it.hr.cell (j := x) (by rw [HO4.it.rl]; exact HXN.it)
              have hry := HO4.it.hr.cell (j := y) (by rw [HO4.it.rl]; exact HYN.it)
              rw [← HRA.it] at hrx
              rw [← HRB2.it] at hry
              have hcx := HX4.it.cell (j := x) (by rw [HXL4.it]; exact HXN.it)
              rw [HX5.it] at hcx
              have hfx := HX4.it.free x
              by_cases hab : ra = rb2
              · subst hab
                have hq5 : (ra != ra) = false := by simp
                have HSV : Kp (∀ q i, i < n → Calls Try.prog 89 #[.int .i64 (i : Int), .pointer (some ⟨R, 0, none⟩), .pointer (some ⟨Kb, 0, none⟩), .pointer (some ⟨P, 0, none⟩)] (w4.drewN q) fun e w' => e = .returned (.int .i64 (sv rk n k i)) ∧ ∃ q', w' = (w4.drewN q).drewN q') := ⟨fun q i hi => second_any ((HO4.it.om HS4.it).drewN q) i hi (by omega) (by omega)⟩
                by_cases hcd : sv rk n k x = sv rk n k y
                · have hq6 : (sv rk n k x != sv rk n k y) = false := by simpa using hcd
                  have HCV : Kp (cls bs (k + k) l2 (q + 1) = cq) := ⟨by rw [HCS.it, if_pos (HEQ.it.2 ⟨rfl, hcd⟩)]⟩
                  clear hcd
                  go_quiet (exact Calls.quiet_of (HSV.it _ _ (by first | exact HXN.it | exact HYN.it)))
                  have R1 : Kp (OB2 w P R ab rb Kb n k (w4.drewN nq) l2 rk) := ⟨HO4.it.drewN nq⟩
                  have R2 : Kp ((w4.drewN nq).heap[S]? = some (.cells #[.func (.func 89) #[] #[.pointer (some ⟨R, 0, none⟩), .pointer (some ⟨Kb, 0, none⟩), .pointer (some ⟨P, 0, none⟩)]] 86 (0, 0))) := ⟨HS4.it⟩
                  have R3 : Kp (Blk (w4.drewN nq) nb (xs.set x (cq : Int))) := ⟨HX4.it⟩
                  have R4 : Kp (∀ t, t < q + 1 + 1 → rd (xs.set x (cq : Int)) (l2.getD t 0) = (cls bs (k + k) l2 t : Nat)) := ⟨fun t ht => by
                    rcases Nat.lt_or_ge t (q + 1) with h9 | h9
                    · exact HXC4.it t h9
                    · obtain rfl : t = q + 1 := by omega
                      rw [← HX9.it, HX5.it, HCV.it]⟩
                  go_wp2
                  go_roundw
                  case rel => exact ⟨q + 1 + 1, _, by omega, by omega, by go_num, R1, R2, R3, HXL4, R4, HXB4⟩
                  case measure => simp [intOf]; omega
                · have hq6 : (sv rk n k x != sv rk n k y) = true := by simpa using hcd
                  have HCV : Kp (cls bs (k + k) l2 (q + 1) = cq + 1) := ⟨by rw [HCS.it, if_neg (fun h9 => hcd (HEQ.it.1 h9).2)]⟩
                  clear hcd
                  go_quiet (exact Calls.quiet_of (HSV.it _ _ (by first | exact HXN.it | exact HYN.it)))
                  have R1 : Kp (OB2 w P R ab rb Kb n k ((w4.setCell ⟨nb, x, none⟩ (.int .i64 ((cq : Int) + 1))).drewN nq) l2 rk) := ⟨(HO4.it.other ⟨m1, m2, m3, m4, m5⟩ m7 x _).drewN nq⟩
                  have R2 : Kp (((w4.setCell ⟨nb, x, none⟩ (.int .i64 ((cq : Int) + 1))).drewN nq).heap[S]? = some (.cells #[.func (.func 89) #[] #[.pointer (some ⟨R, 0, none⟩), .pointer (some ⟨Kb, 0, none⟩), .pointer (some ⟨P, 0, none⟩)]] 86 (0, 0))) := ⟨by show (w4.setCell _ _).heap[S]? = _; rw [other_block _ _ _ (by exact fun e => m6 e.symm)]; exact HS4.it⟩
                  have R3 : Kp (Blk ((w4.setCell ⟨nb, x, none⟩ (.int .i64 ((cq : Int) + 1))).drewN nq) nb ((xs.set x (cq : Int)).set x ((cq : Int) + 1))) := ⟨HX4.it.store x _⟩
                  have R4 : Kp (∀ t, t < q + 1 + 1 → rd ((xs.set x (cq : Int)).set x ((cq : Int) + 1)) (l2.getD t 0) = (cls bs (k + k) l2 t : Nat)) := ⟨fun t ht => by
                    rcases Nat.lt_or_ge t (q + 1) with h9 | h9
                    · rw [rd_set_ne (HND.it t h9)]; exact HXC4.it t h9
                    · obtain rfl : t = q + 1 := by omega
                      rw [← HX9.it, rd_set (by rw [HXL4.it]; exact HXN.it), HCV.it]
                      omega⟩
                  have R5 : Kp (((xs.set x (cq : Int)).set x ((cq : Int) + 1)).length = n) := ⟨by rw [List.length_set]; exact HXL4.it⟩
                  have R6 : Kp (∀ j, j < n → 0 ≤ rd ((xs.set x (cq : Int)).set x ((cq : Int) + 1)) j ∧ rd ((xs.set x (cq : Int)).set x ((cq : Int) + 1)) j ≤ 1000000) := ⟨fun j hj => by
                    by_cases e : x = j
                    · subst e
                      rw [rd_set (by rw [HXL4.it]; exact hj)]; omega
                    · rw [rd_set_ne e]; exact HXB4.it j hj⟩
                  go_wp2
                  go_roundw
                  case rel => exact ⟨q + 1 + 1, _, by omega, by omega, by go_num, R1, R2, R3, R5, R4, R6⟩
                  case measure => simp [intOf]; omega
              · have hq5 : (ra != rb2) = true := by simpa using hab
                have HCV : Kp (cls bs (k + k) l2 (q + 1) = cq + 1) := ⟨by rw [HCS.it, if_neg (fun h9 => hab (HEQ.it.1 h9).1)]⟩
                clear hab
                go_quiet (fail)
                have R1 : Kp (OB2 w P R ab rb Kb n k ((w4.setCell ⟨nb, x, none⟩ (.int .i64 ((cq : Int) + 1))).drewN nq) l2 rk) := ⟨(HO4.it.other ⟨m1, m2, m3, m4, m5⟩ m7 x _).drewN nq⟩
                have R2 : Kp (((w4.setCell ⟨nb, x, none⟩ (.int .i64 ((cq : Int) + 1))).drewN nq).heap[S]? = some (.cells #[.func (.func 89) #[] #[.pointer (some ⟨R, 0, none⟩), .pointer (some ⟨Kb, 0, none⟩), .pointer (some ⟨P, 0, none⟩)]] 86 (0, 0))) := ⟨by show (w4.setCell _ _).heap[S]? = _; rw [other_block _ _ _ (by exact fun e => m6 e.symm)]; exact HS4.it⟩
                have R3 : Kp (Blk ((w4.setCell ⟨nb, x, none⟩ (.int .i64 ((cq : Int) + 1))).drewN nq) nb ((xs.set x (cq : Int)).set x ((cq : Int) + 1))) := ⟨HX4.it.store x _⟩
                have R4 : Kp (∀ t, t < q + 1 + 1 → rd ((xs.set x (cq : Int)).set x ((cq : Int) + 1)) (l2.getD t 0) = (cls bs (k + k) l2 t : Nat)) := ⟨fun t ht => by
                  rcases Nat.lt_or_ge t (q + 1) with h9 | h9
                  · rw [rd_set_ne (HND.it t h9)]; exact HXC4.it t h9
                  · obtain rfl : t = q + 1 := by omega
                    rw [← HX9.it, rd_set (by rw [HXL4.it]; exact HXN.it), HCV.it]
                    omega⟩
                have R5 : Kp (((xs.set x (cq : Int)).set x ((cq : Int) + 1)).length = n) := ⟨by rw [List.length_set]; exact HXL4.it⟩
                have R6 : Kp (∀ j, j < n → 0 ≤ rd ((xs.set x (cq : Int)).set x ((cq : Int) + 1)) j ∧ rd ((xs.set x (cq : Int)).set x ((cq : Int) + 1)) j ≤ 1000000) := ⟨fun j hj => by
                  by_cases e : x = j
                  · subst e
                    rw [rd_set (by rw [HXL4.it]; exact hj)]; omega
                  · rw [rd_set_ne e]; exact HXB4.it j hj⟩
                go_wp2
                go_roundw
                case rel => exact ⟨q + 1 + 1, _, by omega, by omega, by go_num, R1, R2, R3, R5, R4, R6⟩
                case measure => simp [intOf]; omega
          · obtain rfl : i = n := by omega
            have hd : decide ((i : Int) < (i : Int)) = false := by simp
            have HLN : Kp (l2.length = i) := ⟨by rw [HT.it.len, HL.it]⟩
            have HO5 : Kp (OB2 w P R ab nb Kb i k (wr.setCell ⟨R, 0, none⟩ (.slice (some ⟨nb, 0, none⟩) i i)) l2 xs) := ⟨HO3.it.rank HX3.it HXL.it HNB.it.1.2.1 HNB.it.1.2.2.2.1⟩
            have hcR := blk_cell (o := 0) HO3.it.hR rfl
            have hfR : wr.frozen? ⟨R, 0, none⟩ = false := blk_free HO3.it.hR
            obtain ⟨M, hMM⟩ : ∃ M, i = M + 1 := ⟨i - 1, by omega⟩
            have HLM : Kp (l2.getD M 0 < i) := ⟨by
              have h9 := HT.it.lt (List.getElem_mem (show M < l2.length by rw [HLN.it]; omega))
              rw [HL.it] at h9
              rw [getD_of (by rw [HLN.it]; omega)]; exact h9⟩
            have HCM : Kp (rd xs (l2.getD M 0) = (cls bs (k + k) l2 M : Nat)) := ⟨HXC.it M (by omega)⟩
            have HRN : Kp (RKI xs bs (k + k)) := ⟨rki_next HT.it (fun t ht => HXC.it t (by rw [← HLN.it]; exact ht))⟩
            have HXB2 : Kp (∀ j, j < i → 0 ≤ rd xs j ∧ rd xs j ≤ 1000000000) := ⟨fun j hj => by have := HXB.it j hj; omega⟩
            have HCB := cls_le bs (k + k) l2 M
            have HFU : Kp (cls bs (k + k) l2 M = M → l2 = tl bs) := ⟨fun h9 => (HT.it.inj (HT.it.full (by rw [HLN.it]; omega) (by rw [HLN.it, hMM]; exact h9))).eq⟩
            have HLO : Kp (i ≤ k → l2 = tl bs) := ⟨fun h9 => (HT.it.long (by rw [HL.it]; omega)).eq⟩
            obtain ⟨cM, hcM⟩ : ∃ cM, cM = cls bs (k + k) l2 M := ⟨_, rfl⟩
            rw [← hcM] at HCM HFU HCB
            have HMM := Kp.mk hMM
            clear hcM HO3 HX3 HXC HXB HS3 hMM
            go_wp2
            clear hcR hfR hcN
            generalize wr.setCell ⟨R, 0, none⟩ (.slice (some ⟨nb, 0, none⟩) i i) = W5 at HO5 ⊢
            have hcN := blk_cell (o := 0) HO5.it.hN rfl
            have hcR := blk_cell (o := 0) HO5.it.hR rfl
            have hcK := blk_cell (o := 0) HO5.it.hK rfl
            have hMi0 : M < i := by have := HMM.it; omega
            have haM := HO5.it.ha.cell (j := M) (by rw [ints_len, HLN.it]; omega)
            rw [intsO_rd (by rw [HLN.it]; have := HMM.it; omega)] at haM
            obtain ⟨z, hz⟩ : ∃ z, z = l2.getD M 0 := ⟨_, rfl⟩
            rw [← hz] at haM HLM HCM
            have hzi := HLM.it
            have hxz := HO5.it.hr.cell (j := z) (by rw [HO5.it.rl]; exact HLM.it)
            rw [HCM.it] at hxz
            have hz2 : (z : Int) < (i : Int) := by omega
            have hMi : (M : Int) < (i : Int) := by omega
            have hwM : IntKind.i64.wrap ((i : Int) - 1) = (M : Int) := by rw [IntWalk.i64_in _ (by omega)]; have := HMM.it; omega
            have hiM : (i : Int) - 1 = (M : Int) := by have := HMM.it; omega
            clear hz
            by_cases hki : i ≤ k
            · have hq7 : decide (k ≥ i) = true := by simpa using hki
              have hq8 : decide ((k : Int) ≥ (i : Int)) = true := by simp; omega
              have HE := Kp.mk (HLO.it hki)
              clear hki
              go_quiet (fail)
              go_wp2
              go_ret
              refine ⟨_, rfl, ?_, below_drewN HO5.it.bel _⟩
              rw [← HE.it]
              have h9 := HO5.it.ha.own (base := w.heap.size) HO5.it.loA (by rw [ints_len, HLN.it]; omega)
              rw [ints_len, HLN.it] at h9
              exact h9.below (below_drewN (Below.refl _ _) _)
            · have hq7 : decide (k ≥ i) = false := by simpa using hki
              have hq8 : decide ((k : Int) ≥ (i : Int)) = false := by simp; omega
              by_cases hf : cM = M
              · have HE := Kp.mk (HFU.it hf)
                subst hf
                have hq9 : ((cM : Int) == (cM : Int)) = true := by simp
                clear hki
                go_quiet (fail)
                go_wp2
                go_ret
                refine ⟨_, rfl, ?_, below_drewN HO5.it.bel _⟩
                rw [← HE.it]
                have h9 := HO5.it.ha.own (base := w.heap.size) HO5.it.loA (by rw [ints_len, HLN.it]; omega)
                rw [ints_len, HLN.it] at h9
                exact h9.below (below_drewN (Below.refl _ _) _)
              · have hq9 : ((cM : Int) == (M : Int)) = false := by simp; omega
                have hq10 : (cM == M) = false := by simpa using hf
                have hki2 : k < i := by omega
                clear hf hki
                go_quiet (fail)
                have HO6 : Kp (OB2 w P R ab nb Kb i k (W5.drewN nq) l2 xs) := ⟨HO5.it.drewN nq⟩
                generalize W5.drewN nq = w6 at HO6 ⊢
                clear hcN hcR hcK haM hxz HO5
                have hcK := blk_cell (o := 0) HO6.it.hK rfl
                have HO7 : Kp (OB2 w P R ab nb w6.heap.size i (k + k) (w6.alloc (.cells #[.int .i64 ((k + k : Nat) : Int)] 3)) l2 xs) := ⟨HO6.it.next (k + k)⟩
                rw [show ((k + k : Nat) : Int) = (k : Int) * 2 by omega] at HO7
                have hcK7 := blk_cell (o := 0) HO7.it.hK rfl
                have HPM2 : Kp (l2.Perm (List.range i)) := ⟨by have h9 := HT.it.perm; rwa [HL.it] at h9⟩
                clear hiM hwM
                go_wp2
                refine ⟨⟨_, k + k, nb, xs, l2, rfl, by omega, by omega, HO7, HRN, HXB2, HPM2⟩, ?_⟩
                have e1 : (w6.alloc (.cells #[.int .i64 ((k : Int) * 2)] 3)).cell? ⟨w6.heap.size, 0, none⟩ = some (.int .i64 ((k + k : Nat) : Int)) := blk_cell (o := 0) HO7.it.hK rfl
                simp only [mea4, e1, HCK0.it]
                omega
  clear hK
  go_region
  all_goals
    rw [← hP]
    refine HK _ _ _ _ ⟨?_⟩
    have q0 := below4 w
    have q4 := blk4 w
    rw [← hP] at q4
    constructor
    · exact (q4 _ _ _ _).1
    · first | exact (q4 _ _ _ _).2.1 | exact (q4 _ _ _ _).2.2.1 | exact (q4 _ _ _ _).2.2.2
    · first | exact (q4 _ _ _ _).2.1 | exact (q4 _ _ _ _).2.2.1 | exact (q4 _ _ _ _).2.2.2
    · first | exact (q4 _ _ _ _).2.1 | exact (q4 _ _ _ _).2.2.1 | exact (q4 _ _ _ _).2.2.2
    · simp
    · simp
    · exact q0 _ _ _ _
    · omega
    · omega
end Go.Proofs.Ytnkgagbobihnnaa
