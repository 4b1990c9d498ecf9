/-
  A writer tells how long codes are.
-/
import Derived.Test.YtnkgagbobihnnaaWrt
import Derived.Laws.EntriesVeiled
namespace Go.Proofs.Ytnkgagbobihnnaa
open Go Go.RowKit
attribute [local go_sem ↓] Go.wp_at_zero Go.wp_at_succ

theorem pos_any (x : Int) (w : World) : Calls Try.prog 114 #[.int .i64 x] w fun e w' => e = .returned (.bool (decide (0 < x))) ∧ w' = w := by
  by_cases h : 0 < x
  · have hd : decide (x > 0) = true := by simpa using h
    rw [show decide (0 < x) = true by simpa using h]
    clear h
    go_enter Try.func114, Try.ntmps114
    go_wp2
    go_ret
    exact ⟨rfl, rfl⟩
  · have hd : decide (x > 0) = false := by simpa using h
    rw [show decide (0 < x) = false by simpa using h]
    clear h
    go_enter Try.func114, Try.ntmps114
    go_wp2
    go_ret
    exact ⟨rfl, rfl⟩
def pos (x : Int) : Bool := decide (0 < x)
/-- Where the first one above 0 stands; -1. -/
def posAt (xs : List Int) : Int := if xs.any pos then (xs.findIdx pos : Int) else -1
theorem posAt_hit {xs : List Int} {k : Nat} (hk : k < xs.length) (h : pos (rd xs k) = true) (hb : ∀ j, j < k → pos (rd xs j) = false) : posAt xs = k := by
  unfold posAt
  have hm : xs.any pos = true := List.any_eq_true.2 ⟨xs[k], List.getElem_mem _, by rw [← rd_lt hk]; exact h⟩
  rw [if_pos hm]
  congr 1
  rw [List.findIdx_eq (h := hk)]
  refine ⟨by rw [← rd_lt hk]; exact h, fun j hj => ?_⟩
  have := hb j hj
  rw [rd_lt (by omega)] at this
  exact this
theorem posAt_miss {xs : List Int} (hb : ∀ j, j < xs.length → pos (rd xs j) = false) : posAt xs = -1 ∧ xs.any pos = false := by
  have h : xs.any pos = false := by
    rw [List.any_eq_false]
    intro x hx
    obtain ⟨j, hj, rfl⟩ := List.getElem_of_mem hx
    have := hb j hj
    rw [rd_lt hj] at this
    simp [this]
  exact ⟨by unfold posAt; rw [h]; rfl, h⟩
set_option maxRecDepth 100000 in
set_option maxHeartbeats 4000000 in
theorem posAt_any (A : Option Addr) (n c : Nat) (xs : List Int) (w : World) (h : Rd w A n xs) :
    Calls Try.prog 129 #[.slice A n c, .func (.func 114) #[] #[]] w fun e w' => e = .returned (.int .i64 (posAt xs)) ∧ w' = w := by
  have hbd := h.bd
  have H := Kp.mk h
  have HL := Kp.mk h.len
  clear h
  go_enter Try.func129, Try.ntmps129
  go_wp2
  go_loop [8] (fun i => ∃ k : Nat, k ≤ n ∧ i = .int .i64 k ∧ Kp (∀ j, j < k → pos (rd xs j) = false)) (fun i => n - (intOf i).toNat)
  case atStart => exact ⟨0, by omega, rfl, ⟨fun j hj => by omega⟩⟩
  case round =>
    obtain ⟨k, hk, rfl, HK⟩ := hrel
    by_cases hkn : k < n
    · have hd : decide ((k : Int) < (n : Int)) = true := by simp; omega
      obtain ⟨b, o, hA, hlt, hcell⟩ := H.it.get hkn
      cases hA
      obtain ⟨v, hv⟩ : ∃ v, v = rd xs k := ⟨_, rfl⟩
      have HV := Kp.mk hv
      rw [← hv] at hcell
      clear hv hlt
      cases hp : pos v with
      | true =>
        have HE : Kp (posAt xs = k) := ⟨posAt_hit (by rw [HL.it]; exact hkn) (by rw [← HV.it]; exact hp) HK.it⟩
        have HC : Kp (Calls Try.prog 114 #[.int .i64 v] w fun e w' => e = .returned (.bool true) ∧ w = w') := ⟨(pos_any v w).mono fun e w' ⟨h1, h2⟩ => ⟨by rw [h1]; unfold pos at hp; rw [hp], h2.symm⟩⟩
        clear hp
        go_wp2_with (refine HC.it.mono ?_; rintro e w' ⟨rfl, rfl⟩)
        go_ret
        exact ⟨by rw [HE.it]; rfl, rfl⟩
      | false =>
        have HK2 : Kp (∀ j, j < k + 1 → pos (rd xs j) = false) := ⟨fun j hj => by
          rcases Nat.lt_or_ge j k with h9 | h9
          · exact HK.it j h9
          · obtain rfl : j = k := by omega
            rw [← HV.it]; exact hp⟩
        have HC : Kp (Calls Try.prog 114 #[.int .i64 v] w fun e w' => e = .returned (.bool false) ∧ w = w') := ⟨(pos_any v w).mono fun e w' ⟨h1, h2⟩ => ⟨by rw [h1]; unfold pos at hp; rw [hp], h2.symm⟩⟩
        clear hp
        go_wp2_with (refine HC.it.mono ?_; rintro e w' ⟨rfl, rfl⟩)
        go_round
        case rel => exact ⟨k + 1, by omega, by go_num, HK2⟩
        case measure => simp [intOf]; omega
    · obtain rfl : n = k := by omega
      have hd : decide ((n : Int) < (n : Int)) = false := by simp
      have HE : Kp (posAt xs = -1) := ⟨(posAt_miss (fun j hj => HK.it j (by rw [← HL.it]; exact hj))).1⟩
      go_wp2
      go_ret
      exact ⟨by rw [HE.it]; rfl, rfl⟩
theorem anyPos_any (A : Option Addr) (n c : Nat) (xs : List Int) (w : World) (h : Rd w A n xs) :
    Calls Try.prog 113 #[.slice A n c, .func (.func 114) #[] #[]] w fun e w' => e = .returned (.bool (xs.any pos)) ∧ w' = w := by
  have HC := Kp.mk (posAt_any A n c xs w h)
  by_cases hp : xs.any pos = true
  · have hq : posAt xs = (xs.findIdx pos : Int) := by unfold posAt; rw [if_pos hp]
    rw [hp]
    rw [hq] at HC
    clear hp hq
    generalize xs.findIdx pos = I at HC
    have hd : decide ((I : Int) ≥ 0) = true := by simp
    go_enter Try.func113, Try.ntmps113
    go_wp2_with (refine HC.it.mono ?_; rintro e w' ⟨rfl, rfl⟩)
    go_ret
    exact ⟨rfl, rfl⟩
  · have hq : posAt xs = -1 := by unfold posAt; rw [if_neg hp]
    rw [show xs.any pos = false by simpa using hp]
    rw [hq] at HC
    clear hp hq
    go_enter Try.func113, Try.ntmps113
    go_wp2_with (refine HC.it.mono ?_; rintro e w' ⟨rfl, rfl⟩)
    go_ret
    exact ⟨rfl, rfl⟩
/-- The g-th sixteen. -/
def grp (ls : List Int) (g : Nat) : List Int := (ls.drop (16 * g)).take 16
def gn (n g : Nat) : Nat := min (16 * g + 16) n - 16 * g
theorem grp_len {ls : List Int} {n : Nat} (h : ls.length = n) (g : Nat) : (grp ls g).length = gn n g := by
  unfold grp gn
  rw [List.length_take, List.length_drop, h]
  omega
theorem rd_grp {w : World} {b o n : Nat} {ls : List Int} (h : Rd w (some ⟨b, o, none⟩) n ls) {g : Nat} (hg : 16 * g ≤ n) : Rd w (some ⟨b, o + 16 * g, none⟩) (gn n g) (grp ls g) := by
  have h1 := (h.drop_some hg).take (k := gn n g) (by unfold gn; omega)
  unfold grp
  have e : (ls.drop (16 * g)).take (gn n g) = (ls.drop (16 * g)).take 16 := by
    rw [List.take_eq_take_iff, List.length_drop, h.len]
    unfold gn
    omega
  rwa [e] at h1
theorem ret_sl {A : Option Addr} {m m' c : Nat} (h : m = m') : Ending.returned (.slice A m c) = .returned (.slice A m' c) := by rw [h]
set_option maxHeartbeats 2000000 in
theorem group_any (b o n c B g : Nat) (w : World) (hB : w.cell? ⟨B, 0, none⟩ = some (.slice (some ⟨b, o, none⟩) n c)) (hn : 256 < n) (hnc : n ≤ c) (hc : c < 9223372036854775808) (hn2 : n ≤ 272) (hg : g < 17) :
    Calls Try.prog 111 #[.int .i64 g, .pointer (some ⟨B, 0, none⟩)] w fun e w' => e = .returned (.slice (some ⟨b, o + 16 * g, none⟩) (gn n g) (c - 16 * g)) ∧ w' = w := by
  have hck : ¬ c = 16 * g := by omega
  by_cases hM : n < 16 * g + 16
  · have h1 : ((n : Int) < 16 * (g : Int) + 16) := by omega
    have h2 : (16 * (g : Int) ≤ (n : Int)) := by omega
    clear hM
    go_enter Try.func111, Try.ntmps111
    go_wp2
    go_ret
    exact ⟨ret_sl (by unfold gn; omega), rfl⟩
  · have h1 : ¬ ((n : Int) < 16 * (g : Int) + 16) := by omega
    have h2 : (16 * (g : Int) + 16 ≤ (n : Int)) := by omega
    have h3 : (16 * (g : Int) + 16 ≤ (c : Int)) := by omega
    clear hM
    go_enter Try.func111, Try.ntmps111
    go_wp2
    go_ret
    exact ⟨ret_sl (by unfold gn; omega), rfl⟩
/-- The boxes of the two functions. -/
structure Bxs (w : World) (B C b o n c : Nat) : Prop where
  h3 : w.cell? ⟨B, 0, none⟩ = some (.slice (some ⟨b, o, none⟩) n c)
  h4 : w.cell? ⟨C, 0, none⟩ = some (.func (.func 111) #[] #[.pointer (some ⟨B, 0, none⟩)])
set_option maxHeartbeats 2000000 in
theorem has_any (b o n c B C g : Nat) (ls : List Int) (w : World) (hB : Bxs w B C b o n c) (h : Rd w (some ⟨b, o, none⟩) n ls) (hn : 256 < n) (hnc : n ≤ c) (hc : c < 9223372036854775808) (hn2 : n ≤ 272) (hg : g < 17) :
    Calls Try.prog 112 #[.int .i64 g, .pointer (some ⟨C, 0, none⟩)] w fun e w' => e = .returned (.bool ((grp ls g).any pos)) ∧ w' = w := by
  have HG := Kp.mk (group_any b o n c B g w hB.h3 hn hnc hc hn2 hg)
  have HA := Kp.mk (anyPos_any _ _ (c - 16 * g) _ w (rd_grp h (g := g) (by omega)))
  have h4 := hB.h4
  clear hB h
  go_enter Try.func112, Try.ntmps112
  go_wp2_with fail
  refine HG.it.mono ?_
  rintro e w' ⟨rfl, rfl⟩
  go_wp2_with fail
  refine HA.it.mono ?_
  rintro e w' ⟨rfl, rfl⟩
  go_wp2
  go_ret
  exact ⟨rfl, rfl⟩
def bit01 (b : Bool) : Nat := if b then 1 else 0
/-- Which sixteens have any; which of these; how long. -/
def hasB (ls : List Int) (k : Nat) : List Nat := (List.range k).map fun g => bit01 ((grp ls g).any pos)
def oneB (xs : List Int) (j : Nat) : List Nat := (xs.take j).map fun x => (min x 1).toNat
def eachB (ls : List Int) (k : Nat) : List Nat := (List.range k).flatMap fun g => if (grp ls g).any pos then oneB (grp ls g) 16 else []
def longB (ls : List Int) (k : Nat) : List Nat := (ls.take k).flatMap fun x => if 0 < x then dg x.toNat 5 else []
def lensB (ls : List Int) : List Nat := hasB ls 17 ++ eachB ls 17 ++ longB ls ls.length
theorem hasB_succ (ls : List Int) (k : Nat) : hasB ls (k + 1) = hasB ls k ++ [bit01 ((grp ls k).any pos)] := by unfold hasB; rw [List.range_succ, List.map_append]; rfl
theorem eachB_succ (ls : List Int) (k : Nat) : eachB ls (k + 1) = eachB ls k ++ (if (grp ls k).any pos then oneB (grp ls k) 16 else []) := by unfold eachB; rw [List.range_succ, List.flatMap_append]; simp
theorem longB_succ {ls : List Int} {k : Nat} (h : k < ls.length) : longB ls (k + 1) = longB ls k ++ (if 0 < rd ls k then dg (rd ls k).toNat 5 else []) := by
  unfold longB; rw [List.take_succ_eq_append_getElem h, List.flatMap_append, ← rd_lt h]; simp
theorem oneB_succ {xs : List Int} {j : Nat} (h : j < xs.length) : oneB xs (j + 1) = oneB xs j ++ [(min (rd xs j) 1).toNat] := by
  unfold oneB; rw [List.take_succ_eq_append_getElem h, List.map_append, ← rd_lt h]; rfl
theorem dg_one {x : Nat} (h : x ≤ 1) : dg x 1 = [x] := by
  unfold dg
  show [x / 2 ^ 0 % 2] = [x]
  rw [Nat.pow_zero, Nat.div_one, Nat.mod_eq_of_lt (by omega)]
theorem hasB_len (ls : List Int) (k : Nat) : (hasB ls k).length = k := by simp [hasB]
theorem oneB_len (xs : List Int) (j : Nat) : (oneB xs j).length ≤ j := by unfold oneB; rw [List.length_map]; exact List.length_take_le _ _
theorem eachB_len (ls : List Int) : ∀ k, (eachB ls k).length ≤ 16 * k
  | 0 => by simp [eachB]
  | k + 1 => by
    have ih := eachB_len ls k
    rw [eachB_succ, List.length_append]
    split
    · have := oneB_len (grp ls k) 16; omega
    · simp; omega
theorem longB_len (ls : List Int) : ∀ k, k ≤ ls.length → (longB ls k).length ≤ 5 * k
  | 0, _ => by simp [longB]
  | k + 1, h => by
    have ih := longB_len ls k (by omega)
    rw [longB_succ (by omega), List.length_append]
    split
    · rw [dg_len]; omega
    · simp; omega
theorem WS.start {w0 : World} {b0 : Option Nat} {p base : Nat} {w w1 : World} {l : List UInt8} {m : Nat} {A : Option Addr} {n c : Nat} (h : WS w0 b0 p base w l m A n c) (hb : Below w.heap.size w w1) :
    WS w1 (Value.slice A n c).ownBlock p base w1 l m A n c :=
  ⟨(hb.block p (Array.getElem?_eq_some_iff.1 h.blk).1).trans h.blk, h.len, h.own.below hb, .inl rfl, h.pb, rfl, rfl, rfl, Nat.le_refl _, Nat.le_trans (Nat.le_trans h.bs0 h.size) hb.size, fun _ _ _ _ => rfl⟩
theorem WS.trans {w0 : World} {b0 : Option Nat} {p base : Nat} {w w1 w2 : World} {l l2 : List UInt8} {m m2 : Nat} {A A2 : Option Addr} {n c n2 c2 : Nat} (h : WS w0 b0 p base w l m A n c) (hb : Below w.heap.size w w1)
    (h2 : WS w1 (Value.slice A n c).ownBlock p base w2 l2 m2 A2 n2 c2) : WS w0 b0 p base w2 l2 m2 A2 n2 c2 :=
  ⟨h2.blk, h2.len, h2.own, by
    rcases h2.row with hr | ⟨b, hr, hb'⟩
    · rw [hr]; exact h.row
    · exact .inr ⟨b, hr, Nat.le_trans (Nat.le_trans h.size hb.size) hb'⟩, h.pb, h2.os.trans (hb.os.trans h.os), h2.tape.trans (hb.tape.trans h.tape), h2.output.trans (hb.output.trans h.output), Nat.le_trans (Nat.le_trans h.size hb.size) h2.size, h.bs0, fun i h3 h4 h5 => by
      rw [h2.same i (Nat.lt_of_lt_of_le h3 (Nat.le_trans h.size hb.size)) h4 (fun e => by
        rcases h.row with hr | ⟨b, hr, hb'⟩
        · exact h5 (e.trans hr)
        · rw [hr] at e; injection e with e; omega), hb.block i (Nat.lt_of_lt_of_le h3 h.size)]
      exact h.same i h3 h4 h5⟩
theorem WS.rd {w0 : World} {b0 : Option Nat} {p base : Nat} {w : World} {l : List UInt8} {m : Nat} {A : Option Addr} {n c : Nat} (h : WS w0 b0 p base w l m A n c) {b o k : Nat} {xs : List Int} (hr : Rd w0 (some ⟨b, o, none⟩) k xs) (hp : b ≠ p) (hb : some b ≠ b0) : Rd w (some ⟨b, o, none⟩) k xs :=
  ⟨hr.len, hr.bd, fun hk => by
    obtain ⟨b', o', e, hlt, hc⟩ := hr.cells hk
    cases e
    refine ⟨b, o, rfl, Nat.lt_of_lt_of_le hlt h.size, fun j hj => ?_⟩
    rw [← hc j hj]
    unfold World.cell?
    rw [h.same b hlt hp hb]⟩
theorem WS.cell {w0 : World} {b0 : Option Nat} {p base : Nat} {w : World} {l : List UInt8} {m : Nat} {A : Option Addr} {n c : Nat} (h : WS w0 b0 p base w l m A n c) {b o : Nat} (hlt : b < w0.heap.size) (hp : b ≠ p) (hb : some b ≠ b0) : w.cell? ⟨b, o, none⟩ = w0.cell? ⟨b, o, none⟩ := by
  unfold World.cell?
  rw [h.same b hlt hp hb]
/-- A writer, and what it wants to read. -/
structure WL (w1 : World) (b1 : Option Nat) (p base B C b o n c : Nat) (ls : List Int) (w : World) (bs : List Nat) : Prop where
  x : WX w1 b1 p base w bs
  bx : Bxs w B C b o n c
  rd : Rd w (some ⟨b, o, none⟩) n ls
set_option maxRecDepth 100000 in
set_option maxHeartbeats 8000000 in
theorem lens_any {w0 : World} {b0 : Option Nat} {p base : Nat} {w : World} {bs : List Nat} {A1 : Option Addr} {n1 c1 : Nat} (hbit : ∀ d, d ∈ bs → d ≤ 1) (h : WS w0 b0 p base w (pk bs) (bs.length % 8) A1 n1 c1) (b o n c : Nat) (ls : List Int) (hr : Rd w (some ⟨b, o, none⟩) n ls)
    (hbp : b ≠ p) (hbr : some b ≠ (Value.slice A1 n1 c1).ownBlock) (hn : 256 < n) (hn2 : n ≤ 272) (hnc : n ≤ c) (hc : c < 9223372036854775808) (hls : ∀ j, j < n → 0 ≤ rd ls j ∧ rd ls j ≤ 31) (hl : bs.length ≤ 1000000) :
    Calls Try.prog 95 #[.pointer (some ⟨p, 0, none⟩), .slice (some ⟨b, o, none⟩) n c] w fun e w' => e = .returned (.tuple #[]) ∧ WX w0 b0 p base w' (bs ++ lensB ls) := by
  have hbl : b < w.heap.size := by obtain ⟨b', o', e, hlt, _⟩ := hr.get (k := 0) (by omega); cases e; exact hlt
  have hb1 : Below w.heap.size w ((w.alloc (.cells #[.slice (some ⟨b, o, none⟩) n c] 22)).alloc (.cells #[.func (.func 111) #[] #[.pointer (some ⟨w.heap.size, 0, none⟩)]] 125)) := ((Below.refl _ _).alloc (Nat.le_refl _) _).alloc (by simp) _
  have HS := Kp.mk h
  have HB1 := Kp.mk hb1
  have HST := Kp.mk (h.start hb1)
  have HLS := Kp.mk hls
  have HLL := Kp.mk hr.len
  have HBL : Kp (bs.length ≤ 1000000) := ⟨hl⟩
  have HX0 : Kp (WX ((w.alloc (.cells #[.slice (some ⟨b, o, none⟩) n c] 22)).alloc (.cells #[.func (.func 111) #[] #[.pointer (some ⟨w.heap.size, 0, none⟩)]] 125)) (Value.slice A1 n1 c1).ownBlock p base ((w.alloc (.cells #[.slice (some ⟨b, o, none⟩) n c] 22)).alloc (.cells #[.func (.func 111) #[] #[.pointer (some ⟨w.heap.size, 0, none⟩)]] 125)) bs) := ⟨hbit, _, _, _, h.start hb1⟩
  have HO : Kp (Bxs ((w.alloc (.cells #[.slice (some ⟨b, o, none⟩) n c] 22)).alloc (.cells #[.func (.func 111) #[] #[.pointer (some ⟨w.heap.size, 0, none⟩)]] 125)) w.heap.size (w.heap.size + 1) b o n c) := ⟨⟨blk_cell (blk_old _ (blk_new _ _)) rfl, blk_cell (blk_new1 _ _ _) rfl⟩⟩
  have HR1 := Kp.mk (hr.below hb1)
  have HZ : Kp (((w.alloc (.cells #[.slice (some ⟨b, o, none⟩) n c] 22)).alloc (.cells #[.func (.func 111) #[] #[.pointer (some ⟨w.heap.size, 0, none⟩)]] 125)).heap.size = w.heap.size + 2) := ⟨by simp⟩
  have HNE : Kp (b ≠ p ∧ some b ≠ (Value.slice A1 n1 c1).ownBlock ∧ p < w.heap.size ∧ ∀ k, (Value.slice A1 n1 c1).ownBlock = some k → k < w.heap.size) := ⟨hbp, hbr, Nat.lt_of_lt_of_le h.pb (Nat.le_trans h.bs0 h.size), fun k hk => by have h9 := h.own; unfold OwnB at h9; exact (h9.lt k hk).2⟩
  clear h hr hls hbit hb1 hbp hbr hl hbl
  obtain ⟨B, hB⟩ : ∃ B, B = w.heap.size := ⟨_, rfl⟩
  have HBB := Kp.mk hB
  go_enter Try.func95, Try.ntmps95
  go_wp2
  rw [← hB]
  rw [← hB] at HX0 HO HR1 HZ HB1 HST HNE
  generalize hW1 : (w.alloc (.cells #[.slice (some ⟨b, o, none⟩) n c] 22)).alloc (.cells #[.func (.func 111) #[] #[.pointer (some ⟨B, 0, none⟩)]] 125) = w1 at HX0 HO HR1 HZ HB1 HST ⊢
  obtain ⟨b1, hb1⟩ : ∃ b1, b1 = (Value.slice A1 n1 c1).ownBlock := ⟨_, rfl⟩
  have HBE := Kp.mk hb1
  rw [← hb1] at HX0 HNE HST
  clear hB hW1 hb1
  have OF : Kp (∀ (wr : World) (cs : List Nat), WX w1 b1 p base wr cs → Bxs wr B (B + 1) b o n c ∧ Rd wr (some ⟨b, o, none⟩) n ls) := ⟨fun wr cs hx => by
    obtain ⟨_, A9, n9, c9, h9⟩ := hx
    obtain ⟨q1, q2, q3, q4⟩ := HNE.it
    exact ⟨⟨(h9.cell (by rw [HZ.it]; omega) (by omega) (fun e => by have := q4 B e.symm; omega)).trans HO.it.h3, (h9.cell (by rw [HZ.it]; omega) (by omega) (fun e => by have := q4 (B + 1) e.symm; omega)).trans HO.it.h4⟩, h9.rd HR1.it q1 q2⟩⟩
  go_loopw [14] (fun i wr => ∃ g : Nat, g ≤ 17 ∧ i = .int .i64 g ∧ Kp (WX w1 b1 p base wr (bs ++ hasB ls g))) (fun i _ => 17 - (intOf i).toNat)
  case atStart => exact ⟨0, by omega, rfl, ⟨by show WX _ _ _ _ _ (bs ++ []); rw [List.append_nil]; exact HX0.it⟩⟩
  case round =>
    clear HX0
    obtain ⟨g, hg, rfl, HX⟩ := hrel
    by_cases hg17 : g < 17
    · have hd : decide ((g : Int) < 17) = true := by simp; omega
      have HC := Kp.mk (has_any b o n c B (B + 1) g ls wr (OF.it _ _ HX.it).1 (OF.it _ _ HX.it).2 hn hnc hc hn2 hg17)
      have HE := Kp.mk (hasB_succ ls g)
      have HLE : Kp ((bs ++ hasB ls g).length ≤ 10000000) := ⟨by rw [List.length_append, hasB_len]; have := HBL.it; omega⟩
      have HD1 := Kp.mk (bits_any HX.it 1 1 (by omega) (by omega) HLE.it)
      have HD0 := Kp.mk (bits_any HX.it 0 1 (by omega) (by omega) HLE.it)
      rw [dg_one (by omega), List.append_assoc] at HD1 HD0
      cases hb : (grp ls g).any pos with
      | true =>
        rw [hb] at HC HE
        rw [show bit01 true = 1 from rfl] at HE
        rw [← HE.it] at HD1
        clear HE HD0 hb
        go_wp2_with fail
        refine HC.it.mono ?_
        rintro e w' ⟨rfl, rfl⟩
        go_wp2_with fail
        refine HD1.it.mono ?_
        rintro e w2 ⟨rfl, hx2⟩
        have HX2 := Kp.mk hx2
        clear hx2
        go_wp2
        go_roundw
        case rel => exact ⟨g + 1, by omega, by go_num, HX2⟩
        case measure => simp [intOf]; omega
      | false =>
        rw [hb] at HC HE
        rw [show bit01 false = 0 from rfl] at HE
        rw [← HE.it] at HD0
        clear HE HD1 hb
        go_wp2_with fail
        refine HC.it.mono ?_
        rintro e w' ⟨rfl, rfl⟩
        go_wp2_with fail
        refine HD0.it.mono ?_
        rintro e w2 ⟨rfl, hx2⟩
        have HX2 := Kp.mk hx2
        clear hx2
        go_wp2
        go_roundw
        case rel => exact ⟨g + 1, by omega, by go_num, HX2⟩
        case measure => simp [intOf]; omega
    · obtain rfl : g = 17 := by omega
      have hd : decide (((17 : Nat) : Int) < 17) = false := by decide
      have HX0 : Kp (WX w1 b1 p base wr (bs ++ hasB ls 17 ++ eachB ls 0)) := ⟨by show WX _ _ _ _ _ (bs ++ hasB ls 17 ++ []); rw [List.append_nil]; exact HX.it⟩
      clear HX
      go_wp2
      go_loopw [25] (fun i wr => ∃ g : Nat, g ≤ 17 ∧ i = .int .i64 g ∧ Kp (WX w1 b1 p base wr (bs ++ hasB ls 17 ++ eachB ls g))) (fun i _ => 17 - (intOf i).toNat)
      case atStart => exact ⟨0, by omega, rfl, HX0⟩
      case round =>
        clear HX0
        obtain ⟨g, hg, rfl, HX⟩ := hrel
        by_cases hg17 : g < 17
        · have hd : decide ((g : Int) < 17) = true := by simp; omega
          have HC := Kp.mk (has_any b o n c B (B + 1) g ls wr (OF.it _ _ HX.it).1 (OF.it _ _ HX.it).2 hn hnc hc hn2 hg17)
          have HE := Kp.mk (eachB_succ ls g)
          cases hb : (grp ls g).any pos with
          | true =>
            rw [hb, if_pos rfl] at HE
            rw [hb] at HC
            have hB4 := (OF.it _ _ HX.it).1.h4
            have HGP := Kp.mk (group_any b o n c B g wr (OF.it _ _ HX.it).1.h3 hn hnc hc hn2 hg17)
            have HX0 : Kp (WX w1 b1 p base wr (bs ++ hasB ls 17 ++ eachB ls g ++ oneB (grp ls g) 0)) := ⟨by show WX _ _ _ _ _ (bs ++ hasB ls 17 ++ eachB ls g ++ []); rw [List.append_nil]; exact HX.it⟩
            have HGL := Kp.mk (grp_len HLL.it g)
            have HGB : Kp (gn n g ≤ 16) := ⟨by unfold gn; omega⟩
            clear hb HX
            go_wp2_with fail
            refine HC.it.mono ?_
            rintro e w' ⟨rfl, rfl⟩
            go_wp2_with fail
            refine HGP.it.mono ?_
            rintro e w' ⟨rfl, rfl⟩
            obtain ⟨m, hm⟩ : ∃ m, m = gn n g := ⟨_, rfl⟩
            rw [← hm] at HGL HGB ⊢
            have HME := Kp.mk hm
            have hmb : m ≤ 16 := HGB.it
            clear hB4 HC HGP hm
            go_wp2
            go_loopw [35] (fun i wz => ∃ j : Nat, j ≤ m ∧ i = .int .i64 j ∧ Kp (WX w1 b1 p base wz (bs ++ hasB ls 17 ++ eachB ls g ++ oneB (grp ls g) j))) (fun i _ => m - (intOf i).toNat)
            case atStart => exact ⟨0, by omega, rfl, HX0⟩
            case round =>
              clear HX0
              obtain ⟨j, hj, rfl, HX⟩ := hrel
              by_cases hjm : j < m
              · have hd3 : decide ((j : Int) < (m : Int)) = true := by simp; omega
                have hrg := rd_grp (OF.it _ _ HX.it).2 (g := g) (by omega)
                rw [← HME.it] at hrg
                obtain ⟨b9, o9, e9, hlt9, hcell⟩ := hrg.get hjm
                cases e9
                have hv := HLS.it (16 * g + j) (by have := HME.it; unfold gn at this; omega)
                have hvr : rd (grp ls g) j = rd ls (16 * g + j) := by unfold grp; rw [rd_take (by omega), rd_drop]
                rw [← hvr] at hv
                have HE3 := Kp.mk (oneB_succ (xs := grp ls g) (j := j) (by rw [HGL.it]; exact hjm))
                have HLE : Kp ((bs ++ hasB ls 17 ++ eachB ls g ++ oneB (grp ls g) j).length ≤ 10000000) := ⟨by rw [List.length_append, List.length_append, List.length_append, hasB_len]; have := HBL.it; have := eachB_len ls g; have := oneB_len (grp ls g) j; omega⟩
                have HD1 := Kp.mk (bits_any HX.it 1 1 (by omega) (by omega) HLE.it)
                have HD0 := Kp.mk (bits_any HX.it 0 1 (by omega) (by omega) HLE.it)
                rw [dg_one (by omega), List.append_assoc _ (oneB (grp ls g) j)] at HD1 HD0
                obtain ⟨v, hve⟩ : ∃ v, v = rd (grp ls g) j := ⟨_, rfl⟩
                rw [← hve] at hv hcell HE3
                clear hlt9 hrg hvr hve
                rcases Int.lt_or_le v 1 with h1 | h1
                · obtain rfl : v = 0 := by omega
                  rw [show (min (0 : Int) 1).toNat = 0 from rfl] at HE3
                  rw [← HE3.it] at HD0
                  clear h1 HE3 HD1
                  go_wp2_with fail
                  refine HD0.it.mono ?_
                  rintro e w2 ⟨rfl, hx2⟩
                  have HX2 := Kp.mk hx2
                  clear hx2
                  go_wp2
                  go_roundw
                  case rel => exact ⟨j + 1, by omega, by go_num, HX2⟩
                  case measure => simp [intOf]; omega
                · have hmin : min v 1 = 1 := by omega
                  rw [show (min v 1).toNat = 1 by rw [hmin]; rfl] at HE3
                  rw [← HE3.it] at HD1
                  have HM2 := Kp.mk hmin
                  clear HE3 HD0 hmin
                  by_cases h2 : v = 1
                  · subst h2
                    go_wp2_with fail
                    refine HD1.it.mono ?_
                    rintro e w2 ⟨rfl, hx2⟩
                    have HX2 := Kp.mk hx2
                    clear hx2
                    go_wp2
                    go_roundw
                    case rel => exact ⟨j + 1, by omega, by go_num, HX2⟩
                    case measure => simp [intOf]; omega
                  · have h3 : 1 < v := by omega
                    clear h2
                    go_wp2_with fail
                    refine HD1.it.mono ?_
                    rintro e w2 ⟨rfl, hx2⟩
                    have HX2 := Kp.mk hx2
                    clear hx2
                    go_wp2
                    go_roundw
                    case rel => exact ⟨j + 1, by omega, by go_num, HX2⟩
                    case measure => simp [intOf]; omega
              · obtain rfl : m = j := by omega
                have hd3 : decide ((m : Int) < (m : Int)) = false := by simp
                have HX2 : Kp (WX w1 b1 p base wr (bs ++ hasB ls 17 ++ eachB ls (g + 1))) := ⟨by
                  rw [HE.it, ← List.append_assoc]
                  have e : oneB (grp ls g) 16 = oneB (grp ls g) m := by unfold oneB; rw [List.take_of_length_le (by rw [HGL.it]; omega), List.take_of_length_le (by rw [HGL.it]; exact Nat.le_refl _)]
                  rw [e]
                  exact HX.it⟩
                clear HX
                go_wp2
                go_roundw
                case rel => ((repeat apply Exists.intro); exact ⟨⟨g + 1, by omega, by go_num, HX2⟩, rfl⟩)
                case measure => simp [intOf]; omega
          | false =>
            rw [hb, if_neg (by decide), List.append_nil] at HE
            rw [hb] at HC
            have HX2 : Kp (WX w1 b1 p base wr (bs ++ hasB ls 17 ++ eachB ls (g + 1))) := ⟨by rw [HE.it]; exact HX.it⟩
            clear hb HX HE
            go_wp2_with fail
            refine HC.it.mono ?_
            rintro e w' ⟨rfl, rfl⟩
            go_wp2
            go_roundw
            case rel => ((repeat apply Exists.intro); exact ⟨⟨g + 1, by omega, by go_num, HX2⟩, rfl⟩)
            case measure => simp [intOf]; omega
        · obtain rfl : g = 17 := by omega
          have hd : decide (((17 : Nat) : Int) < 17) = false := by decide
          have hB3 := (OF.it _ _ HX.it).1.h3
          have HX0 : Kp (WX w1 b1 p base wr (bs ++ hasB ls 17 ++ eachB ls 17 ++ longB ls 0)) := ⟨by show WX _ _ _ _ _ (bs ++ hasB ls 17 ++ eachB ls 17 ++ []); rw [List.append_nil]; exact HX.it⟩
          clear HX
          go_wp2
          clear hB3
          go_loopw [47] (fun i wr => ∃ k : Nat, k ≤ n ∧ i = .int .i64 k ∧ Kp (WX w1 b1 p base wr (bs ++ hasB ls 17 ++ eachB ls 17 ++ longB ls k))) (fun i _ => n - (intOf i).toNat)
          case atStart => exact ⟨0, by omega, rfl, HX0⟩
          case round =>
            clear HX0
            obtain ⟨k, hk, rfl, HX⟩ := hrel
            by_cases hkn : k < n
            · have hd3 : decide ((k : Int) < (n : Int)) = true := by simp; omega
              obtain ⟨b9, o9, e9, hlt9, hcell⟩ := (OF.it _ _ HX.it).2.get hkn
              cases e9
              have hv := HLS.it k hkn
              have HE3 := Kp.mk (longB_succ (ls := ls) (k := k) (by rw [HLL.it]; exact hkn))
              have HLE : Kp ((bs ++ hasB ls 17 ++ eachB ls 17 ++ longB ls k).length ≤ 10000000) := ⟨by rw [List.length_append, List.length_append, List.length_append, hasB_len]; have := HBL.it; have := eachB_len ls 17; have := longB_len ls k (by rw [HLL.it]; omega); omega⟩
              obtain ⟨v, hve⟩ : ∃ v, v = rd ls k := ⟨_, rfl⟩
              rw [← hve] at hv hcell HE3
              clear hlt9 hve
              obtain ⟨V, rfl⟩ : ∃ V : Nat, v = (V : Int) := ⟨v.toNat, by omega⟩
              rw [Int.toNat_natCast] at HE3
              have hV : V ≤ 31 := by omega
              rcases Nat.eq_zero_or_pos V with h0 | h0
              · subst h0
                rw [if_neg (by decide), List.append_nil] at HE3
                rw [← HE3.it] at HX
                have hq : decide (((0 : Nat) : Int) > 0) = false := by decide
                clear HE3 hv
                go_wp2
                go_roundw
                case rel => exact ⟨k + 1, by omega, by go_num, HX⟩
                case measure => simp [intOf]; omega
              · have HD1 := Kp.mk (bits_any HX.it V 5 (by omega) (by omega) HLE.it)
                rw [if_pos (by omega)] at HE3
                rw [List.append_assoc _ (longB ls k), ← HE3.it] at HD1
                have hq : decide ((V : Int) > 0) = true := by simp; omega
                clear HE3 hv
                go_wp2_with fail
                refine HD1.it.mono ?_
                rintro e w2 ⟨rfl, hx2⟩
                have HX2 := Kp.mk hx2
                clear hx2
                go_wp2
                go_roundw
                case rel => ((repeat apply Exists.intro); exact ⟨⟨k + 1, by omega, by go_num, HX2⟩, rfl⟩)
                case measure => simp [intOf]; omega
            · obtain rfl : n = k := by omega
              have hd3 : decide ((n : Int) < (n : Int)) = false := by simp
              have HF : Kp (WX w0 b0 p base wr (bs ++ lensB ls)) := ⟨by
                obtain ⟨hq, A9, n9, c9, h9⟩ := HX.it
                have e : bs ++ hasB ls 17 ++ eachB ls 17 ++ longB ls n = bs ++ lensB ls := by unfold lensB; rw [HLL.it]; simp only [List.append_assoc]
                rw [e] at h9 hq
                rw [HBE.it] at h9
                exact ⟨hq, A9, n9, c9, HS.it.trans (by rw [← HBB.it]; exact HB1.it) h9⟩⟩
              clear HX
              go_wp2
              refine bodyPost_end (results_none rfl _ _ _) rfl ?_
              exact ⟨rfl, HF.it⟩
end Go.Proofs.Ytnkgagbobihnnaa
