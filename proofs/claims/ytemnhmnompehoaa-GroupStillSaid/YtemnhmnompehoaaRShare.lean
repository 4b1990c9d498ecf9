/-
  The reference's Share.
-/
import Derived.Test.YtemnhmnompehoaaTeam
namespace Go.Proofs.Ytemnhmnompehoaa
open Go Go.RowKit

def brow (bs : List Bool) : Array Value := (bs.map Value.bool).toArray
def Bkb (w : World) (g : Nat) (bs : List Bool) : Prop := w.heap[g]? = some (.cells (brow bs) 4 (0, 0))
def rdb (bs : List Bool) (j : Nat) : Bool := bs.getD j false
theorem brow_get {bs : List Bool} {j : Nat} (hj : j < bs.length) : (brow bs)[j]? = some (.bool (rdb bs j)) := by
  unfold brow rdb
  rw [List.getElem?_toArray, List.getElem?_map, List.getD_eq_getElem?_getD, List.getElem?_eq_getElem hj]
  rfl
theorem Bkb.cell {w : World} {g : Nat} {bs : List Bool} (h : Bkb w g bs) {j : Nat} (hj : j < bs.length) : w.cell? ⟨g, j, none⟩ = some (.bool (rdb bs j)) := blk_cell h (brow_get hj)
theorem Bkb.free {w : World} {g : Nat} {bs : List Bool} (h : Bkb w g bs) (j : Nat) : w.frozen? ⟨g, j, none⟩ = false := blk_free h
theorem Bkb.lt {w : World} {g : Nat} {bs : List Bool} (h : Bkb w g bs) : g < w.heap.size := (Array.getElem?_eq_some_iff.1 h).1
theorem Bkb.store {w : World} {g : Nat} {bs : List Bool} (h : Bkb w g bs) (k : Nat) (v : Bool) : Bkb (w.setCell ⟨g, k, none⟩ (.bool v)) g (bs.set k v) := by
  unfold Bkb
  rw [blk_set _ h]
  unfold brow
  rw [List.setIfInBounds_toArray, List.map_set]
def zbrow (n : Nat) : Array Value := brow (List.replicate n false)
theorem make_bools (n : Nat) (hn : n ≤ 1000000000) (w : World) : (Instr.makeSlice 86 (.int .i64 (n : Int)) (.int .i64 (n : Int))).run Try.prog w = .ok (.slice (some ⟨w.heap.size, 0, none⟩) n n) (w.alloc (.cells (zbrow n) 4)) := by
  have e : zbrow n = madeCells #[.bool false] n := by
    apply Array.ext'
    rw [toList_madeCells_one]
    simp [zbrow, brow]
  rw [e]
  exact run_make_row' 86 4 (.bool false) 1 Try.underlying86 (by kernel_rfl) rfl .i64 .i64 n (by omega) (by omega) w

/-- Who is given one part more next: the first of those who have most and were not given one. -/
def bstS (os T : List Int) (ex : List Bool) : Nat → Int
  | 0 => -1
  | j + 1 => if rdb ex j = false ∧ (bstS os T ex j < 0 ∨ hasF os (rd T (bstS os T ex j).toNat) < hasF os (rd T j)) then j else bstS os T ex j
theorem bstS_what (os T : List Int) (ex : List Bool) : ∀ j, (bstS os T ex j = -1 ∧ ∀ i, i < j → rdb ex i = true) ∨
    ∃ b : Nat, bstS os T ex j = b ∧ b < j ∧ rdb ex b = false ∧ ∀ i, i < j → rdb ex i = false → hasF os (rd T i) < hasF os (rd T b) ∨ (hasF os (rd T i) = hasF os (rd T b) ∧ b ≤ i)
  | 0 => .inl ⟨rfl, fun i hi => by omega⟩
  | j + 1 => by
    have ih := bstS_what os T ex j
    unfold bstS
    split
    · rename_i h
      right
      refine ⟨j, rfl, by omega, h.1, fun i hi he => ?_⟩
      rcases Nat.lt_succ_iff_lt_or_eq.1 hi with h3 | rfl
      · rcases ih with ⟨_, g2⟩ | ⟨b, g1, g2, g3, g4⟩
        · rw [g2 i h3] at he; cases he
        · have h5 := h.2
          rw [g1] at h5
          have := g4 i h3 he
          simp only [Int.toNat_natCast] at h5
          omega
      · omega
    · rename_i h
      rcases ih with ⟨g1, g2⟩ | ⟨b, g1, g2, g3, g4⟩
      · left
        refine ⟨g1, fun i hi => ?_⟩
        rcases Nat.lt_succ_iff_lt_or_eq.1 hi with h3 | rfl
        · exact g2 i h3
        · cases he : rdb ex i with
          | true => rfl
          | false => exact absurd ⟨he, .inl (by omega)⟩ h
      · right
        refine ⟨b, g1, by omega, g3, fun i hi he => ?_⟩
        rcases Nat.lt_succ_iff_lt_or_eq.1 hi with h3 | rfl
        · exact g4 i h3 he
        · have h5 : ¬ (hasF os (rd T b) < hasF os (rd T i)) := by
            intro h6
            apply h
            refine ⟨he, .inr ?_⟩
            rw [g1]
            simpa using h6
          omega

/-- Who was given one already. -/
def exK (T M : List Int) (k : Nat) : List Bool := T.map fun x => decide (x ∈ M.take k)
def mayK (T M : List Int) (q k : Nat) : List Int := T.map fun x => if x ∈ M.take k then (q : Int) + 1 else q
theorem leH_total (f : Int → Int) (x y : Int) : (leH f x y || leH f y x) = true := by
  unfold leH
  simp only [Bool.or_eq_true, decide_eq_true_eq]
  omega
theorem leH_trans (f : Int → Int) (x y z : Int) (h1 : leH f x y = true) (h2 : leH f y z = true) : leH f x z = true := by
  unfold leH at *
  simp only [decide_eq_true_eq] at *
  omega
theorem bst_next {os T M : List Int} {k : Nat} (hT : T.Pairwise (· < ·)) (hM : M = T.mergeSort (leH (hasF os))) (hk : k < T.length) :
    ∃ b : Nat, bstS os T (exK T M k) T.length = b ∧ b < T.length ∧ rd T b = rd M k := by
  have hp : M.Perm T := by rw [hM]; exact List.mergeSort_perm _ _
  have hl : M.length = T.length := hp.length_eq
  have hs : M.Pairwise (fun x y => leH (hasF os) x y = true) := by
    rw [hM]
    exact List.pairwise_mergeSort (fun a b c => leH_trans _ a b c) (fun a b => leH_total _ a b) T
  have hTn : T.Nodup := hT.imp fun h => Int.ne_of_lt h
  have hMn : M.Nodup := hp.nodup_iff.2 hTn
  have hex : ∀ i, i < T.length → (rdb (exK T M k) i = false ↔ rd T i ∉ M.take k) := by
    intro i hi
    unfold rdb exK
    rw [List.getD_eq_getElem?_getD, List.getElem?_map, List.getElem?_eq_getElem hi, rd_lt hi]
    simp
  have hMk : rd M k ∉ M.take k := by
    rw [rd_lt (by omega)]
    intro h
    obtain ⟨i, hi, e⟩ := List.mem_iff_getElem.1 h
    rw [List.length_take, Nat.lt_min] at hi
    rw [List.getElem_take] at e
    exact nodup_ne hMn (i := i) (j := k) hi.1 (by omega) e
  have hin : rd M k ∈ T := by rw [rd_lt (by omega)]; exact hp.mem_iff.1 (List.getElem_mem _)
  obtain ⟨j, hj, hje⟩ := List.mem_iff_getElem.1 hin
  rw [← rd_lt hj] at hje
  rcases bstS_what os T (exK T M k) T.length with ⟨_, g2⟩ | ⟨b, g1, g2, g3, g4⟩
  · exfalso
    have := g2 j hj
    rw [← Bool.not_eq_false, hex j hj, hje] at this
    exact this hMk
  · refine ⟨b, g1, g2, ?_⟩
    have h1 := g4 j hj ((hex j hj).2 (by rw [hje]; exact hMk))
    rw [hje] at h1
    have hb : rd T b ∉ M.take k := (hex b g2).1 g3
    have hbM : rd T b ∈ M := by rw [hp.mem_iff, rd_lt g2]; exact List.getElem_mem _
    obtain ⟨i, hi, hie⟩ := List.mem_iff_getElem.1 hbM
    have hki : k ≤ i := by
      apply Classical.byContradiction
      intro hlt
      refine hb (List.mem_iff_getElem.2 ⟨i, by rw [List.length_take, Nat.lt_min]; omega, ?_⟩)
      rw [List.getElem_take]
      exact hie
    rcases Nat.lt_or_ge k i with h5 | h5
    · have h6 := List.pairwise_iff_getElem.1 hs k i (by omega) hi h5
      rw [hie, ← rd_lt (by omega)] at h6
      unfold leH at h6
      simp only [decide_eq_true_eq] at h6
      have h7 : b ≤ j → rd T b ≤ rd T j := fun h => by
        rcases Nat.lt_or_ge b j with h8 | h8
        · rw [rd_lt g2, rd_lt hj]; have := List.pairwise_iff_getElem.1 hT b j g2 hj h8; omega
        · obtain rfl : b = j := by omega
          exact Int.le_refl _
      rw [hje] at h7
      rcases h1 with h1 | ⟨h1, h9⟩
      · omega
      · have := h7 h9
        omega
    · obtain rfl : i = k := by omega
      rw [← hie, rd_lt (by omega)]

theorem mem_take_succ {M : List Int} {k : Nat} (hk : k < M.length) {x : Int} : x ∈ M.take (k + 1) ↔ x ∈ M.take k ∨ x = M[k] := by
  rw [List.take_succ_eq_append_getElem hk, List.mem_append, List.mem_singleton]
theorem rd_map {T : List Int} {f : Int → Int} {i : Nat} (hi : i < T.length) : rd (T.map f) i = f (rd T i) := by
  rw [rd_lt (by simpa using hi), rd_lt hi]; simp
theorem map_upd {T : List Int} {f : Int → Int} {i : Nat} {v : Int} (hn : T.Nodup) (hi : i < T.length) : (T.map f).set i v = T.map (upd f (rd T i) v) := by
  apply List.ext_getElem?
  intro j
  rw [List.getElem?_set, List.getElem?_map]
  by_cases hj : j < T.length
  · rw [List.getElem?_eq_getElem hj]
    by_cases hij : i = j
    · subst hij
      rw [if_pos rfl, if_pos (by simpa using hi), rd_lt hi, List.getElem?_map, List.getElem?_eq_getElem hi, Option.map_some, upd_same]
    · rw [if_neg hij, List.getElem?_map, List.getElem?_eq_getElem hj]
      simp only [Option.map_some]
      rw [upd_other]
      rw [rd_lt hi]
      intro e
      rcases Nat.lt_or_ge i j with h | h
      · exact nodup_ne hn h hj e.symm
      · exact nodup_ne hn (i := j) (j := i) (by omega) hi e
  · rw [List.getElem?_eq_none (by omega)]
    by_cases hij : i = j
    · omega
    · rw [if_neg hij, List.getElem?_eq_none (by simp; omega)]
      rfl
theorem exK_next {T M : List Int} {k b : Nat} (hn : T.Nodup) (hb : b < T.length) (hk : k < M.length) (h : rd T b = rd M k) : (exK T M k).set b true = exK T M (k + 1) := by
  unfold exK
  apply List.ext_getElem?
  intro j
  rw [List.getElem?_set, List.getElem?_map]
  by_cases hj : j < T.length
  · rw [List.getElem?_eq_getElem hj, Option.map_some]
    by_cases hij : b = j
    · subst hij
      rw [rd_lt hb, rd_lt hk] at h
      rw [if_pos rfl, if_pos (by simpa using hb), List.getElem?_map, List.getElem?_eq_getElem hb, Option.map_some, decide_eq_true ((mem_take_succ hk).2 (.inr h))]
    · rw [if_neg hij, List.getElem?_map, List.getElem?_eq_getElem hj, Option.map_some]
      have hne : T[j] ≠ M[k] := by
        rw [← rd_lt hk, ← h, rd_lt hb]
        rcases Nat.lt_or_ge b j with h9 | h9
        · exact (nodup_ne hn h9 hj).symm
        · exact nodup_ne hn (i := j) (j := b) (by omega) hb
      congr 1
      exact decide_eq_decide.2 ⟨fun h => (mem_take_succ hk).2 (.inl h), fun h => by
        rcases (mem_take_succ hk).1 h with h | h
        · exact h
        · exact absurd h hne⟩
  · rw [if_neg (by omega), List.getElem?_map, List.getElem?_eq_none (by omega)]
    rfl
theorem mayK_next {T M : List Int} {q k b : Nat} (hn : T.Nodup) (hb : b < T.length) (hk : k < M.length) (h : rd T b = rd M k) : (mayK T M q k).set b ((q : Int) + 1) = mayK T M q (k + 1) := by
  unfold mayK
  rw [map_upd hn hb]
  apply List.map_congr_left
  intro x _
  unfold upd
  rw [h, rd_lt hk]
  by_cases hx : x = M[k]
  · rw [if_pos hx, if_pos ((mem_take_succ hk).2 (.inr hx))]
  · rw [if_neg hx]
    show (if x ∈ M.take k then (q : Int) + 1 else q) = _
    by_cases h9 : x ∈ M.take k
    · rw [if_pos h9, if_pos ((mem_take_succ hk).2 (.inl h9))]
    · rw [if_neg h9, if_neg (fun h => by
        rcases (mem_take_succ hk).1 h with h | h
        · exact h9 h
        · exact hx h)]
theorem mayK_at {T M : List Int} {q k b : Nat} (hM : M.Nodup) (hb : b < T.length) (hk : k < M.length) (h : rd T b = rd M k) : rd (mayK T M q k) b = q := by
  unfold mayK
  rw [rd_map hb, h, if_neg]
  rw [rd_lt hk]
  intro h9
  obtain ⟨i, hi, e⟩ := List.mem_iff_getElem.1 h9
  rw [List.length_take, Nat.lt_min] at hi
  rw [List.getElem_take] at e
  exact nodup_ne hM (i := i) (j := k) hi.1 hk e
theorem mayK_room {T M : List Int} {q r : Nat} (hM : M.Nodup) (hp : M.Perm T) : mayK T M q r = T.map (roomK q r M T.length) := by
  unfold mayK
  apply List.map_congr_left
  intro x hx
  have key : ∀ k, k ≤ M.length → x ∈ M.take k → roomK q r M k x = if x ∈ M.take r then (q : Int) + 1 else q := by
    intro k
    induction k with
    | zero => intro _ h; simp at h
    | succ k ih =>
      intro hk h
      unfold roomK
      by_cases hxk : x = rd M k
      · subst hxk
        rw [upd_same]
        have : rd M k ∈ M.take r ↔ k < r := by
          rw [rd_lt (by omega)]
          constructor
          · intro h9
            obtain ⟨i, hi, e⟩ := List.mem_iff_getElem.1 h9
            rw [List.length_take, Nat.lt_min] at hi
            rw [List.getElem_take] at e
            apply Classical.byContradiction
            intro hlt
            exact nodup_ne hM (i := i) (j := k) (by omega) (by omega) e
          · intro h9
            exact List.mem_iff_getElem.2 ⟨k, by rw [List.length_take, Nat.lt_min]; omega, by rw [List.getElem_take]⟩
        by_cases hkr : k < r
        · rw [if_pos hkr, if_pos (this.2 hkr)]
        · rw [if_neg hkr, if_neg (fun h9 => hkr (this.1 h9))]
      · rw [upd_other hxk]
        refine ih (by omega) ?_
        rw [List.take_succ_eq_append_getElem (by omega), List.mem_append, List.mem_singleton, ← rd_lt (by omega)] at h
        rcases h with h | h
        · exact h
        · exact absurd h hxk
  rw [← hp.length_eq]
  rw [key M.length (Nat.le_refl _) (by rw [List.take_length]; exact hp.mem_iff.2 hx)]

theorem times_has (A : Option Addr) (n c : Nat) (os : List Int) (x : Int) (w : World) (h : Rd w A n os) : Calls Try.prog 60 #[.slice A n c, .int .i64 x] w fun e w' => e = .returned (.int .i64 (hasF os x)) ∧ w' = w :=
  (times_any A n c os x w h).mono fun _ _ ⟨a, b⟩ => ⟨a, b.symm⟩

end Go.Proofs.Ytemnhmnompehoaa
