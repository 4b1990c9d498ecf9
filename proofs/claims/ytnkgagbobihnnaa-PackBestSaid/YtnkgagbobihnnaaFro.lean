/-
  Places of bytes in a list of which the last ones stand in front: the program's.
-/
import Derived.Test.YtnkgagbobihnnaaRow
import Derived.Laws.CopyRow
namespace Go.Proofs.Ytnkgagbobihnnaa
open Go Go.RowKit
attribute [local go_sem ↓] Go.wp_at_zero Go.wp_at_succ

/-- All bytes in their order. -/
def allB : List UInt8 := (List.range 256).map UInt8.ofNat
theorem allB_len : allB.length = 256 := by simp [allB]
theorem allB_take {k : Nat} (h : k < 256) : allB.take (k + 1) = allB.take k ++ [UInt8.ofNat k] := by
  have h1 : k < allB.length := by rw [allB_len]; exact h
  have h2 : allB[k] = UInt8.ofNat k := by have : ∀ (l : List Nat) (h : k < (l.map UInt8.ofNat).length), (l.map UInt8.ofNat)[k] = UInt8.ofNat (l[k]'(by simpa using h)) := fun l h => List.getElem_map _
                                          exact (this (List.range 256) h1).trans (by rw [List.getElem_range])
  rw [List.take_succ_eq_append_getElem h1, h2]
/-- The i-th byte in front. -/
def moveF (l : List UInt8) (i : Nat) : List UInt8 := l.getD i 0 :: (l.take i ++ l.drop (i + 1))
theorem moveF_len {l : List UInt8} {i : Nat} (h : i < l.length) : (moveF l i).length = l.length := by unfold moveF; simp; omega
theorem moveF_perm {l : List UInt8} {i : Nat} (h : i < l.length) : (moveF l i).Perm l := by
  unfold moveF
  rw [List.getD_eq_getElem?_getD, List.getElem?_eq_getElem h]
  show (l[i] :: (l.take i ++ l.drop (i + 1))).Perm l
  have h1 : l = l.take i ++ l[i] :: l.drop (i + 1) := by rw [← List.drop_eq_getElem_cons h, List.take_append_drop]
  exact (List.perm_middle.symm).trans (by rw [← h1])

theorem getD_idxOf {l : List UInt8} {x : UInt8} (h : x ∈ l) : l.getD (l.idxOf x) 0 = x := by
  rw [List.getD_eq_getElem?_getD, List.getElem?_eq_getElem (List.idxOf_lt_length_of_mem h)]
  exact List.getElem_idxOf _
theorem ne_before {l : List UInt8} {x : UInt8} {k : Nat} (h : k < l.idxOf x) : l.getD k 0 ≠ x := by
  induction l generalizing k with
  | nil => simp at h
  | cons y l ih =>
    rw [List.idxOf_cons] at h
    by_cases hy : (y == x) = true
    · rw [hy] at h; simp at h
    · cases k with
      | zero => intro h9; apply hy; simpa using h9
      | succ k =>
        have : (y == x) = false := by simpa using hy
        rw [this] at h
        simpa using ih (by simpa using h)
theorem toNat_eq {x y : UInt8} : (((x.toNat : Nat) : Int) == ((y.toNat : Nat) : Int)) = (x == y) := by
  by_cases h : x = y
  · subst h; simp
  · have : ¬ ((x.toNat : Int) = (y.toNat : Int)) := fun h9 => h (UInt8.toNat_inj.1 (by exact_mod_cast h9))
    rw [beq_eq_false_iff_ne.2 this, beq_eq_false_iff_ne.2 h]

theorem index_any (A : Option Addr) (n c : Nat) (bs : List UInt8) (x : UInt8) (w : World) (h : Rb w A n bs) (hx : x ∈ bs) :
    Calls Try.prog 44 #[.slice A n c, .int .u8 (x.toNat : Int)] w fun e w' => e = .returned (.int .i64 ((bs.idxOf x : Nat) : Int)) ∧ w' = w := by
  have hI : bs.idxOf x < n := by rw [← h.len]; exact List.idxOf_lt_length_of_mem hx
  have HG := Kp.mk (getD_idxOf hx)
  have HN : Kp (∀ k, k < bs.idxOf x → bs.getD k 0 ≠ x) := ⟨fun k hk => ne_before hk⟩
  have hbd := h.bd
  have H := Kp.mk h
  clear h hx
  obtain ⟨I, hIe⟩ : ∃ I, I = bs.idxOf x := ⟨_, rfl⟩
  rw [← hIe] at hI HG HN ⊢
  clear hIe
  go_enter Try.func44, Try.ntmps44
  go_wp2
  go_loop [8] (fun i => ∃ k : Nat, k ≤ I ∧ i = .int .i64 k) (fun i => n - (intOf i).toNat)
  case atStart => exact ⟨0, by omega, rfl⟩
  case round =>
    obtain ⟨k, hk, rfl⟩ := hrel
    have hd : decide ((k : Int) < (n : Int)) = true := by simp; omega
    obtain ⟨b, o, hA, hlt, hc0⟩ := H.it.cells (by omega)
    have hcell := hc0 k (by omega)
    cases hA
    clear hc0
    have HT : Kp (((x.toNat : Int) == byte bs k) = (x == bs.getD k 0)) := ⟨toNat_eq⟩
    obtain ⟨y, hy⟩ : ∃ y, y = byte bs k := ⟨_, rfl⟩
    rw [← hy] at hcell HT
    clear hy hlt
    by_cases hki : k = I
    · have hq : ((x.toNat : Int) == y) = true := by rw [HT.it, hki, HG.it]; simp
      clear HT
      subst hki
      go_wp2
      go_ret
      exact ⟨rfl, rfl⟩
    · have hq : ((x.toNat : Int) == y) = false := by rw [HT.it]; have := HN.it k (by omega); rw [beq_eq_false_iff_ne]; exact fun h9 => this h9.symm
      clear HT
      go_wp2
      go_round
      case rel => exact ⟨k + 1, by omega, by go_num⟩
      case measure => simp [intOf]; omega

theorem list_any (w : World) : Calls Try.prog 43 #[] w fun e w' => e = .returned (.slice (some ⟨w.heap.size, 0, none⟩) 256 256) ∧ Bky w' w.heap.size allB ∧ Below w.heap.size w w' := by
  have hmk := make_zeros 256 (by omega)
  have HZ := Kp.mk (bky_zeros w 256)
  have HB0 : Kp (Below w.heap.size w (w.alloc (.cells (zbytes 256) 5))) := ⟨(Below.refl _ _).alloc (Nat.le_refl _) _⟩
  obtain ⟨G, hG⟩ : ∃ G, G = w.heap.size := ⟨_, rfl⟩
  have HG := Kp.mk hG
  rw [← hG] at HZ
  simp only [Int.cast_ofNat_Int] at hmk
  go_enter Try.func43, Try.ntmps43
  go_wp2_with fail
  rw [← hG]
  clear hG
  go_loopw [6] (fun i wr => ∃ k : Nat, k ≤ 256 ∧ i = .int .i64 k ∧ Kp (Bky wr G (allB.take k ++ List.replicate (256 - k) 0)) ∧ Kp (Below w.heap.size w wr)) (fun i _ => 256 - (intOf i).toNat)
  case atStart => exact ⟨0, by omega, rfl, ⟨by rw [List.take_zero, List.nil_append]; exact HZ.it⟩, HB0⟩
  case round =>
    obtain ⟨k, hk, rfl, HK, HB⟩ := hrel
    by_cases hk2 : k < 256
    · have hd : decide ((k : Int) < 256) = true := by simp; omega
      have hcg := HK.it.cell (j := k) (by rw [List.length_append, List.length_take, List.length_replicate, allB_len]; omega)
      have hfz := HK.it.free k
      generalize byte (allB.take k ++ List.replicate (256 - k) 0) k = old at hcg
      obtain ⟨B, hBe⟩ : ∃ B, B = UInt8.ofNat k := ⟨_, rfl⟩
      have hwr : IntKind.u8.wrap (k : Int) = (B.toNat : Int) := by rw [hBe, u8_wrap, Nat.mod_eq_of_lt hk2]
      have HK2 : Kp (Bky (wr.setCell ⟨G, k, none⟩ (.int .u8 (B.toNat : Int))) G (allB.take (k + 1) ++ List.replicate (256 - (k + 1)) 0)) := ⟨by
        have h9 := HK.it.store k B
        have e1 : allB.take (k + 1) = allB.take k ++ [B] := by rw [allB_take hk2, hBe]
        rw [List.set_append_right _ _ (by rw [List.length_take]; omega), List.length_take, allB_len, Nat.min_eq_left (by omega), Nat.sub_self, show 256 - k = (256 - (k + 1)) + 1 by omega, List.replicate_succ, List.set_cons_zero] at h9
        rw [e1, List.append_assoc]
        exact h9⟩
      have HGN : Kp (w.heap.size ≤ G) := ⟨by rw [HG.it]; exact Nat.le_refl _⟩
      clear hBe
      go_wp2
      go_roundw
      case rel => exact ⟨k + 1, by omega, by go_num, HK2, ⟨HB.it.setCell HGN.it _⟩⟩
      case measure => simp [intOf]; omega
    · obtain rfl : k = 256 := by omega
      have HE : Kp (Bky wr w.heap.size allB) := ⟨by
        have h9 := HK.it
        rw [List.take_of_length_le (by rw [allB_len]; omega), Nat.sub_self, List.replicate_zero, List.append_nil, HG.it] at h9
        exact h9⟩
      go_wp2
      go_ret
      rw [HG.it]
      exact ⟨rfl, HE.it, HB.it⟩

/-- copy(l[1:i+1], l[:i]) of a block that is known whole. -/
theorem copy_front {w : World} {g i : Nat} {l : List UInt8} (hl : l.length = 256) (hi : i < 256) (hg : Bky w g l) :
    ∃ w', (∀ ty, (Builtin.copy_ #[29, 29] ty #[.slice (some ⟨g, 1, none⟩) i 255, .slice (some ⟨g, 0, none⟩) i 256]).run Try.prog w = .ok (.int .i64 i) w') ∧ Bky w' g (l.getD 0 0 :: (l.take i ++ l.drop (i + 1))) ∧ w.grownBy w' (some g) := by
  have hlen : (l.take i).length = i := by rw [List.length_take]; omega
  have hbl : (bvs (l.take i)).length = i := by rw [bvs_len, hlen]
  refine ⟨w.setRow g ((bvs l).toArray.toList.take 1 ++ bvs (l.take i) ++ (bvs l).toArray.toList.drop (1 + (bvs (l.take i)).length)).toArray, ?_, ?_, ?_⟩
  · intro ty
    have := run_copy_row (P := Try.prog) w 29 29 ty 5 g 1 i 255 ⟨g, 0, none⟩ i 256 (bvs l).toArray 5 (bvs (l.take i)) Try.underlying29 (by kernel_rfl) hg (by rw [hbl]; exact (Nat.min_self i).symm) (fun j v hj => by
      have hj1 : j < i := by have := (List.getElem?_eq_some_iff.1 hj).1; omega
      rw [add_plain, Nat.zero_add, hg.cell (by omega), ← hj, bvs_get _ (by omega)]
      congr 2
      unfold byte
      congr 2
      rw [List.getD_eq_getElem?_getD, List.getD_eq_getElem?_getD, List.getElem?_take_of_lt hj1]) (by rw [hbl]; simp [bvs_len]; omega) (fun v hv => by
      unfold bvs at hv
      obtain ⟨b, _, rfl⟩ := List.mem_map.1 hv
      rfl)
    rw [this, hbl]
    rfl
  · unfold Bky
    rw [setRow_heap w g (bvs l).toArray _ 5 _ hg, hbl]
    congr 3
    cases l with
    | nil => simp at hl
    | cons x l =>
      show (bvs (x :: l)).take 1 ++ bvs ((x :: l).take i) ++ (bvs (x :: l)).drop (1 + i) = bvs (x :: ((x :: l).take i ++ (x :: l).drop (i + 1)))
      have e1 : ∀ (k : Nat) (m : List UInt8), (bvs m).drop k = bvs (m.drop k) := fun k m => (List.map_drop).symm
      rw [e1, Nat.add_comm 1 i, List.append_assoc, ← bvs_app]
      rfl
  · refine ⟨rfl, rfl, rfl, by simp [World.setRow], fun k hk hne => setRow_other w g k _ ?_⟩
    intro h; exact hne (by rw [h])
set_option maxRecDepth 100000 in
theorem front_any (g i : Nat) (l : List UInt8) (w : World) (hl : l.length = 256) (hi : i < 256) (hg : Bky w g l) :
    Calls Try.prog 45 #[.slice (some ⟨g, 0, none⟩) 256 256, .int .i64 i] w fun e w' => e = .returned (.tuple #[]) ∧ Bky w' g (moveF l i) ∧ w.grownBy w' (some g) := by
  have hcell := hg.cell (j := i) (by omega)
  obtain ⟨W1, hcp, hB1, hK1⟩ := copy_front (w := w.drew) hl hi hg
  have B1 := Kp.mk hB1
  have K1 := Kp.mk hK1
  obtain ⟨X, hX⟩ : ∃ X, X = l.getD i 0 := ⟨_, rfl⟩
  have hc2 : w.cell? ⟨g, i, none⟩ = some (.int .u8 (X.toNat : Int)) := by rw [hcell, hX]; rfl
  have hcg := hB1.cell (j := 0) (by simp)
  have hfz := hB1.free 0
  generalize byte (l.getD 0 0 :: (l.take i ++ l.drop (i + 1))) 0 = old at hcg
  have HX := Kp.mk hX
  clear hB1 hK1 hcell hX
  go_enter Try.func45, Try.ntmps45
  go_wp2
  go_region
  all_goals
    go_wp2
    refine bodyPost_end (results_none rfl _ _ _) rfl ?_
    refine ⟨rfl, ?_, ?_⟩
    · have h9 := B1.it.store 0 X
      rw [List.set_cons_zero, HX.it] at h9
      rw [HX.it]
      exact h9
    · refine grown_set ?_ _ _
      exact ⟨K1.it.os, K1.it.tape, K1.it.output, K1.it.size, K1.it.block⟩

/-- The list behind the first k bytes, and where these stood. -/
def stF (bs : List UInt8) : Nat → List UInt8
  | 0 => allB
  | k + 1 => moveF (stF bs k) ((stF bs k).idxOf (bs.getD k 0))
def frontP (bs : List UInt8) : List UInt8 := (List.range bs.length).map fun k => UInt8.ofNat ((stF bs k).idxOf (bs.getD k 0))
/-- The list behind the first k places, and the bytes. -/
def stB (bs : List UInt8) : Nat → List UInt8
  | 0 => allB
  | k + 1 => moveF (stB bs k) (bs.getD k 0).toNat
def backP (bs : List UInt8) : List UInt8 := (List.range bs.length).map fun k => (stB bs k).getD (bs.getD k 0).toNat 0
theorem mem_allB (x : UInt8) : x ∈ allB := List.mem_map.2 ⟨x.toNat, List.mem_range.2 x.toNat_lt, by simp⟩
theorem stF_perm (bs : List UInt8) : ∀ k, (stF bs k).Perm allB
  | 0 => .refl _
  | k + 1 => (moveF_perm (List.idxOf_lt_length_of_mem ((stF_perm bs k).mem_iff.2 (mem_allB _)))).trans (stF_perm bs k)
theorem stF_len (bs : List UInt8) (k : Nat) : (stF bs k).length = 256 := by rw [(stF_perm bs k).length_eq, allB_len]
theorem stF_mem (bs : List UInt8) (k : Nat) (x : UInt8) : x ∈ stF bs k := (stF_perm bs k).mem_iff.2 (mem_allB x)
theorem stF_lt (bs : List UInt8) (k : Nat) (x : UInt8) : (stF bs k).idxOf x < 256 := by have := List.idxOf_lt_length_of_mem (stF_mem bs k x); rwa [stF_len] at this
theorem stB_perm (bs : List UInt8) : ∀ k, (stB bs k).Perm allB
  | 0 => .refl _
  | k + 1 => (moveF_perm (by rw [(stB_perm bs k).length_eq, allB_len]; exact UInt8.toNat_lt _)).trans (stB_perm bs k)
theorem stB_len (bs : List UInt8) (k : Nat) : (stB bs k).length = 256 := by rw [(stB_perm bs k).length_eq, allB_len]
theorem OwnB.kept {W W' : World} {base : Nat} {v : Value} {xs : List UInt8} {r : Option Nat} (h : OwnB W base v xs) (hg : W.grownBy W' r) (hr : v.ownBlock ≠ r ∨ v.ownBlock = none) : OwnB W' base v xs := by
  refine World.ownsRow.kept h hg ?_
  rcases hr with hr | hr
  · cases r with
    | none => cases hv : v.ownBlock <;> simp
    | some k => cases hv : v.ownBlock with
      | none => simp
      | some b => simp; rintro rfl; exact hr hv
  · rw [hr]; simp
theorem OwnB.past {W : World} {base G : Nat} {v : Value} {xs : List UInt8} (h : OwnB W base v xs) (hG : G < base) : v.ownBlock ≠ some G := fun h9 => by have := h.base_le G h9; omega
theorem frontP_take {bs : List UInt8} {k : Nat} (h : k < bs.length) : (frontP bs).take (k + 1) = (frontP bs).take k ++ [UInt8.ofNat ((stF bs k).idxOf (bs.getD k 0))] := by
  have h1 : k < (frontP bs).length := by simp [frontP]; exact h
  have h2 : (frontP bs)[k] = UInt8.ofNat ((stF bs k).idxOf (bs.getD k 0)) := by simp [frontP]
  rw [List.take_succ_eq_append_getElem h1, h2]
theorem frontP_len (bs : List UInt8) : (frontP bs).length = bs.length := by simp [frontP]
theorem backP_take {bs : List UInt8} {k : Nat} (h : k < bs.length) : (backP bs).take (k + 1) = (backP bs).take k ++ [(stB bs k).getD (bs.getD k 0).toNat 0] := by
  have h1 : k < (backP bs).length := by simp [backP]; exact h
  have h2 : (backP bs)[k] = (stB bs k).getD (bs.getD k 0).toNat 0 := by simp [backP]
  rw [List.take_succ_eq_append_getElem h1, h2]
theorem backP_len (bs : List UInt8) : (backP bs).length = bs.length := by simp [backP]
set_option maxRecDepth 100000 in
set_option maxHeartbeats 4000000 in
theorem Front_any (A : Option Addr) (n c : Nat) (bs : List UInt8) (w : World) (h : Rb w A n bs) (hn : n ≤ 1000000) :
    Calls Try.prog 23 #[.slice A n c] w fun e w' => ∃ v, e = .returned v ∧ OwnB w' w.heap.size v (frontP bs) ∧ Below w.heap.size w w' := by
  have H := Kp.mk h
  have HL := Kp.mk h.len
  have hmk := make_bytes (n : Int) n rfl (by omega)
  have HLI := Kp.mk (list_any w)
  obtain ⟨G, hG⟩ : ∃ G, G = w.heap.size := ⟨_, rfl⟩
  have HG := Kp.mk hG
  rw [← hG] at HLI ⊢
  clear h hG
  go_enter Try.func23, Try.ntmps23
  go_wp2_with fail
  go_at_call 43
  refine HLI.it.mono ?_
  rintro e w1 ⟨rfl, hk1, hb1⟩
  clear HLI
  have Z1 : Kp (G + 1 ≤ w1.heap.size) := ⟨hk1.lt⟩
  have O2 : Kp (OwnB (w1.alloc (.cells (madeCells #[.int .u8 0] n) 5)) (G + 1) (.slice (some ⟨w1.heap.size, 0, none⟩) 0 n) []) := ⟨(ownB_made w1 _ _ (by unfold maxLen; omega) (made_size n)).relax Z1.it⟩
  have B2 : Kp (Below G w (w1.alloc (.cells (madeCells #[.int .u8 0] n) 5))) := ⟨hb1.alloc (by have := Z1.it; omega) _⟩
  have K2 : Kp (Bky (w1.alloc (.cells (madeCells #[.int .u8 0] n) 5)) G allB) := ⟨blk_old _ hk1⟩
  clear hk1 hb1
  go_wp2_with fail
  go_loopw [4, 14] (fun v i wr => ∃ (k : Nat) (A4 : Option Addr) (c4 : Nat), k ≤ n ∧ i = .int .i64 k ∧ v = .slice A4 k c4 ∧ Kp (OwnB wr (G + 1) (.slice A4 k c4) ((frontP bs).take k)) ∧ Kp (Bky wr G (stF bs k)) ∧ Kp (Below G w wr)) (fun _ i _ => n - (intOf i).toNat)
  case atStart => exact ⟨0, _, n, by omega, rfl, rfl, O2, K2, B2⟩
  case round =>
    obtain ⟨k, A4, c4, hk, rfl, rfl, HO, HK, HB⟩ := hrel
    by_cases hkn : k < n
    · have hd : decide ((k : Int) < (n : Int)) = true := by simp; omega
      obtain ⟨b, o, hA, hlt, hc0⟩ := H.it.cells (by omega)
      have HB1 : Kp (Below w.heap.size w wr) := ⟨by rw [← HG.it]; exact HB.it⟩
      have hcell := (HB1.it.cell (p := ⟨b, o + k, none⟩) hlt).trans (hc0 k hkn)
      cases hA
      clear hc0 hlt
      have HT := Kp.mk (frontP_take (bs := bs) (k := k) (by rw [HL.it]; exact hkn))
      have HS : Kp (stF bs (k + 1) = moveF (stF bs k) ((stF bs k).idxOf (bs.getD k 0))) := ⟨rfl⟩
      have HLL := Kp.mk (stF_len bs k)
      have hI := stF_lt bs k (bs.getD k 0)
      have hbx : byte bs k = ((bs.getD k 0).toNat : Int) := rfl
      have HM := Kp.mk (stF_mem bs k (bs.getD k 0))
      rw [hbx] at hcell
      obtain ⟨X, hX⟩ : ∃ X, X = bs.getD k 0 := ⟨_, rfl⟩
      rw [← hX] at hcell HT HS HM hI
      obtain ⟨L, hL⟩ : ∃ L, L = stF bs k := ⟨_, rfl⟩
      rw [← hL] at HT HS HM HLL HK hI
      have HIX : Kp (Calls Try.prog 44 #[.slice (some ⟨G, 0, none⟩) 256 256, .int .u8 (X.toNat : Int)] wr fun e w' => e = .returned (.int .i64 ((L.idxOf X : Nat) : Int)) ∧ w' = wr) := ⟨index_any _ _ _ L X wr (by have h9 := HK.it.rb (by rw [HLL.it]; omega); rwa [HLL.it] at h9) HM.it⟩
      obtain ⟨I, hIe⟩ : ∃ I, I = L.idxOf X := ⟨_, rfl⟩
      rw [← hIe] at HT HS HIX hI
      clear hX hL hIe hbx HM
      obtain ⟨CB, hCB⟩ : ∃ CB, CB = UInt8.ofNat I := ⟨_, rfl⟩
      have hwc : IntKind.u8.wrap (I : Int) = (CB.toNat : Int) := by rw [hCB, u8_wrap, Nat.mod_eq_of_lt hI]
      rw [← hCB] at HT
      clear hCB
      have HPL : Kp (((frontP bs).take k).length + 1 ≤ 140737488355328) := ⟨by rw [List.length_take, frontP_len, HL.it]; omega⟩
      have HZ : Kp (G + 1 ≤ wr.heap.size) := ⟨HK.it.lt⟩
      go_wp2_with fail
      go_at_call 44
      refine HIX.it.mono ?_
      rintro e w' ⟨rfl, hw⟩
      subst hw
      clear HIX
      go_wp2_with (refine app_b1 rfl (.tmp 21) (.tmp 24) rfl (G + 1) _ _ _ CB rfl rfl rfl HO.it HZ.it HPL.it ?_; intro v4 w4 ho4 hg4; have O4 := Kp.mk ho4; have G4 : Kp (World.grownBy _ w4 (Value.slice A4 k c4).ownBlock) := ⟨hg4⟩; clear ho4 hg4)
      have K4 : Kp (Bky w4 G L) := ⟨HK.it.kept G4.it fun h9 => HO.it.past (Nat.lt_succ_self G) h9.symm⟩
      have B4 : Kp (Below G w w4) := ⟨below_ownB HB.it (Nat.le_of_succ_le HZ.it) HO.it (Nat.le_succ G) G4.it⟩
      refine (front_any G I L w4 HLL.it hI K4.it).mono ?_
      rintro e w5 ⟨rfl, hk5, hg5⟩
      have O5 : Kp (OwnB w5 (G + 1) v4 ((frontP bs).take (k + 1))) := ⟨by rw [HT.it]; exact O4.it.kept hg5 (.inl (O4.it.past (Nat.lt_succ_self G)))⟩
      have K5 : Kp (Bky w5 G (stF bs (k + 1))) := ⟨by rw [HS.it]; exact hk5⟩
      have B5 : Kp (Below G w w5) := ⟨B4.it.grown hg5 (Nat.le_of_lt K4.it.lt) fun j hj => by cases hj; exact Nat.le_refl _⟩
      obtain ⟨A5, c5, hv5, _, _, _⟩ := O5.it.form (by rw [List.length_take, frontP_len, HL.it]; omega)
      rw [List.length_take, frontP_len, HL.it, Nat.min_eq_left (by omega)] at hv5
      subst hv5
      clear hk5 hg5 O4 G4 K4 B4 HO HK HB
      go_wp2
      go_roundw
      case rel => exact ⟨k + 1, A5, c5, by omega, by go_num, rfl, O5, K5, B5⟩
      case measure => simp [intOf]; omega
    · obtain rfl : k = n := by omega
      have hd : decide ((k : Int) < (k : Int)) = false := by simp
      have HE : Kp (OwnB wr G (.slice A4 k c4) (frontP bs)) := ⟨by
        have h9 := HO.it
        rw [List.take_of_length_le (by rw [frontP_len, HL.it]; omega)] at h9
        exact h9.relax (Nat.le_succ G)⟩
      clear HO
      go_wp2
      go_ret
      exact ⟨_, rfl, HE.it, HB.it⟩
set_option maxRecDepth 100000 in
set_option maxHeartbeats 4000000 in
theorem Back_any (A : Option Addr) (n c : Nat) (bs : List UInt8) (w : World) (h : Rb w A n bs) (hn : n ≤ 1000000) :
    Calls Try.prog 24 #[.slice A n c] w fun e w' => ∃ v, e = .returned v ∧ OwnB w' w.heap.size v (backP bs) ∧ Below w.heap.size w w' := by
  have H := Kp.mk h
  have HL := Kp.mk h.len
  have hmk := make_bytes (n : Int) n rfl (by omega)
  have HLI := Kp.mk (list_any w)
  obtain ⟨G, hG⟩ : ∃ G, G = w.heap.size := ⟨_, rfl⟩
  have HG := Kp.mk hG
  rw [← hG] at HLI ⊢
  clear h hG
  go_enter Try.func24, Try.ntmps24
  go_wp2_with fail
  go_at_call 43
  refine HLI.it.mono ?_
  rintro e w1 ⟨rfl, hk1, hb1⟩
  clear HLI
  have Z1 : Kp (G + 1 ≤ w1.heap.size) := ⟨hk1.lt⟩
  have O2 : Kp (OwnB (w1.alloc (.cells (madeCells #[.int .u8 0] n) 5)) (G + 1) (.slice (some ⟨w1.heap.size, 0, none⟩) 0 n) []) := ⟨(ownB_made w1 _ _ (by unfold maxLen; omega) (made_size n)).relax Z1.it⟩
  have B2 : Kp (Below G w (w1.alloc (.cells (madeCells #[.int .u8 0] n) 5))) := ⟨hb1.alloc (by have := Z1.it; omega) _⟩
  have K2 : Kp (Bky (w1.alloc (.cells (madeCells #[.int .u8 0] n) 5)) G allB) := ⟨blk_old _ hk1⟩
  clear hk1 hb1
  go_wp2_with fail
  go_loopw [4, 13] (fun v i wr => ∃ (k : Nat) (A4 : Option Addr) (c4 : Nat), k ≤ n ∧ i = .int .i64 k ∧ v = .slice A4 k c4 ∧ Kp (OwnB wr (G + 1) (.slice A4 k c4) ((backP bs).take k)) ∧ Kp (Bky wr G (stB bs k)) ∧ Kp (Below G w wr)) (fun _ i _ => n - (intOf i).toNat)
  case atStart => exact ⟨0, _, n, by omega, rfl, rfl, O2, K2, B2⟩
  case round =>
    obtain ⟨k, A4, c4, hk, rfl, rfl, HO, HK, HB⟩ := hrel
    by_cases hkn : k < n
    · have hd : decide ((k : Int) < (n : Int)) = true := by simp; omega
      obtain ⟨b, o, hA, hlt, hc0⟩ := H.it.cells (by omega)
      have HB1 : Kp (Below w.heap.size w wr) := ⟨by rw [← HG.it]; exact HB.it⟩
      have hcell := (HB1.it.cell (p := ⟨b, o + k, none⟩) hlt).trans (hc0 k hkn)
      cases hA
      clear hc0 hlt
      have HT := Kp.mk (backP_take (bs := bs) (k := k) (by rw [HL.it]; exact hkn))
      have HS : Kp (stB bs (k + 1) = moveF (stB bs k) (bs.getD k 0).toNat) := ⟨rfl⟩
      have HLL := Kp.mk (stB_len bs k)
      have hI : (bs.getD k 0).toNat < 256 := UInt8.toNat_lt _
      have hbx : byte bs k = (((bs.getD k 0).toNat : Nat) : Int) := rfl
      rw [hbx] at hcell
      obtain ⟨I, hIe⟩ : ∃ I, I = (bs.getD k 0).toNat := ⟨_, rfl⟩
      rw [← hIe] at hcell HT HS hI
      obtain ⟨L, hL⟩ : ∃ L, L = stB bs k := ⟨_, rfl⟩
      rw [← hL] at HT HS HLL HK
      have hcl := HK.it.cell (j := I) (by rw [HLL.it]; exact hI)
      have hby : byte L I = ((L.getD I 0).toNat : Int) := rfl
      rw [hby] at hcl
      obtain ⟨CB, hCB⟩ : ∃ CB, CB = L.getD I 0 := ⟨_, rfl⟩
      rw [← hCB] at HT hcl
      have hwi : wrap64 (I : Int) = (I : Int) := by unfold wrap64; omega
      clear hIe hL hbx hby hCB
      have HPL : Kp (((backP bs).take k).length + 1 ≤ 140737488355328) := ⟨by rw [List.length_take, backP_len, HL.it]; omega⟩
      have HZ : Kp (G + 1 ≤ wr.heap.size) := ⟨HK.it.lt⟩
      go_wp2_with (refine app_b1 rfl (.tmp 17) (.tmp 22) rfl (G + 1) _ _ _ CB rfl rfl rfl HO.it HZ.it HPL.it ?_; intro v4 w4 ho4 hg4; have O4 := Kp.mk ho4; have G4 : Kp (World.grownBy _ w4 (Value.slice A4 k c4).ownBlock) := ⟨hg4⟩; clear ho4 hg4)
      have K4 : Kp (Bky w4 G L) := ⟨HK.it.kept G4.it fun h9 => HO.it.past (Nat.lt_succ_self G) h9.symm⟩
      have B4 : Kp (Below G w w4) := ⟨below_ownB HB.it (Nat.le_of_succ_le HZ.it) HO.it (Nat.le_succ G) G4.it⟩
      refine (front_any G I L w4 HLL.it hI K4.it).mono ?_
      rintro e w5 ⟨rfl, hk5, hg5⟩
      have O5 : Kp (OwnB w5 (G + 1) v4 ((backP bs).take (k + 1))) := ⟨by rw [HT.it]; exact O4.it.kept hg5 (.inl (O4.it.past (Nat.lt_succ_self G)))⟩
      have K5 : Kp (Bky w5 G (stB bs (k + 1))) := ⟨by rw [HS.it]; exact hk5⟩
      have B5 : Kp (Below G w w5) := ⟨B4.it.grown hg5 (Nat.le_of_lt K4.it.lt) fun j hj => by cases hj; exact Nat.le_refl _⟩
      obtain ⟨A5, c5, hv5, _, _, _⟩ := O5.it.form (by rw [List.length_take, backP_len, HL.it]; omega)
      rw [List.length_take, backP_len, HL.it, Nat.min_eq_left (by omega)] at hv5
      subst hv5
      clear hk5 hg5 O4 G4 K4 B4 HO HK HB
      go_wp2
      go_roundw
      case rel => exact ⟨k + 1, A5, c5, by omega, by go_num, rfl, O5, K5, B5⟩
      case measure => simp [intOf]; omega
    · obtain rfl : k = n := by omega
      have hd : decide ((k : Int) < (k : Int)) = false := by simp
      have HE : Kp (OwnB wr G (.slice A4 k c4) (backP bs)) := ⟨by
        have h9 := HO.it
        rw [List.take_of_length_le (by rw [backP_len, HL.it]; omega)] at h9
        exact h9.relax (Nat.le_succ G)⟩
      clear HO
      go_wp2
      go_ret
      exact ⟨_, rfl, HE.it, HB.it⟩
end Go.Proofs.Ytnkgagbobihnnaa
