/-
  places: what each node is.
-/
import Derived.Test.YtbfpdahbmdaenaaLong
import Derived.Test.YtbfpdahbmdaenaaPlain
namespace Go.Proofs.Ytbfpdahbmdaenaa
open Go.RowKit

theorem blk_cell {w : World} {b o : Nat} {c : Array Value} {t : TypeId} {f : Nat × Nat} {v : Value} (h : w.heap[b]? = some (.cells c t f)) (hv : c[o]? = some v) : w.cell? ⟨b, o, none⟩ = some v := by simp [World.cell?, h, hv]
theorem blk_free {w : World} {b o : Nat} {c : Array Value} {t : TypeId} (h : w.heap[b]? = some (.cells c t (0, 0))) : w.frozen? ⟨b, o, none⟩ = false := by simp [World.frozen?, h]
theorem blk_set {w : World} {b o : Nat} {c : Array Value} {t : TypeId} {f : Nat × Nat} (v : Value) (h : w.heap[b]? = some (.cells c t f)) : (w.setCell ⟨b, o, none⟩ v).heap[b]? = some (.cells (c.setIfInBounds o v) t f) := by
  simp [World.setCell, Array.getElem?_modify, h]
theorem blk_new (w : World) (o : Obj) : (w.alloc o).heap[w.heap.size]? = some o := by
  show (w.heap.push o)[w.heap.size]? = _
  simp
theorem blk_old {w : World} {b : Nat} {x : Obj} (o : Obj) (h : w.heap[b]? = some x) : (w.alloc o).heap[b]? = some x := by
  rw [Below.heap_alloc _ _ _ (Array.getElem?_eq_some_iff.1 h).1, h]

/-- Where the i-th list begins among all nodes. -/
def tAt (vs ls : List Int) : Nat → Nat | 0 => 0 | 1 => vs.length | _ => vs.length + ls.length

/-- What lies while the nodes are gone through: t of them are done. -/
structure Mem (w wr : World) (P : List (Int × Int)) (s1 s2 : Value) (t : Nat) : Prop where
  below : Below w.heap.size w wr
  size : w.heap.size + 4 ≤ wr.heap.size
  h0 : wr.heap[w.heap.size]? = some (.cells #[s1, s2] 24 (0, 0))
  h1 : wr.heap[w.heap.size + 1]? = some (.cells (arr5 fun _ => 0) 50 (0, 0))
  h2 : wr.heap[w.heap.size + 1 + 1]? = some (.cells (arr5 (val (P.take t))) 50 (0, 0))
  h3 : wr.heap[w.heap.size + 1 + 1 + 1]? = some (.cells #[s1, s2] 22 (0, 0))
  well : well (P.take t)

theorem Mem.step {w wr : World} {P : List (Int × Int)} {s1 s2 : Value} {t m : Nat} {v : Int} (h : Mem w wr P s1 s2 t) (hx : P[t]? = some ((m : Int), v)) (hm : m < 5) (hk : (m : Int) ∉ (P.take t).map (·.1)) :
    Mem w (wr.setCell ⟨w.heap.size + 1 + 1, m, none⟩ (.int .i64 v)) P s1 s2 (t + 1) := by
  refine ⟨h.below.setCell (by simp; omega) _, by have := h.size; simpa [World.setCell] using this, ?_, ?_, ?_, ?_, well_next hx h.well ⟨by omega, by omega, hk⟩⟩
  · rw [Below.heap_setCell _ _ _ _ (by simp; omega)]; exact h.h0
  · rw [Below.heap_setCell _ _ _ _ (by simp)]; exact h.h1
  · rw [blk_set _ h.h2, arr5_set _ _ hm]
    rw [arr5_congr (fun i => (val_next hx hk i).symm)]
  · rw [Below.heap_setCell _ _ _ _ (by simp)]; exact h.h3

/-- What places answers. -/
def Told (w : World) (vs ls : List Int) (e : Ending) (w' : World) : Prop :=
  (∃ p : Int → Int, e = .returned (.tuple #[.agg (arr5 p), .bool (goodB vs ls)]) ∧ (goodB vs ls = true → p = val (prs vs ls))) ∧ Below w.heap.size w w'

theorem res39 (W : World) (B : Nat) (f : Int → Int) (b : Bool) (tmps : Array Value) (hB : W.heap[B]? = some (.cells (arr5 f) 50 (0, 0))) (h2 : tmps[2]? = some (.pointer (some ⟨B, 0, none⟩))) (h3 : tmps[3]? = some (.bool b)) :
    (results Try.f39 tmps).run Try.prog W = .ok (.tuple #[.agg (arr5 f), .bool b]) W := by
  have z0 : W.cell? ⟨B, 0, none⟩ = some (.int .i64 (f 0)) := blk_cell hB rfl
  have z1 : W.cell? ⟨B, 1, none⟩ = some (.int .i64 (f 1)) := blk_cell hB rfl
  have z2 : W.cell? ⟨B, 2, none⟩ = some (.int .i64 (f 2)) := blk_cell hB rfl
  have z3 : W.cell? ⟨B, 3, none⟩ = some (.int .i64 (f 3)) := blk_cell hB rfl
  have z4 : W.cell? ⟨B, 4, none⟩ = some (.int .i64 (f 4)) := blk_cell hB rfl
  simp [results, Try.results39, go_sem, h2, h3, z0, z1, z2, z3, z4, arr5]

set_option maxHeartbeats 1000000 in
theorem places_any (A1 A2 : Option Addr) (n1 c1 n2 c2 : Nat) (vs ls : List Int) (w : World) (h1 : Rd w A1 n1 vs) (h2 : Rd w A2 n2 ls) : Calls Try.prog 39 #[.agg #[.slice A1 n1 c1, .slice A2 n2 c2]] w (Told w vs ls) := by
  have hb1 := h1.bd
  have hb2 := h2.bd
  have KEY : ∀ i, i < 2 → ∃ A n c xs, Kp ((#[Value.slice A1 n1 c1, .slice A2 n2 c2] : Array Value)[i]? = some (.slice A n c)) ∧ Kp (Rd w A n xs) ∧ n * 8 ≤ 140737488351232 ∧
      Kp (∀ k, k < n → (prs vs ls)[tAt vs ls i + k]? = some (rd xs k, 2 - (i : Int))) ∧ Kp (tAt vs ls i + n = tAt vs ls (i + 1)) := by
    intro i hi
    match i, hi with
    | 0, _ => exact ⟨A1, n1, c1, vs, ⟨rfl⟩, ⟨h1⟩, hb1, ⟨fun k hk => by
        have hl : k < vs.length := by rw [h1.len]; exact hk
        simp [prs, tAt, List.getElem?_append, hl, rd_lt hl]⟩, ⟨by simp [tAt, h1.len]⟩⟩
    | 1, _ => exact ⟨A2, n2, c2, ls, ⟨rfl⟩, ⟨h2⟩, hb2, ⟨fun k hk => by
        have hl : k < ls.length := by rw [h2.len]; exact hk
        simp [prs, tAt, hl, rd_lt hl]⟩, ⟨by simp [tAt, h2.len]⟩⟩
  have HPOS : Kp (∀ q ∈ prs vs ls, q.2 = 1 ∨ q.2 = 2) := ⟨fun q hq => prs_pos hq⟩
  have HLEN : Kp (vs.length = n1) := ⟨h1.len⟩
  have HK := Kp.mk KEY
  have HPL := Kp.mk (prs_length vs ls)
  clear KEY h1 h2
  go_enter Try.func39, Try.ntmps39
  go_wp2
  go_loopw [15] (fun i wr => ∃ k : Nat, k ≤ 2 ∧ i = .int .i64 k ∧ Mem w wr (prs vs ls) (.slice A1 n1 c1) (.slice A2 n2 c2) (tAt vs ls k)) (fun i _ => 2 - (intOf i).toNat)
  case atStart =>
    refine ⟨0, by omega, rfl, ⟨?_, by simp, ?_, ?_, ?_, ?_, by simp [tAt, well_nil]⟩⟩
    · exact ((((Below.refl _ _).alloc (Nat.le_refl _) _).alloc (by simp) _).alloc (by simp; omega) _).alloc (by simp; omega) _
    · exact blk_old _ (blk_old _ (blk_old _ (blk_new _ _)))
    · have := blk_old (.cells #[.slice A1 n1 c1, .slice A2 n2 c2] 22) (blk_old (.cells (arr5 fun _ => 0) 50) (blk_new (w.alloc (.cells #[.slice A1 n1 c1, .slice A2 n2 c2] 24)) (.cells (arr5 fun _ => 0) 50)))
      rw [World.size_alloc] at this
      exact this
    · have := blk_old (.cells #[.slice A1 n1 c1, .slice A2 n2 c2] 22) (blk_new ((w.alloc (.cells #[.slice A1 n1 c1, .slice A2 n2 c2] 24)).alloc (.cells (arr5 fun _ => 0) 50)) (.cells (arr5 fun _ => 0) 50))
      rw [World.size_alloc, World.size_alloc] at this
      rw [show arr5 (val (List.take (tAt vs ls 0) (prs vs ls))) = arr5 (fun _ => 0) from arr5_congr (fun m => by simp [tAt, val])]
      exact this
    · have := blk_new (((w.alloc (.cells #[.slice A1 n1 c1, .slice A2 n2 c2] 24)).alloc (.cells (arr5 fun _ => 0) 50)).alloc (.cells (arr5 fun _ => 0) 50)) (.cells #[.slice A1 n1 c1, .slice A2 n2 c2] 22)
      rw [World.size_alloc, World.size_alloc, World.size_alloc] at this
      exact this
  case round =>
    obtain ⟨i, hi, rfl, M⟩ := hrel
    by_cases hi2 : i < 2
    · have hi2b : decide ((i : Int) < 2) = true := by simp; omega
      obtain ⟨A, n, c, xs, hS, hR, hn, hP, hT⟩ := HK.it i hi2
      have hcell := blk_cell M.h3 hS.it
      have MM := Kp.mk M
      clear M
      obtain ⟨wo, rfl⟩ : ∃ wo : World, wo = wr := ⟨_, rfl⟩
      go_wp2
      go_loopw [22, 8] (fun j _ wr => ∃ k : Nat, k ≤ n ∧ j = .int .i64 k ∧ Mem w wr (prs vs ls) (.slice A1 n1 c1) (.slice A2 n2 c2) (tAt vs ls i + k)) (fun j _ _ => n - (intOf j).toNat)
      case atStart => exact ⟨0, by omega, rfl, by simpa using MM.it⟩
      case round =>
        obtain ⟨k, hk, rfl, M⟩ := hrel
        clear MM hcell
        by_cases hkn : k < n
        · obtain ⟨b, o, hA, hlt, hc0⟩ := hR.it.get hkn
          have hPk := hP.it k hkn
          have hcell := (M.below.cell (p := ⟨b, o + k, none⟩) hlt).trans hc0
          cases hA
          have HFALSE : ¬ (0 ≤ rd xs k ∧ rd xs k < 5 ∧ rd xs k ∉ ((prs vs ls).take (tAt vs ls i + k)).map (·.1)) → Kp (goodB vs ls = false) := fun h => ⟨by unfold goodB; rw [well_stop hPk h]; rfl⟩
          have hz0 : wr.cell? ⟨w.heap.size + 1, 0, none⟩ = some (.int .i64 0) := blk_cell M.h1 rfl
          have hz1 : wr.cell? ⟨w.heap.size + 1, 1, none⟩ = some (.int .i64 0) := blk_cell M.h1 rfl
          have hz2 : wr.cell? ⟨w.heap.size + 1, 2, none⟩ = some (.int .i64 0) := blk_cell M.h1 rfl
          have hz3 : wr.cell? ⟨w.heap.size + 1, 3, none⟩ = some (.int .i64 0) := blk_cell M.h1 rfl
          have hz4 : wr.cell? ⟨w.heap.size + 1, 4, none⟩ = some (.int .i64 0) := blk_cell M.h1 rfl
          have hzf : ∀ o, wr.frozen? ⟨w.heap.size + 1, o, none⟩ = false := fun o => blk_free M.h1
          have hz0f := hzf 0
          have hz1f := hzf 1
          have hz2f := hzf 2
          have hz3f := hzf 3
          have hz4f := hzf 4
          by_cases hx0 : rd xs k < 0
          · have HF := HFALSE (by omega)
            have MM := Kp.mk M
            clear HFALSE hPk M hzf
            go_wp2
            refine bodyPost_ret (res39 _ (w.heap.size + 1) (fun _ => 0) false _ (blk_set _ (blk_set _ (blk_set _ (blk_set _ (blk_set _ MM.it.h1))))) rfl rfl) rfl ?_
            exact ⟨⟨fun _ => 0, by rw [HF.it], fun h => absurd h (by rw [HF.it]; simp)⟩, ((((MM.it.below.setCell (by simp) _).setCell (by simp) _).setCell (by simp) _).setCell (by simp) _).setCell (by simp) _⟩
          · by_cases hx5 : 5 ≤ rd xs k
            · have HF := HFALSE (by omega)
              have MM := Kp.mk M
              clear HFALSE hPk M hzf
              go_wp2
              refine bodyPost_ret (res39 _ (w.heap.size + 1) (fun _ => 0) false _ (blk_set _ (blk_set _ (blk_set _ (blk_set _ (blk_set _ MM.it.h1))))) rfl rfl) rfl ?_
              exact ⟨⟨fun _ => 0, by rw [HF.it], fun h => absurd h (by rw [HF.it]; simp)⟩, ((((MM.it.below.setCell (by simp) _).setCell (by simp) _).setCell (by simp) _).setCell (by simp) _).setCell (by simp) _⟩
            · obtain ⟨m, hm⟩ : ∃ m : Nat, rd xs k = m := ⟨(rd xs k).toNat, by omega⟩
              have hm5 : m < 5 := by omega
              have hpc := blk_cell M.h2 (arr5_get _ m hm5)
              have hpf : wr.frozen? ⟨w.heap.size + 1 + 1, m, none⟩ = false := blk_free M.h2
              have hval := val_zero (fun q hq => HPOS.it q (List.mem_of_mem_take hq) : ∀ q ∈ (prs vs ls).take (tAt vs ls i + k), q.2 = 1 ∨ q.2 = 2) m
              obtain ⟨z, hz⟩ : ∃ z, z = val ((prs vs ls).take (tAt vs ls i + k)) m := ⟨_, rfl⟩
              rw [← hz] at hpc hval
              rw [hm] at hcell hPk HFALSE
              have MM := Kp.mk M
              clear hz hx0 hx5 hm hc0 M hzf
              by_cases hzz : z = 0
              · subst hzz
                have hs := Kp.mk (MM.it.step hPk hm5 (hval.1 rfl))
                clear HFALSE hPk hval hz0 hz1 hz2 hz3 hz4 hz0f hz1f hz2f hz3f hz4f
                go_wp2
                go_roundw
                case rel => exact ⟨k + 1, by omega, by go_num, hs.it⟩
                case measure => simp [intOf]; omega
              · have HF := HFALSE (fun h => hzz (hval.2 h.2.2))
                have hzz' : (z != 0) = true := by simpa using hzz
                clear HFALSE hPk hval hzz
                go_wp2
                refine bodyPost_ret (res39 _ (w.heap.size + 1) (fun _ => 0) false _ (blk_set _ (blk_set _ (blk_set _ (blk_set _ (blk_set _ MM.it.h1))))) rfl rfl) rfl ?_
                exact ⟨⟨fun _ => 0, by rw [HF.it], fun h => absurd h (by rw [HF.it]; simp)⟩, ((((MM.it.below.setCell (by simp) _).setCell (by simp) _).setCell (by simp) _).setCell (by simp) _).setCell (by simp) _⟩
        · have hb := M.below
          have MM := Kp.mk M
          have e : Kp (k = n) := ⟨by omega⟩
          clear M
          go_wp2
          go_roundw
          case rel => exact ⟨i + 1, by omega, by go_num, by rw [← hT.it, ← e.it]; exact MM.it⟩
          case measure => simp [intOf]; omega
    · have e : i = 2 := by omega
      subst e
      have ha : (prs vs ls).take (tAt vs ls 2) = prs vs ls := List.take_of_length_le (by rw [HPL.it]; simp [tAt])
      have h2 := M.h2
      have hw2 := M.well
      rw [ha] at h2 hw2
      have HW2 := Kp.mk hw2
      clear ha hw2
      have hA0 := blk_cell (o := 0) M.h0 rfl
      have hq0 := blk_cell h2 (arr5_get _ 0 (by omega))
      have hq1 := blk_cell h2 (arr5_get _ 1 (by omega))
      have hq2 := blk_cell h2 (arr5_get _ 2 (by omega))
      have hq3 := blk_cell h2 (arr5_get _ 3 (by omega))
      have hq4 := blk_cell h2 (arr5_get _ 4 (by omega))
      have hz0 : wr.cell? ⟨w.heap.size + 1, 0, none⟩ = some (.int .i64 0) := blk_cell M.h1 rfl
      have hz1 : wr.cell? ⟨w.heap.size + 1, 1, none⟩ = some (.int .i64 0) := blk_cell M.h1 rfl
      have hz2 : wr.cell? ⟨w.heap.size + 1, 2, none⟩ = some (.int .i64 0) := blk_cell M.h1 rfl
      have hz3 : wr.cell? ⟨w.heap.size + 1, 3, none⟩ = some (.int .i64 0) := blk_cell M.h1 rfl
      have hz4 : wr.cell? ⟨w.heap.size + 1, 4, none⟩ = some (.int .i64 0) := blk_cell M.h1 rfl
      have hz0f : wr.frozen? ⟨w.heap.size + 1, 0, none⟩ = false := blk_free M.h1
      have hz1f : wr.frozen? ⟨w.heap.size + 1, 1, none⟩ = false := blk_free M.h1
      have hz2f : wr.frozen? ⟨w.heap.size + 1, 2, none⟩ = false := blk_free M.h1
      have hz3f : wr.frozen? ⟨w.heap.size + 1, 3, none⟩ = false := blk_free M.h1
      have hz4f : wr.frozen? ⟨w.heap.size + 1, 4, none⟩ = false := blk_free M.h1
      go_wp2
      go_region
      go_wp2
      have hg : goodB vs ls = decide (0 < n1) := by
        unfold goodB wellB
        rw [decide_eq_true HW2.it, HLEN.it]; rfl
      refine bodyPost_ret (res39 _ (w.heap.size + 1) (val (prs vs ls)) (decide (0 < n1)) _ ?_ rfl (by simp)) rfl ?_
      · exact blk_set _ (blk_set _ (blk_set _ (blk_set _ (blk_set _ M.h1))))
      · rw [← hg]
        exact ⟨⟨_, rfl, fun _ => rfl⟩, below_drewN (((((M.below.setCell (by simp) _).setCell (by simp) _).setCell (by simp) _).setCell (by simp) _).setCell (by simp) _) 1⟩

end Go.Proofs.Ytbfpdahbmdaenaa
