/-
  One sorting of order's.
-/
import Derived.Test.YtnkgagbobihnnaaOrf
namespace Go.Proofs.Ytnkgagbobihnnaa
open Go Go.RowKit Go.Shelf
open Go.Sort hiding Below

/-- The ranks stand as the first k bytes do. -/
def RKI (rk : List Int) (b : List UInt8) (k : Nat) : Prop := ∀ i j, i < b.length → j < b.length → (rd rk i < rd rk j ↔ K b k i < K b k j)
theorem cfO_olt {rk : List Int} {b : List UInt8} {k : Nat} (h : RKI rk b k) {x y : Nat} (hx : x < b.length) (hy : y < b.length) : decide (cfO rk b.length k x y < 0) = olt b (k + k) x y := by
  have hp : 0 < b.length := by omega
  have h1 := h x y hx hy
  have h2 := h y x hy hx
  have h3 := h ((x + k) % b.length) ((y + k) % b.length) (Nat.mod_lt _ hp) (Nat.mod_lt _ hp)
  have h4 := h ((y + k) % b.length) ((x + k) % b.length) (Nat.mod_lt _ hp) (Nat.mod_lt _ hp)
  rw [K_mod, K_mod] at h3 h4
  have h5 := K_lex b k k x y
  have h6 := K_lex b k k y x
  rw [Bool.eq_iff_iff, decide_eq_true_eq, olt_iff]
  unfold cfO sv
  split
  · omega
  · split
    · omega
    · omega
theorem heap_sortedO {α : Type} [Inhabited α] {enc : α → Value} {w : World} {g n : Nat} {os : Array Obj} {cur : Array Value} {e : TypeId} {fr : Nat × Nat} (F : Array α) (hb : w.heap[g]? = some (.cells cur e fr)) :
    (Go.Sort.grow (putRow enc (Sort.ahead w n) g 0 F) os).heap[g]? = some (.cells (putCells enc 0 F cur) e fr) := by
  have hg : g < w.heap.size := (Array.getElem?_eq_some_iff.1 hb).1
  rw [heap_grow_old _ _ (by simpa using hg)]
  simp [putRow, mapBlock, Sort.ahead, Array.getElem?_modify, hb, onCells]
theorem grownBy_sortedO {α : Type} [Inhabited α] {enc : α → Value} {w : World} {g n : Nat} {os : Array Obj} (F : Array α) : w.grownBy (Go.Sort.grow (putRow enc (Sort.ahead w n) g 0 F) os) (some g) := by
  refine ⟨rfl, rfl, rfl, by simp, fun k hk hne => ?_⟩
  rw [heap_grow_old _ _ (by simpa using hk)]
  have : g ≠ k := fun e => hne (by rw [e])
  simp [putRow, mapBlock, Sort.ahead, Array.getElem?_modify, this]
theorem intsO_rd {b : List Nat} {j : Nat} (h : j < b.length) : rd (ints b) j = (b.getD j 0 : Nat) := by
  rw [rd_lt (by rw [ints_len]; exact h), List.getD_eq_getElem?_getD, List.getElem?_eq_getElem h]
  simp [ints]
theorem row_put {n : Nat} (F : Array (Fin (n + 1))) (cur : Array Value) (h : F.size = cur.size) : putCells (fun x : Fin (n + 1) => Value.int .i64 ((x.val : Nat) : Int)) 0 F cur = row (ints (F.toList.map Fin.val)) := by
  apply Array.ext
  · simp [putCells, row, ints, h]
  · intro i h1 h2
    have hi : i < F.size := by simpa [putCells, h] using h1
    simp [putCells, row, ints, hi]
theorem sort_o {w : World} {Nn R Kb S rb k ab m : Nat} {rk : List Int} {b : List UInt8} {l : List Nat} (h : OM w Nn R Kb S rb b.length k rk) (hr : RKI rk b k) (hm : b.length = m + 1) (hl : l.Perm (List.range b.length)) (ha : Blk w ab (ints l))
    (hne : ab ≠ Nn ∧ ab ≠ R ∧ ab ≠ Kb ∧ ab ≠ S ∧ ab ≠ rb) (hk : k ≤ 100000000) (hn : b.length ≤ 100000000) (hrk : ∀ j, j < b.length → 0 ≤ rd rk j ∧ rd rk j ≤ 1000000000) :
    Calls Try.prog 91 #[.slice (some ⟨ab, 0, none⟩) b.length b.length, .func (.func 90) #[] #[.pointer (some ⟨R, 0, none⟩), .pointer (some ⟨S, 0, none⟩)]] w fun e w' => e = .returned (.tuple #[]) ∧ ∃ l', IsT b (k + k) l' ∧ Blk w' ab (ints l') ∧ w.grownBy w' (some ab) := by
  have hlen : l.length = m + 1 := by rw [hl.length_eq, List.length_range, hm]
  have hlt : ∀ x, x ∈ l → x < m + 1 := fun x hx => by rw [← hm]; exact List.mem_range.1 (hl.mem_iff.1 hx)
  let enc : Fin (m + 1) → Value := fun x => .int .i64 ((x.val : Nat) : Int)
  let dl : List (Fin (m + 1)) := l.pmap (fun x hx => ⟨x, hx⟩) hlt
  have hdl : dl.map Fin.val = l := by
    show (l.pmap _ hlt).map Fin.val = l
    rw [List.map_pmap]
    simp
  have hdn : dl.length = m + 1 := by show (l.pmap _ hlt).length = _; rw [List.length_pmap, hlen]
  let cf : Fin (m + 1) → Fin (m + 1) → Int := fun x y => cfO rk b.length k x.val y.val
  have hcf : ∀ x y, ltOf cf x y = olt b (k + k) x.val y.val := fun x y => cfO_olt hr (by rw [hm]; exact x.isLt) (by rw [hm]; exact y.isLt)
  have hO : SWO (ltOf cf) := ⟨fun x => by rw [hcf]; exact olt_irrefl _ _ _, fun x y z h1 h2 => by rw [hcf] at *; exact olt_trans h1 h2, fun x y z h1 h2 => by
    rw [hcf] at *
    cases h3 : olt b (k + k) x.val z.val
    · rfl
    · exfalso
      have n1 : ¬ olt b (k + k) x.val y.val = true := by rw [h1]; simp
      have n2 : ¬ olt b (k + k) y.val z.val = true := by rw [h2]; simp
      rw [olt_iff] at n1 n2 h3
      omega⟩
  have hT : ∀ x y, ltOf cf x y = false → ltOf cf y x = false → x = y := fun x y h1 h2 => by
    rw [hcf] at *
    by_cases he : x.val = y.val
    · exact Fin.ext he
    · rcases olt_total (b := b) (m := k + k) he with h3 | h3
      · rw [h1] at h3; cases h3
      · rw [h2] at h3; cases h3
  have hcmp : CmpLays1 Try.prog 90 #[.pointer (some ⟨R, 0, none⟩), .pointer (some ⟨S, 0, none⟩)] enc cf ab 0 dl.toArray.size w := by
    refine CmpReads.lays ?_
    intro q os dk _ x y
    have hOM : OM (sortWorld enc w ab 0 q dk os) Nn R Kb S rb b.length k rk := by
      have hg := grownBy_sortedO (enc := enc) (w := w) (g := ab) (n := q) (os := os) dk
      refine h.keep fun i hi => ?_
      have hs : ∀ {i : Nat} {o : Obj}, w.heap[i]? = some o → i < w.heap.size := fun h9 => (Array.getElem?_eq_some_iff.1 h9).1
      obtain ⟨n1, n2, n3, n4, n5⟩ := hne
      rcases hi with rfl | rfl | rfl | rfl | rfl
      · exact hg.block _ (hs h.hN) (by intro e; injection e with e; exact n1 e.symm)
      · exact hg.block _ (hs h.hR) (by intro e; injection e with e; exact n2 e.symm)
      · exact hg.block _ (hs h.hK) (by intro e; injection e with e; exact n3 e.symm)
      · exact hg.block _ (hs h.hS) (by intro e; injection e with e; exact n4 e.symm)
      · exact hg.block _ (hs h.row) (by intro e; injection e with e; exact n5 e.symm)
    exact less_any hOM x.val y.val (by rw [hm]; exact x.isLt) (by rw [hm]; exact y.isLt) hk hn hrk
  have hH : Holds enc w ab 0 dl.toArray := by
    intro j hj
    have hj' : j < l.length := by rw [hlen, ← hdn]; simpa using hj
    refine ⟨?_, ha.free _⟩
    rw [Nat.zero_add, ha.cell (by rw [ints_len]; exact hj'), intsO_rd hj']
    show some (Value.int .i64 _) = some (Value.int .i64 ((dl.toArray[j]!).val : Int))
    have e : (dl.toArray[j]!).val = l.getD j 0 := by
      have hjd : j < dl.length := by rw [hdn, ← hlen]; exact hj'
      have e1 : dl.toArray[j]! = dl[j] := by simp [hjd]
      rw [e1, List.getD_eq_getElem?_getD, ← hdl, List.getElem?_map, List.getElem?_eq_getElem hjd]
      rfl
    rw [e]
  have hcall := Try.slices_SortFunc_total enc (fun _ => rfl) cf hO 90 _ ab 0 b.length dl.toArray w (enters_of Try.func90 (by kernel_rfl) rfl) hcmp hH ha.lt (by simp; omega) hT
  have hsz : dl.toArray.size = b.length := by simp [hdn, hm]
  rw [hsz] at hcall
  refine hcall.mono ?_
  rintro e w' ⟨rfl, q, os, rfl⟩
  refine ⟨rfl, ((dl.mergeSort fun x y => !(ltOf cf) y x).map Fin.val), ⟨?_, ?_⟩, ?_, grownBy_sortedO _⟩
  · refine ((List.mergeSort_perm dl _).map Fin.val).trans ?_
    rw [hdl]
    exact hl
  · have hs := List.pairwise_mergeSort (le := fun x y => !(ltOf cf) y x) (fun x y z h1 h2 => by
      simp only [Bool.not_eq_true'] at *
      exact hO.ntrans _ _ _ h2 h1) (fun x y => by
      cases h1 : ltOf cf y x
      · simp
      · cases h2 : ltOf cf x y
        · simp
        · rw [hcf] at h1 h2; exact (olt_asymm h1 h2).elim) dl
    have hnd : (dl.mergeSort fun x y => !(ltOf cf) y x).Nodup := (List.mergeSort_perm dl _).nodup_iff.2 (by
      have : (dl.map Fin.val).Nodup := by rw [hdl]; exact hl.nodup_iff.2 List.nodup_range
      exact List.Pairwise.of_map Fin.val (fun a b h9 e => h9 (by rw [e])) this)
    rw [List.pairwise_map]
    refine (hs.and hnd).imp ?_
    rintro x y ⟨h1, h2⟩
    have h3 : olt b (k + k) y.val x.val = false := by rw [← hcf]; simpa using h1
    rcases olt_total (b := b) (m := k + k) (i := x.val) (j := y.val) (fun e => h2 (Fin.ext e)) with h4 | h4
    · exact h4
    · rw [h3] at h4; cases h4
  · have h9 := heap_sortedO (enc := enc) (w := w) (g := ab) (n := q) (os := os) ((dl.mergeSort fun x y => !(ltOf cf) y x).toArray) ha
    unfold Blk
    rw [show sortWorld enc w ab 0 q (dl.toArray.toList.mergeSort fun x y => !(ltOf cf) y x).toArray os = Go.Sort.grow (putRow enc (Sort.ahead w q) ab 0 (dl.mergeSort fun x y => !(ltOf cf) y x).toArray) os from rfl, h9]
    rw [show enc = fun x : Fin (m + 1) => Value.int .i64 ((x.val : Nat) : Int) from rfl, row_put _ _ (by simp [row, ints_len, hlen, hdn])]
end Go.Proofs.Ytnkgagbobihnnaa
