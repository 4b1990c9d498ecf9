/-
  slices.SortFunc of pairs by their keys.
-/
import Derived.Test.YtcmkjoepndbicaaHmp
import Derived.Shelf.SlSortCmp.NoneTotal
namespace Go.Proofs.Ytcmkjoepndbicaa
open Go Go.RowKit Go.Shelf
open Go.Sort hiding Below

/-- The comparison. -/
def cfP (x y : Pr) : Int := if ltB x.1 y.1 = true then -1 else if (!(ltB x.1 y.1 || x.1.toList == y.1.toList)) = true then 1 else 0
theorem ltOf_cfP (x y : Pr) : ltOf cfP x y = ltB x.1 y.1 := by
  unfold ltOf cfP
  cases h : ltB x.1 y.1
  · cases h2 : (x.1.toList == y.1.toList) <;> simp
  · simp
theorem ltB_eq (a b : ByteArray) : ltB a b = decide (a.toList < b.toList) := bytesLess_eq _ _
theorem swoP : SWO (ltOf cfP) where
  irrefl x := by rw [ltOf_cfP, ltB_eq]; simp
  trans x y z h1 h2 := by rw [ltOf_cfP, ltB_eq] at *; simp at *; exact List.lt_trans h1 h2
  ntrans x y z h1 h2 := by rw [ltOf_cfP, ltB_eq] at *; simp at *; exact List.le_trans h2 h1
set_option maxHeartbeats 1000000 in
theorem closure49 (x y : Pr) (W : World) : Calls Try.prog 49 #[.agg #[.string x.1, .string x.2], .agg #[.string y.1, .string y.2]] W fun e w' => e = .returned (.int .i64 (cfP x y)) ∧ ∃ q os', w' = grow (W.drewN q) os' := by
  unfold cfP
  cases h : ltB x.1 y.1 with
  | true =>
    have h' : Op.bytesLess x.1.toList y.1.toList = true := h
    go_enter Try.func49, Try.ntmps49
    go_wp2
    go_ret
    exact ⟨rfl, 0, _, by rw [alloc_eq_grow, alloc_eq_grow, grow_grow]; rfl⟩
  | false =>
    have h' : Op.bytesLess x.1.toList y.1.toList = false := h
    cases h2 : (x.1.toList == y.1.toList) with
    | true =>
      go_enter Try.func49, Try.ntmps49
      go_wp2
      go_ret
      exact ⟨rfl, 0, _, by rw [alloc_eq_grow, alloc_eq_grow, grow_grow]; rfl⟩
    | false =>
      go_enter Try.func49, Try.ntmps49
      go_wp2
      go_ret
      exact ⟨rfl, 0, _, by rw [alloc_eq_grow, alloc_eq_grow, grow_grow]; rfl⟩
theorem cmpLays49 (blk off size : Nat) (w : World) : CmpLays Try.prog 49 #[] pcells 2 cfP blk off size w := fun _ _ _ _ x y => closure49 x y _
theorem flatK_pvs (l : List Pr) : (flatK pcells 2 l.toArray).toList = pvs l := by
  apply List.ext_getElem?
  intro t
  by_cases ht : t < l.length * 2
  · obtain ⟨x, hx⟩ : ∃ x, l[t / 2]? = some x := ⟨_, List.getElem?_eq_getElem (by omega)⟩
    have h1 := get_flatK pcells 2 l.toArray t (by simpa using ht)
    have hxl : l.toArray[t / 2]! = x := by simp [getElem!_def, hx]
    rw [hxl] at h1
    have h2 : (flatK pcells 2 l.toArray).toList[t]? = some (flatK pcells 2 l.toArray)[t]! := by
      rw [Array.getElem?_toList, getElem!_def]
      have hlt : t < (flatK pcells 2 l.toArray).size := by simpa using ht
      rw [Array.getElem?_eq_getElem hlt]
    rw [h2, h1]
    obtain ⟨e1, e2⟩ := pvs_get hx
    rcases Nat.mod_two_eq_zero_or_one t with h | h
    · rw [h, show t = t / 2 * 2 by omega, e1]
      rfl
    · rw [h]
      conv => rhs; rw [show t = t / 2 * 2 + 1 by omega, e2]
      rfl
  · rw [List.getElem?_eq_none (by simp; omega), List.getElem?_eq_none (by rw [pvs_len]; omega)]
theorem heap_sortedP {w : World} {g n : Nat} {os : Array Obj} {cur : Array Value} {e : TypeId} {fr : Nat × Nat} (F : Array Value) (hb : w.heap[g]? = some (.cells cur e fr)) :
    (grow (putRow id (Sort.ahead w n) g 0 F) os).heap[g]? = some (.cells (putCells id 0 F cur) e fr) := by
  have hg : g < w.heap.size := (Array.getElem?_eq_some_iff.1 hb).1
  rw [heap_grow_old _ _ (by simpa using hg)]
  simp [putRow, mapBlock, Sort.ahead, Array.getElem?_modify, hb, onCells]
theorem grownBy_sortedP {w : World} {g n : Nat} {os : Array Obj} (F : Array Value) : w.grownBy (grow (putRow id (Sort.ahead w n) g 0 F) os) (some g) := by
  refine ⟨rfl, rfl, rfl, by simp, fun k hk hne => ?_⟩
  rw [heap_grow_old _ _ (by simpa using hk)]
  have : g ≠ k := fun e => hne (by rw [e])
  simp [putRow, mapBlock, Sort.ahead, Array.getElem?_modify, this]
theorem take_putCellsP (cur F : Array Value) (h : F.size ≤ cur.size) : (putCells id 0 F cur).toList.take F.size = F.toList := by
  apply List.ext_getElem?
  intro j
  by_cases hj : j < F.size
  · rw [List.getElem?_take_of_lt hj, Array.getElem?_toList]
    simp [putCells, hj, show j < cur.size by omega]
  · rw [List.getElem?_take_eq_none (by omega), List.getElem?_eq_none (by simp; omega)]
def leP (x y : Pr) : Bool := !ltB y.1 x.1
def keyP (p : Pr) : List UInt8 := p.1.data.toList
theorem keyOf_eq {a b : ByteArray} (h : a.toList = b.toList) : a.data.toList = b.data.toList := by
  have e : ∀ x : ByteArray, x.toList = x.data.toList := fun x => ByteArray.toList_eq x
  rw [← e, ← e, h]
theorem holdsP {w : World} {g : Nat} {cur : Array Value} {e : TypeId} {l : List Pr} (hb : w.heap[g]? = some (.cells cur e (0, 0))) (ht : cur.toList.take (l.length * 2) = pvs l) : HoldsK pcells 2 w g 0 l.toArray := by
  intro j hj
  have hj' : j < l.length * 2 := by simpa using hj
  refine ⟨?_, by simp [World.frozen?, hb]⟩
  have h1 : (cur.toList.take (l.length * 2))[j]? = (flatK pcells 2 l.toArray).toList[j]? := by rw [ht, flatK_pvs]
  rw [List.getElem?_take_of_lt hj'] at h1
  simp only [World.cell?, hb, Nat.zero_add]
  simp only [Option.isSome_none, Bool.false_eq_true, if_false]
  rw [← Array.getElem?_toList, h1, Array.getElem?_toList, getElem!_def, Array.getElem?_eq_getElem hj]
  rfl
theorem sorted_is {l : List Pr} {d' : Array Pr} (hn : (l.map keyP).Nodup) (hp : PermIn 0 l.toArray.size l.toArray d') (hs : SortedIn (ltOf cfP) 0 l.toArray.size d') : d' = (l.mergeSort leP).toArray := by
  obtain ⟨hz, _, hperm⟩ := hp
  have hz' : d'.size = l.length := by simpa using hz
  have hP : d'.toList.Perm l := by
    have h1 := hperm
    simp only [List.size_toArray] at h1
    rw [show l.length = d'.size from hz'.symm] at h1
    have e1 : (d'.extract 0 d'.size).toList = d'.toList := by simp
    have e2 : (l.toArray.extract 0 d'.size).toList = l := by rw [hz']; simp
    rw [e1, e2] at h1
    exact h1
  have hle : ∀ a b, leP a b = true ↔ ¬ b.1.toList < a.1.toList := fun a b => by unfold leP; rw [ltB_eq]; simp
  have h1 : d'.toList.Pairwise (fun a b => leP a b = true) := by
    rw [List.pairwise_iff_getElem]
    intro i j hi hj hij
    have := hs i j (Nat.zero_le _) hij (by simpa [← hz'] using hj)
    rw [ltOf_cfP] at this
    unfold leP
    have g1 : d'[j]! = d'.toList[j] := by simp [getElem!_def, Array.getElem?_eq_getElem (show j < d'.size by simpa using hj)]
    have g2 : d'[i]! = d'.toList[i] := by simp [getElem!_def, Array.getElem?_eq_getElem (show i < d'.size by simpa using hi)]
    rw [g1, g2] at this
    rw [this]
    rfl
  have h2 : (l.mergeSort leP).Pairwise (fun a b => leP a b = true) := List.pairwise_mergeSort (fun a b c h1 h2 => by
    rw [hle] at *
    intro h3
    rcases Decidable.em (b.1.toList < c.1.toList) with _ | _
    all_goals exact absurd (List.not_lt.1 h2) (fun h => by exact absurd h3 (List.not_lt.2 (List.le_trans (List.not_lt.1 h1) h)))) (fun a b => by
    rcases hab : leP a b with _ | _
    · rw [Bool.false_or, hle]
      have h3 : ¬ (leP a b = true) := by rw [hab]; simp
      rw [hle, Decidable.not_not] at h3
      intro h4
      exact List.lt_irrefl _ (List.lt_trans h3 h4)
    · rfl) l
  have h3 : d'.toList = l.mergeSort leP := by
    refine List.Perm.eq_of_pairwise (fun a b ha hb hab hba => ?_) h1 h2 (hP.trans (List.mergeSort_perm _ _).symm)
    have ha' : a ∈ l := hP.subset ha
    have hb' : b ∈ l := (List.mergeSort_perm _ _).subset hb
    rw [hle] at hab hba
    have he : a.1.toList = b.1.toList := List.le_antisymm (List.not_lt.1 hab) (List.not_lt.1 hba)
    have hk : keyP a = keyP b := keyOf_eq he
    obtain ⟨i, hi, rfl⟩ := List.getElem_of_mem ha'
    obtain ⟨j, hj, rfl⟩ := List.getElem_of_mem hb'
    have h5 := List.pairwise_iff_getElem.1 hn
    rcases Nat.lt_trichotomy i j with h | rfl | h
    · exact absurd (by rw [List.getElem_map, List.getElem_map]; exact hk) (h5 i j (by simpa using hi) (by simpa using hj) h)
    · rfl
    · exact absurd (by rw [List.getElem_map, List.getElem_map]; exact hk.symm) (h5 j i (by simpa using hj) (by simpa using hi) h)
  rw [← h3]
theorem sort_p (v : Value) (l : List Pr) (w : World) (base : Nat) (h : OwnP w base v l) (hl : l.length ≤ 100000) (hn : (l.map keyP).Nodup) :
    Calls Try.prog 48 #[v, .func (.func 49) #[] #[]] w fun e w' => e = .returned (.tuple #[]) ∧ OwnP w' base v (l.mergeSort leP) ∧ w.grownBy w' v.ownBlock := by
  have hml : (l.mergeSort leP).length = l.length := List.length_mergeSort _
  have h' := h
  unfold OwnP at h'
  rcases h'.2 with ⟨rfl, h0⟩ | ⟨g, cap, cur, rfl, hb, hh, h1, h2, h3, h4⟩
  · have hx : l = [] := List.eq_nil_of_length_eq_zero h0
    subst hx
    refine (AnyF.slices_SortFunc_none Try.sortPr none 0 (.func (.func 49) #[] #[]) w).mono ?_
    rintro e w' ⟨rfl, rfl⟩
    exact ⟨rfl, by simpa using OwnP.nil w' base, World.grownBy.refl _ _⟩
  · have eg : ∀ args w, (callFunc 49 args).run Try.prog w = .ok (.enter 49 args) w := enters_of Try.func49 (by kernel_rfl) rfl
    have hq := AnyQ.slices_SortFunc Try.sortPr 2 Try.isAgg43 Try.sizeOf43 pcells (fun _ => rfl) (fun x u hu => by unfold pcells at hu; simp at hu; rcases hu with rfl | rfl <;> rfl) cfP swoP 49 #[] g 0 cap l.toArray w eg (cmpLays49 g 0 _ w) (holdsP hh h4) (Array.getElem?_eq_some_iff.1 hh).1 (by simp; omega)
    change Calls Try.prog 48 _ _ _ at hq
    have hsz : l.toArray.size = l.length := by simp
    rw [hsz] at hq
    refine hq.mono ?_
    rintro e w' ⟨rfl, d', n, os, hp, hs, rfl⟩
    have hd := sorted_is hn (by rw [hsz]; exact hp) (by rw [hsz]; exact hs)
    subst hd
    refine ⟨rfl, ?_, grownBy_sortedP _⟩
    unfold OwnP
    rw [hml]
    have hf : (flatK pcells 2 (l.mergeSort leP).toArray).size = l.length * 2 := by simp
    refine ⟨by rw [pvs_len, hml], .inr ⟨g, cap, _, rfl, hb, heap_sortedP _ hh, h1, h2, by simp [putCells, h3], ?_⟩⟩
    have := take_putCellsP cur (flatK pcells 2 (l.mergeSort leP).toArray) (by rw [hf, h3]; omega)
    rw [hf, flatK_pvs] at this
    exact this
end Go.Proofs.Ytcmkjoepndbicaa
