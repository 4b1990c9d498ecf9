/-
  Of one term each part has one owner; what is done never goes back: plain.
-/
import Derived.Test.YtemnhmnompehoaaRName
import Derived.Test.YtemnhmnompehoaaList
namespace Go.Proofs.Ytemnhmnompehoaa
open Go Go.RowKit

/-- No two groups have one name; each name is short. -/
def Names (l : List Gp) : Prop := (∀ x ∈ l, x.name.size ≤ 8) ∧ (l.map (·.name)).Nodup
theorem names_inj : ∀ {l : List Gp}, (l.map (·.name)).Nodup → ∀ {x y : Gp}, x ∈ l → y ∈ l → x.name = y.name → x = y
  | [], _, x, y, hx, _, _ => by cases hx
  | a :: l, h, x, y, hx, hy, e => by
    rw [List.map_cons, List.nodup_cons] at h
    rcases List.mem_cons.1 hx with rfl | hx
    · rcases List.mem_cons.1 hy with rfl | hy
      · rfl
      · exact absurd (List.mem_map.2 ⟨y, hy, e.symm⟩) h.1
    · rcases List.mem_cons.1 hy with e2 | hy
      · exact absurd (List.mem_map.2 ⟨x, hx, by rw [e, e2]⟩) h.1
      · exact names_inj h.2 hx hy e
theorem names_set {l : List Gp} (h : Names l) {i : Nat} {z0 z : Gp} (hi : l[i]? = some z0) (hz : z.name = z0.name) : Names (l.set i z) := by
  have hil := (List.getElem?_eq_some_iff.1 hi).1
  have hm : z0 ∈ l := List.mem_of_getElem? hi
  refine ⟨fun x hx => ?_, ?_⟩
  · rcases List.mem_or_eq_of_mem_set hx with hx | rfl
    · exact h.1 x hx
    · rw [hz]; exact h.1 z0 hm
  · have e : (l.set i z).map (·.name) = l.map (·.name) := by
      rw [List.map_set, hz]
      apply List.ext_getElem?
      intro j
      by_cases hj : i = j
      · subst hj
        rw [List.getElem?_set_self (by simpa using hil), List.getElem?_map, hi]
        rfl
      · rw [List.getElem?_set_ne hj]
    rw [e]
    exact h.2
theorem atN_none {s : List UInt8} {l : List Gp} (h : atN s l = none) : ∀ x ∈ l, x.name.toList ≠ s := by
  unfold atN at h
  cases h1 : l.findIdx? (nmB s) with
  | none =>
    rw [List.findIdx?_eq_none_iff] at h1
    intro x hx e
    have := h1 x hx
    unfold nmB at this
    rw [e] at this
    simp at this
  | some j =>
    have hj := (List.findIdx?_eq_some_iff_getElem.1 h1).1
    rw [h1] at h
    simp [List.getElem?_eq_getElem hj] at h
theorem atN_name {s : List UInt8} {l : List Gp} {k : Nat} {x : Gp} (h : atN s l = some (k, x)) : x.name.toList = s := by
  unfold atN at h
  cases h1 : l.findIdx? (nmB s) with
  | none => rw [h1] at h; cases h
  | some j =>
    obtain ⟨hj, h2, _⟩ := List.findIdx?_eq_some_iff_getElem.1 h1
    rw [h1] at h
    simp [List.getElem?_eq_getElem hj] at h
    obtain ⟨rfl, rfl⟩ := h
    simpa [nmB] using h2
theorem toList_inj {a b : ByteArray} (h : a.toList = b.toList) : a = b := by
  have e : a.data = b.data := by
    have h1 := Lib.toList_data a
    have h2 := Lib.toList_data b
    apply Array.ext'
    rw [← h1, ← h2, h]
  cases a; cases b; cases e; rfl
/-- The group of its own name is found. -/
theorem atN_self {l : List Gp} (h : (l.map (·.name)).Nodup) {x : Gp} (hx : x ∈ l) : ∃ k, atN x.name.toList l = some (k, x) := by
  cases he : atN x.name.toList l with
  | none => exact absurd rfl (atN_none he x hx)
  | some p =>
    obtain ⟨k, y⟩ := p
    have hy := atN_name he
    have hm := List.mem_of_getElem? (atN_get he)
    rw [names_inj h hm hx (toList_inj hy)]
    exact ⟨k, rfl⟩
theorem stepS_names {k : Dv} {l : List Gp} (h : Names l) : Names (stepS k l).2.2 := by
  unfold stepS
  split
  · dsimp only
    unfold addS
    split
    · exact h
    split
    · exact h
    split
    · exact h
    split
    · exact h
    · rename_i h1 h2 _ _
      have hc : checkE k.name k.parts = 0 := by omega
      have hno : atN k.name.toList l = none := by
        cases he : atN k.name.toList l with
        | none => rfl
        | some p => rw [he] at h2; simp at h2
      have hsz : k.name.size ≤ 8 := by
        unfold checkE at hc
        split at hc
        · rename_i hh
          have := hh.1
          rw [nameOk_eq] at this
          exact (nmK_size this).2
        · cases hc
      refine ⟨fun x hx => ?_, ?_⟩
      · rcases List.mem_append.1 hx with hx | hx
        · exact h.1 x hx
        · simp at hx; subst hx; exact hsz
      · rw [List.map_append, List.nodup_append]
        refine ⟨h.2, by simp, fun a ha b hb => ?_⟩
        obtain ⟨y, hy, rfl⟩ := List.mem_map.1 ha
        simp at hb
        subst hb
        intro e
        exact atN_none hno y hy (by rw [e]; rfl)
  split
  · unfold dropS
    split
    · exact h
    · exact ⟨fun x hx => h.1 x (List.mem_of_mem_eraseIdx hx), by
        rw [List.eraseIdx_eq_take_drop_succ, List.map_append, List.map_take, List.map_drop, ← List.eraseIdx_eq_take_drop_succ]
        exact h.2.sublist (List.eraseIdx_sublist _ _)⟩
  split
  · unfold joinS
    split
    · exact h
    · rename_i hx
      split
      · exact h
      split
      · exact h
      · exact names_set h (atN_get hx) rfl
  split
  · dsimp only
    unfold leaveS
    split
    · exact h
    · rename_i hx
      split
      · exact h
      split
      · exact h
      · exact names_set h (atN_get hx) rfl
  · dsimp only
    unfold commitS
    split
    · exact h
    · rename_i hx
      split
      · exact h
      split
      · exact h
      split
      · exact h
      · exact names_set h (atN_get hx) rfl
theorem runS_names (ks : List Dv) {l : List Gp} (h : Names l) : Names (runS ks l) := by
  unfold runS
  induction ks generalizing l with
  | nil => exact h
  | cons k ks ih => exact ih (stepS_names h)
/-- What was done is done. -/
def Up (y x : Gp) : Prop := y.att.length = x.att.length ∧ y.term ≤ x.term ∧ ∀ p, rd y.att p ≤ rd x.att p
theorem Up.refl (x : Gp) : Up x x := ⟨rfl, Int.le_refl _, fun _ => Int.le_refl _⟩
theorem up_set {l : List Gp} (h : Names l) {i : Nat} {z0 z : Gp} (hi : l[i]? = some z0) (hz : z.name = z0.name) (hu : Up z0 z) : ∀ x ∈ l.set i z, ∀ y ∈ l, y.name = x.name → Up y x := by
  intro x hx y hy e
  rcases List.mem_or_eq_of_mem_set hx with hx | rfl
  · rw [names_inj h.2 hy hx e]
    exact Up.refl _
  · rw [names_inj h.2 hy (List.mem_of_getElem? hi) (e.trans hz)]
    exact hu
theorem up_same {l : List Gp} (h : Names l) : ∀ x ∈ l, ∀ y ∈ l, y.name = x.name → Up y x := by
  intro x hx y hy e
  rw [names_inj h.2 hy hx e]
  exact Up.refl _
theorem stepS_up {k : Dv} {l : List Gp} (h : Names l) (h2 : 2 ≤ opS k) : ∀ x ∈ (stepS k l).2.2, ∀ y ∈ l, y.name = x.name → Up y x := by
  unfold stepS
  rw [if_neg (by omega), if_neg (by omega)]
  split
  · unfold joinS
    split
    · exact up_same h
    · rename_i hx
      split
      · exact up_same h
      split
      · exact up_same h
      · exact up_set h (atN_get hx) rfl ⟨rfl, Int.le_add_of_nonneg_right (by omega), fun _ => Int.le_refl _⟩
  split
  · dsimp only
    unfold leaveS
    split
    · exact up_same h
    · rename_i hx
      split
      · exact up_same h
      split
      · exact up_same h
      · exact up_set h (atN_get hx) rfl ⟨rfl, Int.le_add_of_nonneg_right (by omega), fun _ => Int.le_refl _⟩
  · dsimp only
    unfold commitS
    split
    · exact up_same h
    · rename_i hx
      split
      · exact up_same h
      split
      · exact up_same h
      split
      · exact up_same h
      · rename_i hb _
        refine up_set h (atN_get hx) rfl ⟨by show _ = (List.set _ _ _).length; rw [List.length_set], Int.le_refl _, fun p => ?_⟩
        show _ ≤ rd (List.set _ _ _) p
        unfold rd at hb ⊢
        rw [List.getD_eq_getElem?_getD] at hb ⊢
        rw [List.getD_eq_getElem?_getD, List.getElem?_set]
        split
        · rename_i e
          rw [← e]
          split
          · simp only [Option.getD_some]
            omega
          · rename_i hlt
            rw [List.getElem?_eq_none (by omega)]
            exact Int.le_refl _
        · exact Int.le_refl _
/-- Just one member owns a part. -/
theorem own_cnt {x : Gp} (h : x.good) {p : Nat} (hp : p < x.own.length) : x.mem.countP (· == rd x.own p) = if x.mem.length = 0 then 0 else 1 := by
  by_cases hm : x.mem = []
  · rw [hm]; rfl
  · have hl : x.mem.length ≠ 0 := fun h => hm (List.eq_nil_of_length_eq_zero h)
    rw [if_neg hl]
    have hin : rd x.own p ∈ x.mem := h.ow hm _ (by rw [rd_lt hp]; exact List.getElem_mem hp)
    have hnd : x.mem.Nodup := h.up.imp fun h => Int.ne_of_lt h
    have := List.nodup_iff_count.1 hnd (rd x.own p)
    have h0 : 0 < x.mem.countP (· == rd x.own p) := List.countP_pos_iff.2 ⟨_, hin, by simp⟩
    rw [List.count] at this
    omega
theorem ownsE_mem {x : Gp} {m : Int} (hm : m ∈ x.mem) {p : Nat} (hp : p < x.own.length) : x.ownsE m x.term p = if rd x.own p = m then 0 else 223 := by
  unfold Gp.ownsE
  rw [if_neg (Classical.not_not.2 hm), if_neg (by simp), if_neg (by omega), Int.toNat_natCast]
  by_cases h : rd x.own p = m
  · rw [if_neg (Classical.not_not.2 h), if_pos h]
  · rw [if_pos h, if_neg h]
end Go.Proofs.Ytemnhmnompehoaa
