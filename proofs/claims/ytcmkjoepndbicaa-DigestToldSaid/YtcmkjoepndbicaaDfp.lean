/-
  What is unlike in two maps, plainly: the program's and the reference's keys are the same.
-/
import Derived.Test.YtcmkjoepndbicaaDfr
namespace Go.Proofs.Ytcmkjoepndbicaa
open Go Go.RowKit

theorem rise_ext {α : Type} {r : α → α → Prop} (irr : ∀ x, ¬ r x x) (tr : ∀ x y z, r x y → r y z → r x z) : ∀ {l m : List α}, l.Pairwise r → m.Pairwise r → (∀ x, x ∈ l ↔ x ∈ m) → l = m
  | [], m, _, _, h => (List.eq_nil_iff_forall_not_mem.2 fun x hx => by have := (h x).2 hx; cases this).symm
  | x :: l, [], _, _, h => absurd ((h x).1 List.mem_cons_self) (by simp)
  | x :: l, y :: m, hl, hm, h => by
    have h1 := List.pairwise_cons.1 hl
    have h2 := List.pairwise_cons.1 hm
    have hxy : x = y := by
      rcases List.mem_cons.1 ((h x).1 List.mem_cons_self) with e | hx
      · exact e
      · rcases List.mem_cons.1 ((h y).2 List.mem_cons_self) with e | hy
        · exact e.symm
        · exact absurd (tr _ _ _ (h2.1 x hx) (h1.1 y hy)) (irr y)
    subst hxy
    rw [rise_ext irr tr h1.2 h2.2 (fun z => ⟨fun hz => ?_, fun hz => ?_⟩)]
    · rcases List.mem_cons.1 ((h z).1 (List.mem_cons_of_mem _ hz)) with e | hz'
      · subst e; exact absurd (h1.1 z hz) (irr z)
      · exact hz'
    · rcases List.mem_cons.1 ((h z).2 (List.mem_cons_of_mem _ hz)) with e | hz'
      · subst e; exact absurd (h2.1 z hz) (irr z)
      · exact hz'
/-- Strings that rise. -/
def RiseK (l : List ByteArray) : Prop := l.Pairwise fun s t => s.data.toList < t.data.toList
theorem riseK_ext {l m : List ByteArray} (hl : RiseK l) (hm : RiseK m) (h : ∀ s, s ∈ l ↔ s ∈ m) : l = m :=
  rise_ext (r := fun s t : ByteArray => s.data.toList < t.data.toList) (fun _ => List.lt_irrefl _) (fun _ _ _ => List.lt_trans) hl hm h
theorem str_ext {s t : ByteArray} (h : s.data.toList = t.data.toList) : s = t := by
  cases s; cases t
  congr 1
  exact Array.ext' h
/-- A string as a pair of no value. -/
def kp (s : ByteArray) : Pr := (s, ⟨#[]⟩)
theorem keyP_kp (s : ByteArray) : keyP (kp s) = s.data.toList := rfl
theorem key_eq {p : Pr} {s : ByteArray} (h : keyP p = s.data.toList) : p.1 = s := str_ext h
theorem fnd_cons (x : Pr) (l : List Pr) (p : Pr) : fnd (x :: l) p = if keyP x = keyP p then some x else fnd l p := by
  unfold fnd
  rw [List.find?_cons]
  by_cases h : keyP x = keyP p
  · rw [if_pos h, decide_eq_true h]
  · rw [if_neg h, decide_eq_false h]
theorem fnd_none {l : List Pr} {p : Pr} (h : ∀ y ∈ l, keyP y ≠ keyP p) : fnd l p = none := by
  unfold fnd
  rw [List.find?_eq_none]
  intro x hx
  simpa using h x hx
theorem fnd_some {l : List Pr} {p x : Pr} (h : fnd l p = some x) : x ∈ l ∧ keyP x = keyP p := by
  unfold fnd at h
  exact ⟨List.mem_of_find?_eq_some h, by simpa using List.find?_some h⟩
theorem fnd_key {l : List Pr} {p q : Pr} (h : keyP p = keyP q) : fnd l p = fnd l q := by unfold fnd; rw [h]
theorem rise_head {x : Pr} {xs : List Pr} (h : Rise (x :: xs)) : (∀ y ∈ xs, keyP x < keyP y) ∧ Rise xs := List.pairwise_cons.1 h
theorem ne_of_key_lt {a b : List UInt8} (h : a < b) : a ≠ b := fun e => List.lt_irrefl _ (e ▸ h)
theorem eqP_iff {x y : Pr} : eqP x y = true ↔ x = y := by
  constructor
  · intro h
    unfold eqP at h
    rw [Bool.and_eq_true] at h
    exact pr_eq h.1 h.2
  · rintro rfl
    unfold eqP
    simp
theorem unl_mem (a b : List Pr) (ha : Rise a) (hb : Rise b) (s : ByteArray) : s ∈ unl a b ↔ fnd a (kp s) ≠ fnd b (kp s) := by
  induction h : a.length + b.length using Nat.strongRecOn generalizing a b with
  | _ n ih =>
    subst h
    rcases a with _ | ⟨x, xs⟩
    · rcases b with _ | ⟨y, ys⟩
      · rw [unl_nn]; simp
      · rw [unl_nc, List.mem_cons, fnd_cons, keyP_kp, ih _ (by simp only [List.length_cons]; omega) [] ys ha (rise_head hb).2 rfl]
        by_cases e : keyP y = s.data.toList
        · rw [if_pos e]
          have := key_eq e
          simp [this, fnd]
        · rw [if_neg e]
          have : ¬ s = y.1 := fun h => e (by rw [h]; rfl)
          simp [this]
    · rcases b with _ | ⟨y, ys⟩
      · rw [unl_cn, List.mem_cons, fnd_cons, keyP_kp, ih _ (by simp only [List.length_cons]; omega) xs [] (rise_head ha).2 hb rfl]
        by_cases e : keyP x = s.data.toList
        · rw [if_pos e]
          have := key_eq e
          simp [this, fnd]
        · rw [if_neg e]
          have : ¬ s = x.1 := fun h => e (by rw [h]; rfl)
          simp [this]
      · have hx := rise_head ha
        have hy := rise_head hb
        cases h1 : ltB x.1 y.1 with
        | true =>
          have hlt : keyP x < keyP y := by rw [ltB_key] at h1; simpa using h1
          rw [unl_lt _ _ h1, List.mem_cons, ih _ (by simp only [List.length_cons]; omega) xs (y :: ys) hx.2 hb rfl, fnd_cons x, keyP_kp]
          by_cases e : keyP x = s.data.toList
          · rw [if_pos e]
            have hn : fnd (y :: ys) (kp s) = none := fnd_none (fun z hz => by
              rw [keyP_kp, ← e]
              rcases List.mem_cons.1 hz with rfl | hz
              · exact (ne_of_key_lt hlt).symm
              · exact (ne_of_key_lt (List.lt_trans hlt (hy.1 z hz))).symm)
            rw [hn]
            have := key_eq e
            simp [this]
          · rw [if_neg e]
            have : ¬ s = x.1 := fun h => e (by rw [h]; rfl)
            simp [this]
        | false =>
          cases h2 : ltB y.1 x.1 with
          | true =>
            have hlt : keyP y < keyP x := by rw [ltB_key] at h2; simpa using h2
            rw [unl_gt _ _ h1 h2, List.mem_cons, ih _ (by simp only [List.length_cons]; omega) (x :: xs) ys ha hy.2 rfl, fnd_cons y, keyP_kp]
            by_cases e : keyP y = s.data.toList
            · rw [if_pos e]
              have hn : fnd (x :: xs) (kp s) = none := fnd_none (fun z hz => by
                rw [keyP_kp, ← e]
                rcases List.mem_cons.1 hz with rfl | hz
                · exact (ne_of_key_lt hlt).symm
                · exact (ne_of_key_lt (List.lt_trans hlt (hx.1 z hz))).symm)
              rw [hn]
              have := key_eq e
              simp [this]
            · rw [if_neg e]
              have : ¬ s = y.1 := fun h => e (by rw [h]; rfl)
              simp [this]
          | false =>
            have hk : keyP x = keyP y := by
              rw [ltB_key] at h1 h2
              have g1 : ¬ keyP x < keyP y := by simpa using h1
              have g2 : ¬ keyP y < keyP x := by simpa using h2
              exact List.le_antisymm (List.not_lt.1 g2) (List.not_lt.1 g1)
            have hi := ih _ (by simp only [List.length_cons]; omega) xs ys hx.2 hy.2 rfl
            have hnx : ∀ e : keyP x = s.data.toList, fnd xs (kp s) = none ∧ fnd ys (kp s) = none := fun e =>
              ⟨fnd_none (fun z hz => by rw [keyP_kp, ← e]; exact (ne_of_key_lt (hx.1 z hz)).symm), fnd_none (fun z hz => by rw [keyP_kp, ← e, hk]; exact (ne_of_key_lt (hy.1 z hz)).symm)⟩
            cases h3 : eqP x y with
            | true =>
              have hxy := eqP_iff.1 h3
              subst hxy
              rw [unl_eq _ _ h1 h2 h3, hi, fnd_cons x xs, fnd_cons x ys, keyP_kp]
              by_cases e : keyP x = s.data.toList
              · rw [if_pos e, if_pos e, (hnx e).1, (hnx e).2]
                simp
              · rw [if_neg e, if_neg e]
            | false =>
              have hxy : x ≠ y := fun e => by rw [eqP_iff.2 e] at h3; cases h3
              rw [unl_ne _ _ h1 h2 h3, List.mem_cons, hi, fnd_cons x xs, fnd_cons y ys, keyP_kp, ← hk]
              by_cases e : keyP x = s.data.toList
              · rw [if_pos e, if_pos e]
                have := key_eq e
                simp [this, hxy]
              · rw [if_neg e, if_neg e]
                have : ¬ s = x.1 := fun h => e (by rw [h]; rfl)
                simp [this]
theorem unl_key {a b : List Pr} (ha : Rise a) (hb : Rise b) {s : ByteArray} (h : s ∈ unl a b) : ∃ p, (p ∈ a ∨ p ∈ b) ∧ p.1 = s := by
  rw [unl_mem a b ha hb] at h
  cases h1 : fnd a (kp s) with
  | some p => exact ⟨p, .inl (fnd_some h1).1, key_eq (fnd_some h1).2⟩
  | none =>
    cases h2 : fnd b (kp s) with
    | some p => exact ⟨p, .inr (fnd_some h2).1, key_eq (fnd_some h2).2⟩
    | none => rw [h1, h2] at h; exact absurd rfl h
theorem unl_rise (a b : List Pr) (ha : Rise a) (hb : Rise b) : RiseK (unl a b) := by
  induction h : a.length + b.length using Nat.strongRecOn generalizing a b with
  | _ n ih =>
    subst h
    rcases a with _ | ⟨x, xs⟩
    · rcases b with _ | ⟨y, ys⟩
      · rw [unl_nn]; exact List.Pairwise.nil
      · have hy := rise_head hb
        rw [unl_nc]
        refine List.Pairwise.cons (fun s hs => ?_) (ih _ (by simp only [List.length_cons]; omega) [] ys ha hy.2 rfl)
        obtain ⟨p, hp, rfl⟩ := unl_key ha hy.2 hs
        rcases hp with h | h
        · cases h
        · exact hy.1 p h
    · have hx := rise_head ha
      rcases b with _ | ⟨y, ys⟩
      · rw [unl_cn]
        refine List.Pairwise.cons (fun s hs => ?_) (ih _ (by simp only [List.length_cons]; omega) xs [] hx.2 hb rfl)
        obtain ⟨p, hp, rfl⟩ := unl_key hx.2 hb hs
        rcases hp with h | h
        · exact hx.1 p h
        · cases h
      · have hy := rise_head hb
        cases h1 : ltB x.1 y.1 with
        | true =>
          have hlt : keyP x < keyP y := by rw [ltB_key] at h1; simpa using h1
          rw [unl_lt _ _ h1]
          refine List.Pairwise.cons (fun s hs => ?_) (ih _ (by simp only [List.length_cons]; omega) xs (y :: ys) hx.2 hb rfl)
          obtain ⟨p, hp, rfl⟩ := unl_key hx.2 hb hs
          rcases hp with h | h
          · exact hx.1 p h
          · rcases List.mem_cons.1 h with rfl | h
            · exact hlt
            · exact List.lt_trans hlt (hy.1 p h)
        | false =>
          cases h2 : ltB y.1 x.1 with
          | true =>
            have hlt : keyP y < keyP x := by rw [ltB_key] at h2; simpa using h2
            rw [unl_gt _ _ h1 h2]
            refine List.Pairwise.cons (fun s hs => ?_) (ih _ (by simp only [List.length_cons]; omega) (x :: xs) ys ha hy.2 rfl)
            obtain ⟨p, hp, rfl⟩ := unl_key ha hy.2 hs
            rcases hp with h | h
            · rcases List.mem_cons.1 h with rfl | h
              · exact hlt
              · exact List.lt_trans hlt (hx.1 p h)
            · exact hy.1 p h
          | false =>
            have hk : keyP x = keyP y := by
              rw [ltB_key] at h1 h2
              have g1 : ¬ keyP x < keyP y := by simpa using h1
              have g2 : ¬ keyP y < keyP x := by simpa using h2
              exact List.le_antisymm (List.not_lt.1 g2) (List.not_lt.1 g1)
            have hi := ih _ (by simp only [List.length_cons]; omega) xs ys hx.2 hy.2 rfl
            cases h3 : eqP x y with
            | true => rw [unl_eq _ _ h1 h2 h3]; exact hi
            | false =>
              rw [unl_ne _ _ h1 h2 h3]
              refine List.Pairwise.cons (fun s hs => ?_) hi
              obtain ⟨p, hp, rfl⟩ := unl_key hx.2 hy.2 hs
              rcases hp with h | h
              · exact hx.1 p h
              · show keyP x < keyP p
                rw [hk]
                exact hy.1 p h
theorem withP_mem (l : List Pr) (p : Pr) (k : List UInt8) : k ∈ keysP (withP l p) ↔ k = keyP p ∨ k ∈ keysP l := by
  unfold withP keysP
  rw [((insP_perm p (woP l p)).map keyP).mem_iff, List.map_cons, List.mem_cons]
  constructor
  · rintro (h | h)
    · exact .inl h
    · obtain ⟨x, hx, rfl⟩ := List.mem_map.1 h
      exact .inr (List.mem_map_of_mem (List.mem_filter.1 hx).1)
  · rintro (h | h)
    · exact .inl h
    · by_cases e : k = keyP p
      · exact .inl e
      · obtain ⟨x, hx, rfl⟩ := List.mem_map.1 h
        exact .inr (List.mem_map_of_mem (List.mem_filter.2 ⟨hx, by simpa using e⟩))
theorem unionP_mem (a b : List Pr) (k : List UInt8) : k ∈ keysP (unionP a b) ↔ k ∈ keysP a ∨ k ∈ keysP b := by
  unfold unionP
  induction b generalizing a with
  | nil => simp [keysP]
  | cons y b ih =>
    rw [List.foldl_cons, ih, withP_mem]
    have : k ∈ keysP (y :: b) ↔ k = keyP y ∨ k ∈ keysP b := by unfold keysP; rw [List.map_cons, List.mem_cons]
    rw [this]
    constructor
    · rintro ((h | h) | h)
      · exact .inr (.inl h)
      · exact .inl h
      · exact .inr (.inr h)
    · rintro (h | h | h)
      · exact .inl (.inr h)
      · exact .inl (.inl h)
      · exact .inr h
theorem unionP_rise {a : List Pr} (b : List Pr) (ha : Rise a) : Rise (unionP a b) := by
  unfold unionP
  induction b generalizing a with
  | nil => exact ha
  | cons y b ih => exact ih (withP_rise ha y)
theorem neD_iff (a b : List Pr) (x : Pr) : neD a b x = true ↔ fnd a x ≠ fnd b x := by
  unfold neD gh gv
  cases h1 : fnd a x with
  | none =>
    cases h2 : fnd b x with
    | none => simp
    | some q => simp
  | some p =>
    cases h2 : fnd b x with
    | none => simp
    | some q =>
      have hp := fnd_some h1
      have hq := fnd_some h2
      have hk : p.1 = q.1 := str_ext (hp.2.trans hq.2.symm)
      have : (some p = some q) ↔ p.2 = q.2 := by
        constructor
        · intro e; injection e with e; rw [e]
        · intro e; congr 1; exact Prod.ext hk e
      rw [Ne, this]
      have e : (p.2.toList == q.2.toList) = decide (p.2 = q.2) := by
        rw [tl_data, tl_data, Bool.eq_iff_iff, beq_iff_eq, decide_eq_true_eq]
        exact ⟨str_ext, fun e => by rw [e]⟩
      simp [e]
/-- The keys that the reference's Diff tells. -/
theorem diff_keys (a b : List Pr) (ha : Rise a) (hb : Rise b) : (diffE a b).map Ev.key = unl a b := by
  refine riseK_ext ?_ (unl_rise a b ha hb) (fun s => ?_)
  · unfold diffE
    rw [List.map_map]
    unfold RiseK
    rw [List.pairwise_map]
    exact List.Pairwise.imp (fun h => h) (List.Pairwise.filter _ (unionP_rise b ha))
  · rw [unl_mem a b ha hb]
    unfold diffE
    rw [List.map_map, List.mem_map]
    constructor
    · rintro ⟨x, hx, rfl⟩
      have h1 := (neD_iff a b x).1 (List.mem_filter.1 hx).2
      have e : keyP (kp x.1) = keyP x := rfl
      show fnd a (kp x.1) ≠ fnd b (kp x.1)
      rw [fnd_key e, fnd_key e]
      exact h1
    · intro h
      have hk : s.data.toList ∈ keysP (unionP a b) := by
        rw [unionP_mem]
        cases h1 : fnd a (kp s) with
        | some p => exact .inl (by have := fnd_some h1; rw [← keyP_kp, ← this.2]; exact List.mem_map_of_mem this.1)
        | none =>
          cases h2 : fnd b (kp s) with
          | some p => exact .inr (by have := fnd_some h2; rw [← keyP_kp, ← this.2]; exact List.mem_map_of_mem this.1)
          | none => rw [h1, h2] at h; exact absurd rfl h
      obtain ⟨x, hx, he⟩ := List.mem_map.1 hk
      have hs := key_eq he
      refine ⟨x, List.mem_filter.2 ⟨hx, (neD_iff a b x).2 ?_⟩, hs⟩
      have e : keyP x = keyP (kp s) := he
      rw [fnd_key e, fnd_key e]
      exact h
theorem kid_rise (ka kb : BitVec 64) (a i : Nat) {l : List Pr} (h : Rise l) : Rise (kid ka kb a i l) := List.Pairwise.filter _ h
theorem difK_key (ka kb : BitVec 64) : ∀ (f : Nat) {a b : List Pr}, Rise a → Rise b → ∀ {s : ByteArray}, s ∈ difK ka kb f a b → ∃ p, (p ∈ a ∨ p ∈ b) ∧ p.1 = s
  | 0, a, b, ha, hb, s, h => by
    unfold difK at h
    split at h
    · cases h
    · exact unl_key ha hb h
  | f + 1, a, b, ha, hb, s, h => by
    unfold difK at h
    split at h
    · cases h
    · obtain ⟨i, _, hi⟩ := List.mem_flatMap.1 h
      obtain ⟨p, hp, e⟩ := difK_key ka kb f (kid_rise ka kb (3 - f) i ha) (kid_rise ka kb (3 - f) i hb) hi
      refine ⟨p, ?_, e⟩
      rcases hp with h | h
      · exact .inl (List.mem_filter.1 h).1
      · exact .inr (List.mem_filter.1 h).1
theorem difK_nodup (ka kb : BitVec 64) : ∀ (f : Nat) {a b : List Pr}, Rise a → Rise b → (difK ka kb f a b).Nodup
  | 0, a, b, ha, hb => by
    unfold difK
    split
    · exact List.Pairwise.nil
    · have h := unl_rise a b ha hb
      unfold RiseK at h
      exact h.imp (fun {s t} hst e => by rw [e] at hst; exact List.lt_irrefl _ hst)
  | f + 1, a, b, ha, hb => by
    unfold difK
    split
    · exact List.Pairwise.nil
    · rw [List.Nodup, List.pairwise_flatMap]
      refine ⟨fun i _ => difK_nodup ka kb f (kid_rise ka kb (3 - f) i ha) (kid_rise ka kb (3 - f) i hb), ?_⟩
      refine List.Pairwise.imp ?_ List.pairwise_lt_range
      intro i j hij s hs t ht e
      subst e
      obtain ⟨p, hp, e1⟩ := difK_key ka kb f (kid_rise ka kb (3 - f) i ha) (kid_rise ka kb (3 - f) i hb) hs
      obtain ⟨q, hq, e2⟩ := difK_key ka kb f (kid_rise ka kb (3 - f) j ha) (kid_rise ka kb (3 - f) j hb) ht
      have hi : dg ka kb (3 - f) p = i := by rcases hp with h | h <;> simpa using (List.mem_filter.1 h).2
      have hj : dg ka kb (3 - f) q = j := by rcases hq with h | h <;> simpa using (List.mem_filter.1 h).2
      have : dg ka kb (3 - f) p = dg ka kb (3 - f) q := by unfold dg; rw [e1, e2]
      omega
theorem sortS_mem (l : List ByteArray) (s : ByteArray) : s ∈ sortS l ↔ s ∈ l := by
  unfold sortS
  rw [List.mem_map]
  constructor
  · rintro ⟨u, hu, rfl⟩
    have := (List.mergeSort_perm _ _).subset hu
    obtain ⟨t, ht, rfl⟩ := List.mem_map.1 this
    have e : (⟨t.data.toList.toArray⟩ : ByteArray) = t := str_ext (by simp)
    rw [e]
    exact ht
  · intro h
    exact ⟨s.data.toList, (List.mergeSort_perm _ _).symm.subset (List.mem_map_of_mem h), str_ext (by simp)⟩
theorem sortS_rise {l : List ByteArray} (hn : l.Nodup) : RiseK (sortS l) := by
  have h1 : ((l.map fun s => s.data.toList).mergeSort fun x y => decide (x ≤ y)).Pairwise (fun x y => x ≤ y) := by
    have := List.pairwise_mergeSort (le := fun x y : List UInt8 => decide (x ≤ y)) (fun a b c h1 h2 => by simp at *; exact List.le_trans h1 h2) (fun a b => by simp; exact List.le_total a b) (l.map fun s => s.data.toList)
    exact List.Pairwise.imp (by intro a b h; simpa using h) this
  have h2 : ((l.map fun s => s.data.toList).mergeSort fun x y => decide (x ≤ y)).Nodup := by
    refine (List.mergeSort_perm _ _).symm.nodup_iff.1 ?_
    rw [List.Nodup, List.pairwise_map]
    exact List.Pairwise.imp (fun h e => h (str_ext e)) hn
  unfold sortS RiseK
  rw [List.pairwise_map]
  refine List.Pairwise.imp ?_ (h1.and h2)
  rintro a b ⟨h3, h4⟩
  show a < b
  rcases Decidable.em (a < b) with h | h
  · exact h
  · exact absurd (List.le_antisymm h3 (List.not_lt.1 h)) h4
/-- The keys of the reference's list of keys. -/
theorem keys_again {l : List ByteArray} (hn : l.Nodup) : (ofP (l.map kp)).map (·.1) = sortS l := by
  refine riseK_ext ?_ (sortS_rise hn) (fun s => ?_)
  · unfold RiseK
    rw [List.pairwise_map]
    exact ofP_rise _
  · rw [sortS_mem]
    have hk : (keysP (l.map kp)).Nodup := by
      unfold keysP
      rw [List.map_map, List.Nodup, List.pairwise_map]
      exact List.Pairwise.imp (fun h e => h (str_ext e)) hn
    have hp : (ofP (l.map kp)).Perm (l.map kp) := by
      unfold ofP
      rw [ofU_self _ hk]
      exact List.mergeSort_perm _ _
    rw [List.mem_map]
    constructor
    · rintro ⟨p, h1, rfl⟩
      obtain ⟨t, ht, rfl⟩ := List.mem_map.1 (hp.subset h1)
      exact ht
    · intro h
      exact ⟨kp s, hp.symm.subset (List.mem_map_of_mem h), rfl⟩
end Go.Proofs.Ytcmkjoepndbicaa
