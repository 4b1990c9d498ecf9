/-
  The way from one roster to another one, in plain numbers.
-/
import Derived.Test.YtbfpdahbmdaenaaPlain4
import Derived.Test.YtbfpdahbmdaenaaPlain7
namespace Go.Proofs.Ytbfpdahbmdaenaa
open Go.RowKit

theorem prs_keys (vs ls : List Int) : (prs vs ls).map (·.1) = vs ++ ls := by simp [prs, Function.comp_def]
theorem good_iff {vs ls : List Int} : goodB vs ls = true ↔ (vs ++ ls).Nodup ∧ (∀ x ∈ vs ++ ls, 0 ≤ x ∧ x < 5) ∧ 0 < vs.length := by
  unfold goodB wellB
  rw [Bool.and_eq_true, decide_eq_true_eq, decide_eq_true_eq]
  unfold well
  rw [prs_keys]
  constructor
  · rintro ⟨⟨h1, h2⟩, h3⟩
    refine ⟨h1, fun x hx => ?_, h3⟩
    rw [← prs_keys, List.mem_map] at hx
    obtain ⟨q, hq, rfl⟩ := hx
    exact h2 q hq
  · rintro ⟨h1, h2, h3⟩
    refine ⟨⟨h1, fun q hq => h2 _ ?_⟩, h3⟩
    rw [← prs_keys]
    exact List.mem_map.2 ⟨q, hq, rfl⟩
theorem val_zero' (vs ls : List Int) (m : Int) : val (prs vs ls) m = 0 ↔ m ∉ vs ++ ls := by
  rw [val_zero (fun q hq => prs_pos hq), prs_keys]
theorem val_same {vs ls vs' ls' : List Int} {m : Int} (h1 : m ∈ vs ↔ m ∈ vs') (h2 : m ∈ vs ++ ls ↔ m ∈ vs' ++ ls') : val (prs vs ls) m = val (prs vs' ls') m := by
  have a := val_two vs ls m
  have b := val_two vs' ls' m
  have c := val_zero' vs ls m
  have d := val_zero' vs' ls' m
  have e := val_three (prs vs ls) (fun q hq => prs_pos hq) m
  have f := val_three (prs vs' ls') (fun q hq => prs_pos hq) m
  by_cases x1 : m ∈ vs
  · rw [a.2 x1, b.2 (h1.1 x1)]
  · have x2 := fun h => x1 (h1.2 h)
    by_cases y1 : m ∈ vs ++ ls
    · have y2 := h2.1 y1
      have a' : val (prs vs ls) m ≠ 2 := fun h => x1 (a.1 h)
      have b' : val (prs vs' ls') m ≠ 2 := fun h => x2 (b.1 h)
      have c' : val (prs vs ls) m ≠ 0 := fun h => c.1 h y1
      have d' : val (prs vs' ls') m ≠ 0 := fun h => d.1 h y2
      omega
    · rw [c.2 y1, d.2 (fun h => y1 (h2.2 h))]
theorem dif_one {f g : Int → Int} {n : Nat} (h : ∀ m : Nat, m ≠ n → f m = g m) (hn : f n ≠ g n) (k : Nat) : dif f g k = if n < k then 1 else 0 := by
  induction k with
  | zero => rfl
  | succ k ih =>
    rw [dif, ih]
    by_cases hk : k = n
    · subst hk; rw [if_neg hn, if_neg (by omega), if_pos (by omega)]
    · rw [if_pos (h k hk)]
      by_cases h2 : n < k
      · rw [if_pos h2, if_pos (by omega)]
      · rw [if_neg h2, if_neg (by omega)]
theorem errM_one {vs ls vs' ls' : List Int} {x : Int} (g1 : goodB vs ls = true) (g2 : goodB vs' ls' = true) (hx : 0 ≤ x ∧ x < 5)
    (h : ∀ m : Int, m ≠ x → (m ∈ vs ↔ m ∈ vs') ∧ (m ∈ vs ++ ls ↔ m ∈ vs' ++ ls')) (hd : val (prs vs ls) x ≠ val (prs vs' ls') x) (hj : ¬ (x ∉ vs ++ ls ∧ x ∈ vs')) : errM vs ls vs' ls' = 0 := by
  obtain ⟨n, rfl⟩ : ∃ n : Nat, x = n := ⟨x.toNat, by omega⟩
  have hs : ∀ m : Nat, m ≠ n → val (prs vs ls) m = val (prs vs' ls') m := fun m hm => val_same (h m (by omega)).1 (h m (by omega)).2
  unfold errM
  rw [g1, g2]
  simp only [Bool.and_self, if_true]
  have e : dif (val (prs vs ls)) (val (prs vs' ls')) 5 = 1 := by rw [dif_one hs hd, if_pos (by omega)]
  rw [mayOf_else, if_pos e]
  rintro ⟨m, hm, h1, h2⟩
  by_cases hmn : m = n
  · subst hmn
    exact hj ⟨(val_zero' _ _ _).1 h1, (val_two _ _ _).1 h2⟩
  · have := hs m hmn
    omega

theorem mem_wo {xs : List Int} {x m : Int} : m ∈ xs.filter (fun z => z != x) ↔ m ∈ xs ∧ m ≠ x := by
  rw [List.mem_filter]
  simp

theorem add_ok {vs ls : List Int} {x : Int} (g : goodB vs ls = true) (hx : 0 ≤ x ∧ x < 5) (h : x ∉ vs ++ ls) : goodB vs (ls ++ [x]) = true ∧ errM vs ls vs (ls ++ [x]) = 0 := by
  obtain ⟨g1, g2, g3⟩ := good_iff.1 g
  have g' : goodB vs (ls ++ [x]) = true := by
    refine good_iff.2 ⟨?_, ?_, g3⟩
    · rw [← List.append_assoc, List.nodup_append]
      exact ⟨g1, by simp, fun a ha b hb => by rw [List.mem_singleton] at hb; subst hb; rintro rfl; exact h ha⟩
    · intro y hy
      rw [← List.append_assoc, List.mem_append, List.mem_singleton] at hy
      rcases hy with hy | rfl
      · exact g2 y hy
      · exact hx
  refine ⟨g', errM_one g g' hx (fun m hm => ⟨Iff.rfl, ?_⟩) ?_ ?_⟩
  · rw [← List.append_assoc, List.mem_append (s := vs ++ ls), List.mem_singleton]
    exact ⟨.inl, fun h => h.resolve_right hm⟩
  · rw [(val_zero' _ _ _).2 h]
    intro e
    exact (val_zero' _ _ _).1 e.symm (by simp)
  · rintro ⟨_, h2⟩
    exact h (List.mem_append_left _ h2)

theorem nodup_parts {vs ls : List Int} (h : (vs ++ ls).Nodup) : vs.Nodup ∧ ls.Nodup ∧ ∀ x, x ∈ vs → x ∉ ls := by
  rw [List.nodup_append] at h
  exact ⟨h.1, h.2.1, fun x h1 h2 => h.2.2 x h1 x h2 rfl⟩

theorem up_ok {vs ls : List Int} {x : Int} (g : goodB vs ls = true) (h1 : x ∉ vs) (h2 : x ∈ ls) : goodB (vs ++ [x]) (ls.filter (fun z => z != x)) = true ∧ errM vs ls (vs ++ [x]) (ls.filter (fun z => z != x)) = 0 := by
  obtain ⟨g1, g2, g3⟩ := good_iff.1 g
  obtain ⟨n1, n2, n3⟩ := nodup_parts g1
  have hx := g2 x (List.mem_append_right _ h2)
  have g' : goodB (vs ++ [x]) (ls.filter (fun z => z != x)) = true := by
    refine good_iff.2 ⟨?_, ?_, by simp⟩
    · rw [List.nodup_append]
      refine ⟨?_, n2.filter _, ?_⟩
      · rw [List.nodup_append]
        exact ⟨n1, by simp, fun a ha b hb => by rw [List.mem_singleton] at hb; subst hb; rintro rfl; exact h1 ha⟩
      · intro a ha b hb
        rw [mem_wo] at hb
        rw [List.mem_append, List.mem_singleton] at ha
        rintro rfl
        rcases ha with ha | ha
        · exact n3 a ha hb.1
        · exact hb.2 ha
    · intro y hy
      simp only [List.mem_append, List.mem_singleton, mem_wo] at hy
      rcases hy with (hy | rfl) | hy
      · exact g2 y (List.mem_append_left _ hy)
      · exact hx
      · exact g2 y (List.mem_append_right _ hy.1)
  refine ⟨g', errM_one g g' hx (fun m hm => ⟨?_, ?_⟩) ?_ ?_⟩
  · simp [hm]
  · simp only [List.mem_append, List.mem_singleton, mem_wo]
    constructor
    · rintro (h | h)
      · exact .inl (.inl h)
      · exact .inr ⟨h, hm⟩
    · rintro ((h | h) | h)
      · exact .inl h
      · exact absurd h hm
      · exact .inr h.1
  · rw [(val_two (vs ++ [x]) _ x).2 (by simp)]
    intro e
    exact h1 ((val_two _ _ _).1 e)
  · rintro ⟨h3, _⟩
    exact h3 (List.mem_append_right _ h2)

theorem out_ok {vs ls : List Int} {x y : Int} (g : goodB vs ls = true) (h1 : x ∈ vs) (h2 : y ∈ vs) (h3 : y ≠ x) : goodB (vs.filter (fun z => z != x)) ls = true ∧ errM vs ls (vs.filter (fun z => z != x)) ls = 0 := by
  obtain ⟨g1, g2, g3⟩ := good_iff.1 g
  obtain ⟨n1, n2, n3⟩ := nodup_parts g1
  have hx := g2 x (List.mem_append_left _ h1)
  have g' : goodB (vs.filter (fun z => z != x)) ls = true := by
    refine good_iff.2 ⟨?_, ?_, List.length_pos_of_mem (mem_wo.2 ⟨h2, h3⟩)⟩
    · rw [List.nodup_append]
      refine ⟨n1.filter _, n2, ?_⟩
      intro a ha b hb
      rw [mem_wo] at ha
      rintro rfl
      exact n3 a ha.1 hb
    · intro z hz
      simp only [List.mem_append, mem_wo] at hz
      rcases hz with hz | hz
      · exact g2 z (List.mem_append_left _ hz.1)
      · exact g2 z (List.mem_append_right _ hz)
  refine ⟨g', errM_one g g' hx (fun m hm => ⟨?_, ?_⟩) ?_ ?_⟩
  · rw [mem_wo]; exact ⟨fun h => ⟨h, hm⟩, fun h => h.1⟩
  · simp only [List.mem_append, mem_wo]
    constructor
    · rintro (h | h)
      · exact .inl ⟨h, hm⟩
      · exact .inr h
    · rintro (h | h)
      · exact .inl h.1
      · exact .inr h
  · rw [(val_two _ _ _).2 h1]
    intro e
    have := (val_two _ _ _).1 e.symm
    exact (mem_wo.1 this).2 rfl
  · rintro ⟨h4, _⟩
    exact h4 (List.mem_append_left _ h1)

theorem off_ok {vs ls : List Int} {x : Int} (g : goodB vs ls = true) (h2 : x ∈ ls) : goodB vs (ls.filter (fun z => z != x)) = true ∧ errM vs ls vs (ls.filter (fun z => z != x)) = 0 := by
  obtain ⟨g1, g2, g3⟩ := good_iff.1 g
  obtain ⟨n1, n2, n3⟩ := nodup_parts g1
  have hx := g2 x (List.mem_append_right _ h2)
  have hv : x ∉ vs := fun h => n3 x h h2
  have g' : goodB vs (ls.filter (fun z => z != x)) = true := by
    refine good_iff.2 ⟨?_, ?_, g3⟩
    · rw [List.nodup_append]
      refine ⟨n1, n2.filter _, ?_⟩
      intro a ha b hb
      rw [mem_wo] at hb
      rintro rfl
      exact n3 a ha hb.1
    · intro z hz
      simp only [List.mem_append, mem_wo] at hz
      rcases hz with hz | hz
      · exact g2 z (List.mem_append_left _ hz)
      · exact g2 z (List.mem_append_right _ hz.1)
  refine ⟨g', errM_one g g' hx (fun m hm => ⟨Iff.rfl, ?_⟩) ?_ ?_⟩
  · simp only [List.mem_append, mem_wo]
    constructor
    · rintro (h | h)
      · exact .inl h
      · exact .inr ⟨h, hm⟩
    · rintro (h | h)
      · exact .inl h
      · exact .inr h.1
  · rw [(val_zero' vs (ls.filter _) x).2 (by simp [hv])]
    intro e
    exact (val_zero' _ _ _).1 e (List.mem_append_right _ h2)
  · rintro ⟨h4, _⟩
    exact h4 (List.mem_append_right _ h2)

def hasB (vs ls : List Int) (x : Int) : Bool := inB vs x || inB ls x
theorem hasB_iff {vs ls : List Int} {x : Int} : hasB vs ls x = true ↔ x ∈ vs ++ ls := by
  unfold hasB
  rw [Bool.or_eq_true, inB_iff, inB_iff, List.mem_append]
theorem hasB_no {vs ls : List Int} {x : Int} (h : hasB vs ls x = false) : x ∉ vs ++ ls := fun h2 => by rw [hasB_iff.2 h2] at h; cases h
theorem inB_no {vs : List Int} {x : Int} (h : inB vs x = false) : x ∉ vs := fun h2 => by rw [inB_iff.2 h2] at h; cases h

theorem nodup_le5 : ∀ (k : Nat) {xs : List Int}, xs.Nodup → (∀ x ∈ xs, 0 ≤ x ∧ x < k) → xs.length ≤ k := by
  intro k
  induction k with
  | zero =>
    intro xs _ h
    cases xs with
    | nil => simp
    | cons a l => have := h a (by simp); omega
  | succ k ih =>
    intro xs hn h
    have h1 := ih (hn.erase (k : Int)) (fun x hx => by
      have h2 := h x (List.mem_of_mem_erase hx)
      have h3 : x ≠ k := fun e => by subst e; exact hn.not_mem_erase hx
      omega)
    have h4 : xs.length ≤ (xs.erase (k : Int)).length + 1 := by rw [List.length_erase]; split <;> omega
    omega
theorem good_le {vs ls : List Int} (g : goodB vs ls = true) : ls.length ≤ 1000 := by
  obtain ⟨h1, h2, _⟩ := good_iff.1 g
  have := nodup_le5 5 h1 h2
  rw [List.length_append] at this
  omega
theorem good_le' {vs ls : List Int} (g : goodB vs ls = true) : vs.length ≤ 1000 := by
  obtain ⟨h1, h2, _⟩ := good_iff.1 g
  have := nodup_le5 5 h1 h2
  rw [List.length_append] at this
  omega

/-- The first loop: so many of the voters to come vote. -/
def Go1 (us : List Int) (k : Nat) (vs ls : List Int) : Prop := goodB vs ls = true ∧ ∀ j, j < k → rd us j ∈ vs
theorem Go1.add {us : List Int} {k : Nat} {vs ls : List Int} {x : Int} (h : Go1 us k vs ls) (hx : 0 ≤ x ∧ x < 5) (hn : hasB vs ls x = false) : Go1 us k vs (ls ++ [x]) ∧ errM vs ls vs (ls ++ [x]) = 0 ∧ inB vs x = false ∧ inB (ls ++ [x]) x = true := by
  obtain ⟨a, b⟩ := add_ok h.1 hx (hasB_no hn)
  refine ⟨⟨a, h.2⟩, b, ?_, inB_iff.2 (by simp)⟩
  unfold hasB at hn
  exact (Bool.or_eq_false_iff.1 hn).1
theorem Go1.up {us : List Int} {k : Nat} {vs ls : List Int} {x : Int} (h : Go1 us k vs ls) (hr : rd us k = x) (hv : inB vs x = false) (hl : inB ls x = true) :
    Go1 us (k + 1) (vs ++ [x]) (ls.filter (fun z => z != x)) ∧ errM vs ls (vs ++ [x]) (ls.filter (fun z => z != x)) = 0 := by
  obtain ⟨a, b⟩ := up_ok h.1 (inB_no hv) (inB_iff.1 hl)
  refine ⟨⟨a, fun j hj => ?_⟩, b⟩
  rcases Nat.lt_succ_iff_lt_or_eq.1 hj with h1 | rfl
  · exact List.mem_append_left _ (h.2 j h1)
  · rw [hr]; simp
theorem Go1.have {us : List Int} {k : Nat} {vs ls : List Int} {x : Int} (h : Go1 us k vs ls) (hr : rd us k = x) (hv : inB vs x = true) : Go1 us (k + 1) vs ls := by
  refine ⟨h.1, fun j hj => ?_⟩
  rcases Nat.lt_succ_iff_lt_or_eq.1 hj with h1 | rfl
  · exact h.2 j h1
  · rw [hr]; exact inB_iff.1 hv

/-- The second loop: the first n nodes are what they shall be. -/
def Go2 (us ks : List Int) (n : Nat) (vs ls : List Int) : Prop := goodB vs ls = true ∧ (∀ x ∈ us, x ∈ vs) ∧ ∀ m : Int, 0 ≤ m → m < n → (m ∈ vs → m ∈ us) ∧ (m ∈ vs ++ ls ↔ m ∈ us ++ ks)
def Mid2 (us ks : List Int) (n : Nat) (vs ls : List Int) : Prop := Go2 us ks n vs ls ∧ ((n : Int) ∈ vs → (n : Int) ∈ us) ∧ ((n : Int) ∈ vs ++ ls → (n : Int) ∈ us ++ ks)
theorem Go1.turn {us ks vs ls : List Int} (h : Go1 us us.length vs ls) : Go2 us ks 0 vs ls := by
  refine ⟨h.1, fun x hx => ?_, fun m h0 h1 => by omega⟩
  obtain ⟨j, hj, rfl⟩ := List.mem_iff_getElem.1 hx
  have := h.2 j hj
  rwa [rd_lt hj] at this
theorem Go2.out {us ks : List Int} {n : Nat} {vs ls : List Int} (h : Go2 us ks n vs ls) (hu : goodB us ks = true) (hv : inB vs n = true) (hn : inB us n = false) :
    Mid2 us ks n (vs.filter (fun z => z != (n : Int))) ls ∧ errM vs ls (vs.filter (fun z => z != (n : Int))) ls = 0 := by
  obtain ⟨y, hy⟩ := List.exists_mem_of_length_pos (good_iff.1 hu).2.2
  have hnu := inB_no hn
  obtain ⟨a, b⟩ := out_ok h.1 (inB_iff.1 hv) (h.2.1 y hy) (by rintro rfl; exact hnu hy)
  obtain ⟨g1, _, _⟩ := good_iff.1 h.1
  obtain ⟨_, _, n3⟩ := nodup_parts g1
  refine ⟨⟨⟨a, fun x hx => mem_wo.2 ⟨h.2.1 x hx, by rintro rfl; exact hnu hx⟩, fun m h0 h1 => ?_⟩, fun hx => absurd rfl (mem_wo.1 hx).2, fun hx => ?_⟩, b⟩
  · obtain ⟨p, q⟩ := h.2.2 m h0 h1
    refine ⟨fun hm => p (mem_wo.1 hm).1, ?_⟩
    rw [← q]
    simp only [List.mem_append, mem_wo]
    constructor
    · rintro (h | h)
      · exact .inl h.1
      · exact .inr h
    · rintro (h | h)
      · exact .inl ⟨h, by omega⟩
      · exact .inr h
  · rcases List.mem_append.1 hx with h4 | h4
    · exact absurd rfl (mem_wo.1 h4).2
    · exact absurd h4 (n3 _ (inB_iff.1 hv))
theorem Go2.off {us ks : List Int} {n : Nat} {vs ls : List Int} (h : Go2 us ks n vs ls) (hc : (inB vs n && !inB us n) = false) (hv : hasB vs ls n = true) (hn : hasB us ks n = false) :
    Mid2 us ks n vs (ls.filter (fun z => z != (n : Int))) ∧ errM vs ls vs (ls.filter (fun z => z != (n : Int))) = 0 := by
  have hnu := hasB_no hn
  have hus : (n : Int) ∉ us := fun h => hnu (List.mem_append_left _ h)
  have hvn : (n : Int) ∉ vs := by
    intro h1
    have h2 : inB us n = false := by
      cases h3 : inB us n with
      | false => rfl
      | true => exact absurd (inB_iff.1 h3) hus
    rw [inB_iff.2 h1, h2] at hc
    cases hc
  have hl : (n : Int) ∈ ls := by
    rcases List.mem_append.1 (hasB_iff.1 hv) with h1 | h1
    · exact absurd h1 hvn
    · exact h1
  obtain ⟨a, b⟩ := off_ok h.1 hl
  refine ⟨⟨⟨a, h.2.1, fun m h0 h1 => ?_⟩, fun hx => absurd hx hvn, fun hx => ?_⟩, b⟩
  · obtain ⟨p, q⟩ := h.2.2 m h0 h1
    refine ⟨p, ?_⟩
    rw [← q]
    simp only [List.mem_append, mem_wo]
    constructor
    · rintro (h | h)
      · exact .inl h
      · exact .inr h.1
    · rintro (h | h)
      · exact .inl h
      · exact .inr ⟨h, by omega⟩
  · rcases List.mem_append.1 hx with h4 | h4
    · exact absurd h4 hvn
    · exact absurd rfl (mem_wo.1 h4).2
theorem Go2.stay {us ks : List Int} {n : Nat} {vs ls : List Int} (h : Go2 us ks n vs ls) (hc : (inB vs n && !inB us n) = false) (hd : (hasB vs ls n && !hasB us ks n) = false) : Mid2 us ks n vs ls := by
  refine ⟨h, fun hx => ?_, fun hx => ?_⟩
  · rw [inB_iff.2 hx] at hc
    exact inB_iff.1 (by simpa using hc)
  · rw [hasB_iff.2 hx] at hd
    exact hasB_iff.1 (by simpa using hd)
theorem Mid2.add {us ks : List Int} {n : Nat} {vs ls : List Int} (h : Mid2 us ks n vs ls) (hn : n < 5) (h1 : hasB us ks n = true) (h2 : hasB vs ls n = false) : Go2 us ks (n + 1) vs (ls ++ [(n : Int)]) ∧ errM vs ls vs (ls ++ [(n : Int)]) = 0 := by
  obtain ⟨a, b⟩ := add_ok (x := n) h.1.1 (by omega) (hasB_no h2)
  refine ⟨⟨a, h.1.2.1, fun m h0 hm => ?_⟩, b⟩
  by_cases e : m = n
  · subst e
    exact ⟨h.2.1, ⟨fun _ => hasB_iff.1 h1, fun _ => by simp⟩⟩
  · obtain ⟨p, q⟩ := h.1.2.2 m h0 (by omega)
    refine ⟨p, ?_⟩
    rw [← List.append_assoc, List.mem_append (s := vs ++ ls), List.mem_singleton, ← q]
    exact ⟨fun h => h.resolve_right e, .inl⟩
theorem Mid2.stay {us ks : List Int} {n : Nat} {vs ls : List Int} (h : Mid2 us ks n vs ls) (h1 : (hasB us ks n && !hasB vs ls n) = false) : Go2 us ks (n + 1) vs ls := by
  refine ⟨h.1.1, h.1.2.1, fun m h0 hm => ?_⟩
  by_cases e : m = n
  · subst e
    refine ⟨h.2.1, ⟨h.2.2, fun hx => ?_⟩⟩
    rw [hasB_iff.2 hx] at h1
    exact hasB_iff.1 (by simpa using h1)
  · exact h.1.2.2 m h0 (by omega)
theorem Go2.done {us ks vs ls : List Int} (h : Go2 us ks 5 vs ls) (hu : goodB us ks = true) : allL vs ls = allL us ks ∧ vs.length = us.length := by
  obtain ⟨g1, g2, _⟩ := good_iff.1 h.1
  obtain ⟨u1, u2, _⟩ := good_iff.1 hu
  have hv : ∀ x, x ∈ vs ↔ x ∈ us := fun x => ⟨fun hx => (h.2.2 x (g2 x (List.mem_append_left _ hx)).1 (g2 x (List.mem_append_left _ hx)).2).1 hx, h.2.1 x⟩
  constructor
  · rw [allL_insAll, allL_insAll]
    obtain ⟨a1, a2⟩ := insAll_what (vs ++ ls)
    obtain ⟨b1, b2⟩ := insAll_what (us ++ ks)
    refine same_rising a1 b1 (fun x => ?_)
    rw [a2, b2]
    constructor
    · intro hx; exact (h.2.2 x (g2 x hx).1 (g2 x hx).2).2.1 hx
    · intro hx; exact (h.2.2 x (u2 x hx).1 (u2 x hx).2).2.2 hx
  · exact ((List.perm_ext_iff_of_nodup (nodup_parts g1).1 (nodup_parts u1).1).2 hv).length_eq

end Go.Proofs.Ytbfpdahbmdaenaa
