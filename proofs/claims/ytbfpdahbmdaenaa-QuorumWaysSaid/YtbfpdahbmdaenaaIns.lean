/-
  Insertion: what the document's All does with each node.
-/
import Derived.Test.YtbfpdahbmdaenaaClo
import Derived.Test.YtbfpdahbmdaenaaAll
namespace Go.Proofs.Ytbfpdahbmdaenaa
open Go.RowKit

theorem rd_take {xs : List Int} {k j : Nat} (h : j < k) : rd (xs.take k) j = rd xs j := by
  unfold rd; rw [List.getD_eq_getElem?_getD, List.getD_eq_getElem?_getD, List.getElem?_take, if_pos h]
theorem rd_drop {xs : List Int} {k j : Nat} : rd (xs.drop k) j = rd xs (k + j) := by
  unfold rd; rw [List.getD_eq_getElem?_getD, List.getD_eq_getElem?_getD, List.getElem?_drop]

theorem Rd.take {w : World} {A : Option Addr} {n : Nat} {xs : List Int} (h : Rd w A n xs) {k : Nat} (hk : k ≤ n) : Rd w A k (xs.take k) :=
  ⟨by rw [List.length_take, h.len]; omega, by have := h.bd; omega, fun h0 => by
    obtain ⟨b, o, e, hlt, hc⟩ := h.cells (by omega)
    exact ⟨b, o, e, hlt, fun j hj => by rw [rd_take hj]; exact hc j (by omega)⟩⟩
theorem Rd.drop {w : World} {A : Option Addr} {n c : Nat} {xs : List Int} (h : Rd w A n xs) {k : Nat} (hk : k ≤ n) (hc : n ≤ c) : Rd w (if c = k then A else A.map (·.add k)) (n - k) (xs.drop k) :=
  ⟨by rw [List.length_drop, h.len], by have := h.bd; omega, fun h0 => by
    obtain ⟨b, o, e, hlt, hcl⟩ := h.cells (by omega)
    refine ⟨b, o + k, ?_, hlt, fun j hj => by rw [rd_drop, Nat.add_assoc]; exact hcl (k + j) (by omega)⟩
    rw [if_neg (by omega), e]
    simp [Addr.add]⟩
theorem Rd.drop_some {w : World} {b o n : Nat} {xs : List Int} (h : Rd w (some ⟨b, o, none⟩) n xs) {k : Nat} (hk : k ≤ n) : Rd w (some ⟨b, o + k, none⟩) (n - k) (xs.drop k) :=
  ⟨by rw [List.length_drop, h.len], by have := h.bd; omega, fun h0 => by
    obtain ⟨b', o', e, hlt, hcl⟩ := h.cells (by omega)
    cases e
    exact ⟨b, o + k, rfl, hlt, fun j hj => by rw [rd_drop, Nat.add_assoc]; exact hcl (k + j) (by omega)⟩⟩
theorem none_drop {A : Option Addr} {c k : Nat} (h : A = none → c = 0) : (if c = k then A else A.map (·.add k)) = none → c - k = 0 := by
  intro e
  have : A = none := by
    split at e
    · exact e
    · simpa using e
  rw [h this]; omega

theorem Own.relax {W : World} {base base' : Nat} {v : Value} {xs : List Int} (h : Own W base v xs) (hb : base' ≤ base) : Own W base' v xs := by
  unfold Own at *
  refine ⟨h.1, ?_⟩
  rcases h.2 with h1 | ⟨g, cap, cur, hv, h2, r⟩
  · exact .inl h1
  · exact .inr ⟨g, cap, cur, hv, Nat.le_trans hb h2, r⟩
theorem Own.form3 {W : World} {base : Nat} {v : Value} {xs : List Int} (h : Own W base v xs) (hb : xs.length * 8 ≤ 140737488351232) : ∃ A c, v = .slice A xs.length c ∧ (A = none → c = 0) ∧ xs.length ≤ c ∧ c < 9223372036854775808 ∧ Rd W A xs.length xs := by
  obtain ⟨A, c, hv, hr⟩ := h.form
  have h' := h
  unfold Own at h'
  rcases h'.2 with ⟨h1, h0⟩ | ⟨g, cap, cur, h1, _, _, h2, h3, h4, _⟩
  · have : xs.length = 0 := by simpa using h0
    rw [h1, this] at hv
    cases hv
    exact ⟨none, 0, by rw [h1, this], fun _ => rfl, by omega, by omega, hr hb⟩
  · rw [h1] at hv
    cases hv
    refine ⟨_, _, h1, (fun e => by cases e), by simpa using h2, by unfold maxLen at h3; omega, hr hb⟩

/-- A number's insertion into rising ones. -/
def ins (out : List Int) (n : Int) : List Int :=
  let k := (out.takeWhile (fun x => decide (x < n))).length
  if k < out.length ∧ rd out k = n then out else out.take k ++ [n] ++ out.drop k
def insAll (xs : List Int) : List Int := xs.foldl ins []
theorem insAll_next {xs : List Int} {t : Nat} {x : Int} (h : xs[t]? = some x) : insAll (xs.take (t + 1)) = ins (insAll (xs.take t)) x := by
  unfold insAll
  rw [List.take_add_one, h]
  simp [List.foldl_append]

theorem at_eq {out : List Int} {n : Int} {k : Nat} (h : ∀ j, j < k → rd out j < n) (hk : k ≤ out.length) (hs : k < out.length → ¬ rd out k < n) : (out.takeWhile (fun x => decide (x < n))).length = k := by
  induction out generalizing k with
  | nil => simp at hk; simp [hk]
  | cons a l ih =>
    cases k with
    | zero =>
      have := hs (by simp)
      have : ¬ a < n := by simpa [rd] using this
      simp [this]
    | succ k =>
      have ha : a < n := by simpa [rd] using h 0 (by omega)
      simp only [List.takeWhile_cons, ha, decide_true, if_true, List.length_cons]
      rw [ih (k := k) (fun j hj => by have := h (j + 1) (by omega); simpa [rd] using this) (by simpa using hk) (fun hl => by have := hs (by simpa using hl); simpa [rd] using this)]
theorem ins_same {out : List Int} {n : Int} {k : Nat} (h : ∀ j, j < k → rd out j < n) (hk : k < out.length) (hs : rd out k = n) : ins out n = out := by
  unfold ins
  rw [at_eq h (by omega) (fun _ => by omega)]
  simp [hk, hs]
theorem ins_new {out : List Int} {n : Int} {k : Nat} (h : ∀ j, j < k → rd out j < n) (hk : k ≤ out.length) (hs : k < out.length → n < rd out k) : ins out n = out.take k ++ [n] ++ out.drop k := by
  unfold ins
  rw [at_eq h hk (fun hl => by have := hs hl; omega)]
  simp only
  rw [if_neg]
  rintro ⟨h1, h2⟩
  have := hs h1
  omega
theorem ins_length (out : List Int) (n : Int) : (ins out n).length ≤ out.length + 1 := by
  unfold ins
  simp only
  split
  · omega
  · simp; omega
theorem insAll_length (xs : List Int) : (insAll xs).length ≤ xs.length := by
  have : ∀ (ys acc : List Int), (ys.foldl ins acc).length ≤ acc.length + ys.length := by
    intro ys
    induction ys with
    | nil => intro acc; simp
    | cons a l ih => intro acc; rw [List.foldl_cons, List.length_cons]; have := ih (ins acc a); have := ins_length acc a; omega
  have := this xs []
  simpa [insAll] using this

end Go.Proofs.Ytbfpdahbmdaenaa
