/-
  What calls make of groups: the plain machine; each call's contract for every case.
-/
import Derived.Test.YtemnhmnompehoaaDrop
import Derived.Test.YtemnhmnompehoaaEven
namespace Go.Proofs.Ytemnhmnompehoaa
open Go Go.RowKit

def nmB (s : List UInt8) (g : Gp) : Bool := g.name.toList == s
def atN (s : List UInt8) (l : List Gp) : Option (Nat × Gp) := (l.findIdx? (nmB s)).bind fun k => (l[k]?).map fun x => (k, x)
def addS (s : ByteArray) (n sub att : Int) (l : List Gp) : Int × List Gp :=
  if checkE s n ≠ 0 then (220, l) else if (atN s.toList l).isSome then (70, l) else if 3 ≤ l.length then (7, l)
  else if sub < 1 ∨ 1099511627776 < sub ∨ att < 0 ∨ 1099511627776 < att then (1, l) else (0, l ++ [Gp.fresh s n.toNat sub att])
def dropS (s : ByteArray) (l : List Gp) : Int × Int × List Gp := match atN s.toList l with
  | none => (0, 220, l)
  | some (k, x) => (x.sub, 0, l.eraseIdx k)
def joinS (s : ByteArray) (l : List Gp) : Int × Int × List Gp := match atN s.toList l with
  | none => (0, 220, l)
  | some (k, x) => if 6 ≤ x.mem.length then (0, 7, l) else if 1099511627776 ≤ x.term ∨ 1099511627776 ≤ x.next then (0, 5, l) else (x.next, 0, l.set k x.joined)
def leaveS (s : ByteArray) (m : Int) (l : List Gp) : Int × List Gp := match atN s.toList l with
  | none => (220, l)
  | some (k, x) => if inB x.mem m = false then (221, l) else if 1099511627776 ≤ x.term then (5, l) else (0, l.set k (x.left m))
def ownsS (s : ByteArray) (m t q : Int) (l : List Gp) : Int := match atN s.toList l with
  | none => 220
  | some (_, x) => x.ownsE m t q
def commitS (s : ByteArray) (m t q pos : Int) (l : List Gp) : Int × List Gp := match atN s.toList l with
  | none => (220, l)
  | some (k, x) => if x.ownsE m t q ≠ 0 then (x.ownsE m t q, l) else if pos < rd x.att q.toNat then (82, l) else if 1099511627776 < pos then (5, l) else (0, l.set k (x.done q.toNat pos))

theorem any_map (s : List UInt8) (l : List Gv) : (l.map Gv.x).findIdx? (nmB s) = l.findIdx? (isN s) := by
  rw [List.findIdx?_map]
  rfl
theorem atN_cases (s : List UInt8) (l : List Gv) : (atN s (l.map Gv.x) = none ∧ whereN s l = -1 ∧ l.any (isN s) = false) ∨
    ∃ (k : Nat) (x : Gv), atN s (l.map Gv.x) = some (k, x.x) ∧ whereN s l = k ∧ l[k]? = some x ∧ l.any (isN s) = true := by
  unfold atN whereN
  rw [any_map]
  cases h : l.findIdx? (isN s) with
  | none =>
    have ha : l.any (isN s) = false := by
      rw [List.findIdx?_eq_none_iff] at h
      rw [List.any_eq_false]
      intro x hx
      rw [h x hx]
      simp
    exact .inl ⟨rfl, by rw [ha]; rfl, ha⟩
  | some k =>
    rw [List.findIdx?_eq_some_iff_getElem] at h
    obtain ⟨hk, h1, h2⟩ := h
    have ha : l.any (isN s) = true := List.any_eq_true.2 ⟨l[k], List.getElem_mem hk, h1⟩
    refine .inr ⟨k, l[k], ?_, ?_, List.getElem?_eq_getElem hk, ha⟩
    · simp [List.getElem?_eq_getElem hk]
    · rw [if_pos ha]
      congr 1
      refine (List.findIdx_eq hk).2 ⟨h1, fun j hj => ?_⟩
      simpa using h2 j hj

/-- A group that calls can have made. -/
structure Gp.good (x : Gp) : Prop where
  m : x.mem.length ≤ 6
  o : x.own.length ≤ 12
  o1 : 1 ≤ x.own.length
  t : x.att.length = x.own.length
  t0 : 0 ≤ x.term
  t1 : x.term ≤ 1099511627776
  n0 : 1 ≤ x.next
  n1 : x.next ≤ 1099511627776
  w1 : ∀ z ∈ x.own, 0 ≤ z ∧ z ≤ 1099511627776
  w2 : ∀ z ∈ x.mem, 1 ≤ z ∧ z < x.next
  up : x.mem.Pairwise (· < ·)
  ow : x.mem ≠ [] → ∀ z ∈ x.own, z ∈ x.mem
  oz : x.mem = [] → ∀ z ∈ x.own, z = 0
  a0 : ∀ z ∈ x.att, 0 ≤ z ∧ z ≤ 1099511627776
theorem Gp.good.small {x : Gp} (h : x.good) : x.small := ⟨by have := h.m; omega, by have := h.o; omega, by have := h.o; have := h.t; omega⟩
theorem Gp.good.wf1 {x : Gp} (h : x.good) : ∀ m ∈ x.own, Wf m := fun m hm => wf_of (by have := h.w1 m hm; omega) (by have := h.w1 m hm; omega)
theorem Gp.good.wf2 {x : Gp} (h : x.good) : ∀ m ∈ x.mem, Wf m := fun m hm => wf_of (by have := h.w2 m hm; omega) (by have := h.w2 m hm; have := h.n1; omega)
theorem share_zero (os : List Int) : ∀ z ∈ share os [], z = 0 := by
  intro z hz
  have e : share os [] = List.replicate os.length 0 := by unfold share; rw [if_pos (by kernel_rfl)]
  rw [e] at hz
  exact (List.mem_replicate.1 hz).2
theorem team_up {ms : List Int} (h : ms.Pairwise (· < ·)) (h1 : ∀ z ∈ ms, 1 ≤ z) : team ms = ms :=
  same_rising (team_what ms).1 h fun x => by rw [(team_what ms).2 x]; exact ⟨fun h => h.1, fun h => ⟨h, h1 x h⟩⟩
theorem Gp.anew_good {x : Gp} (h : x.mem.length ≤ 6) (ho : x.own.length ≤ 12) (o1 : 1 ≤ x.own.length) (ht : x.att.length = x.own.length) (t0 : 0 ≤ x.term) (t1 : x.term < 1099511627776) (n0 : 1 ≤ x.next) (n1 : x.next ≤ 1099511627776)
    (w2 : ∀ z ∈ x.mem, 1 ≤ z ∧ z < x.next) (up : x.mem.Pairwise (· < ·)) (a0 : ∀ z ∈ x.att, 0 ≤ z ∧ z ≤ 1099511627776) : x.anew.good := by
  have htm := team_up up (fun z hz => (w2 z hz).1)
  have hsh : x.mem ≠ [] → ∀ z ∈ share x.own x.mem, z ∈ x.mem := fun hne z hz => by
    have := share_mem x.own x.mem (by rw [htm]; exact fun h => hne (List.eq_nil_of_length_eq_zero h)) z hz
    rwa [htm] at this
  have hz0 : x.mem = [] → ∀ z ∈ share x.own x.mem, z = 0 := fun he z hz => by rw [he] at hz; exact share_zero _ z hz
  refine ⟨h, ?_, ?_, ?_, ?_, ?_, n0, n1, fun z hz => ?_, w2, up, hsh, hz0, a0⟩
  · show (share x.own x.mem).length ≤ 12; rw [share_len]; exact ho
  · show 1 ≤ (share x.own x.mem).length; rw [share_len]; exact o1
  · show x.att.length = (share x.own x.mem).length; rw [share_len]; exact ht
  · show 0 ≤ x.term + 1; omega
  · show x.term + 1 ≤ _; omega
  · by_cases hne : x.mem = []
    · rw [hz0 hne z hz]; omega
    · have := w2 z (hsh hne z hz); omega
theorem Gp.good.joined_good {x : Gp} (h : x.good) (hm : x.mem.length < 6) (ht : x.term < 1099511627776) (hn : x.next < 1099511627776) : x.joined.good := by
  refine Gp.anew_good (x := { x with mem := x.mem ++ [x.next], next := x.next + 1 }) (by simp; omega) h.o h.o1 h.t h.t0 ht (by have := h.n0; dsimp only; omega) (by dsimp only; omega) (fun z hz => ?_) ?_ h.a0
  · dsimp only at hz ⊢
    rcases List.mem_append.1 hz with hz | hz
    · have := h.w2 z hz; omega
    · simp at hz; have := h.n0; omega
  · dsimp only
    rw [List.pairwise_append]
    exact ⟨h.up, by simp, fun a ha b hb => by simp at hb; subst hb; exact (h.w2 a ha).2⟩
theorem Gp.good.left_good {x : Gp} (h : x.good) (m : Int) (ht : x.term < 1099511627776) : (x.left m).good := by
  refine Gp.anew_good (x := { x with mem := woM m x.mem }) (by have := woM_len m x.mem; have := h.m; dsimp only; omega) h.o h.o1 h.t h.t0 ht h.n0 h.n1 (fun z hz => ?_) ?_ h.a0
  · exact h.w2 z (List.mem_filter.1 hz).1
  · exact h.up.filter _
theorem Gp.good.done_good {x : Gp} (h : x.good) (j : Nat) (pos : Int) (h0 : 0 ≤ pos) (h1 : pos ≤ 1099511627776) : (x.done j pos).good :=
  ⟨h.m, h.o, h.o1, by show (x.att.set j pos).length = _; rw [List.length_set]; exact h.t, h.t0, h.t1, h.n0, h.n1, h.w1, h.w2, h.up, h.ow, h.oz, fun z hz => by
    rcases List.mem_or_eq_of_mem_set hz with hz | rfl
    · exact h.a0 z hz
    · exact ⟨h0, h1⟩⟩
theorem Gp.fresh_good (s : ByteArray) {n : Nat} (h0 : 1 ≤ n) (h1 : n ≤ 12) (sub : Int) {att : Int} (a0 : 0 ≤ att) (a1 : att ≤ 1099511627776) : (Gp.fresh s n sub att).good :=
  ⟨by simp [Gp.fresh], by simp [Gp.fresh]; omega, by simp [Gp.fresh]; omega, by simp [Gp.fresh], by simp [Gp.fresh], by simp [Gp.fresh], by simp [Gp.fresh], by simp [Gp.fresh], (fun z hz => by
    have : z = 0 := (List.mem_replicate.1 hz).2
    omega), (fun z hz => by cases hz), List.Pairwise.nil, fun h => absurd rfl h, fun _ z hz => (List.mem_replicate.1 hz).2, fun z hz => by
    have : z = att := (List.mem_replicate.1 hz).2
    omega⟩
def Goods (l : List Gp) : Prop := ∀ x ∈ l, x.good
theorem Goods.set {l : List Gp} (h : Goods l) {k : Nat} {x : Gp} (hx : x.good) : Goods (l.set k x) := fun y hy => by
  rcases List.mem_or_eq_of_mem_set hy with hy | rfl
  · exact h y hy
  · exact hx
theorem atN_get {s : List UInt8} {l : List Gp} {k : Nat} {x : Gp} (h : atN s l = some (k, x)) : l[k]? = some x := by
  unfold atN at h
  cases h1 : l.findIdx? (nmB s) with
  | none => rw [h1] at h; cases h
  | some j =>
    rw [h1] at h
    cases h2 : l[j]? with
    | none => simp [h2] at h
    | some y =>
      simp [h2] at h
      obtain ⟨rfl, rfl⟩ := h
      exact h2
theorem addS_good {s : ByteArray} {n sub att : Int} {l : List Gp} (h : Goods l) : Goods (addS s n sub att l).2 := by
  unfold addS
  split
  · exact h
  split
  · exact h
  split
  · exact h
  split
  · exact h
  · rename_i h1 _ _ h2
    have hc : checkE s n = 0 := by omega
    unfold checkE at hc
    split at hc
    · rename_i hh
      intro y hy
      rcases List.mem_append.1 hy with hy | hy
      · exact h y hy
      · simp at hy
        subst hy
        exact Gp.fresh_good s (by omega) (by omega) sub (by omega) (by omega)
    · cases hc
theorem dropS_good {s : ByteArray} {l : List Gp} (h : Goods l) : Goods (dropS s l).2.2 := by
  unfold dropS
  split
  · exact h
  · exact fun y hy => h y (List.mem_of_mem_eraseIdx hy)
theorem joinS_good {s : ByteArray} {l : List Gp} (h : Goods l) : Goods (joinS s l).2.2 := by
  unfold joinS
  split
  · exact h
  · rename_i k x hx
    have hg := h x (List.mem_of_getElem? (atN_get hx))
    split
    · exact h
    split
    · exact h
    · exact h.set (hg.joined_good (by omega) (by omega) (by omega))
theorem leaveS_good {s : ByteArray} {m : Int} {l : List Gp} (h : Goods l) : Goods (leaveS s m l).2 := by
  unfold leaveS
  split
  · exact h
  · rename_i k x hx
    have hg := h x (List.mem_of_getElem? (atN_get hx))
    split
    · exact h
    split
    · exact h
    · exact h.set (hg.left_good m (by omega))
theorem ownsE_zero {x : Gp} {m t q : Int} (h : x.ownsE m t q = 0) : inB x.mem m = true ∧ (t == x.term) = true ∧ ∃ j : Nat, q = j ∧ j < x.own.length ∧ rd x.own j = m := by
  unfold Gp.ownsE at h
  split at h
  · cases h
  split at h
  · cases h
  split at h
  · cases h
  split at h
  · cases h
  · rename_i h1 h2 h3 h4
    refine ⟨inB_iff.2 (Classical.not_not.1 h1), by simpa using h2, q.toNat, by omega, by omega, Classical.not_not.1 h4⟩
theorem commitS_good {s : ByteArray} {m t q pos : Int} {l : List Gp} (h : Goods l) : Goods (commitS s m t q pos l).2 := by
  unfold commitS
  split
  · exact h
  · rename_i k x hx
    have hg := h x (List.mem_of_getElem? (atN_get hx))
    split
    · exact h
    rename_i h0
    obtain ⟨_, _, j, rfl, hj, _⟩ := ownsE_zero (Classical.not_not.1 h0)
    split
    · exact h
    split
    · exact h
    · rename_i h1 h2
      have hja : j < x.att.length := by rw [hg.t]; exact hj
      have := hg.a0 _ (List.getElem_mem hja)
      rw [Int.toNat_natCast, rd_lt hja] at h1
      exact h.set (hg.done_good _ _ (by omega) (by omega))

/-- Behind a call: Groups at p are L. -/
def Nx (w : World) (p : Nat) (L : List Gp) (w' : World) : Prop := ∃ A' c' l', Gs w' p A' c' l' ∧ l'.map Gv.x = L ∧ w.grownBy w' (some p)
theorem nx_same {w w' : World} {p : Nat} {A : Option Addr} {c : Nat} {l : List Gv} (h : Gs w p A c l) (hb : Below w.heap.size w w') : Nx w p (l.map Gv.x) w' := ⟨A, c, l, h.below hb, rfl, grows_below hb (Nat.le_refl _) _⟩
theorem add_any {w : World} {p : Nat} {A : Option Addr} {c : Nat} {l : List Gv} (h : Gs w p A c l) (s : ByteArray) (n sub att : Int) :
    Calls Try.prog 44 #[.pointer (some ⟨p, 0, none⟩), .string s, .int .i64 n, .int .i64 sub, .int .i64 att] w fun e w' => e = .returned (.int .i64 (addS s n sub att (l.map Gv.x)).1) ∧ Nx w p (addS s n sub att (l.map Gv.x)).2 w' := by
  unfold addS
  by_cases hc : checkE s n = 0
  · rw [if_neg (by omega)]
    rcases atN_cases s.toList l with ⟨e1, e2, e3⟩ | ⟨k, x, e1, e2, e3, e4⟩
    · rw [e1, if_neg (by simp), List.length_map]
      by_cases hl : 3 ≤ l.length
      · rw [if_pos hl]
        exact (add_full h s n sub att hc e3 hl).mono fun _ _ ⟨a, b⟩ => ⟨a, nx_same h b⟩
      · rw [if_neg hl]
        by_cases ha : sub < 1 ∨ 1099511627776 < sub ∨ att < 0 ∨ 1099511627776 < att
        · rw [if_pos ha]
          exact (add_arg h s n sub att hc e3 (by omega) ha).mono fun _ _ ⟨a, b⟩ => ⟨a, nx_same h b⟩
        · rw [if_neg ha]
          have hn : 1 ≤ n ∧ n ≤ 12 := by
            unfold checkE at hc
            split at hc
            · rename_i hh; exact hh.2
            · cases hc
          obtain ⟨m, rfl⟩ : ∃ m : Nat, n = m := ⟨n.toNat, by omega⟩
          rw [Int.toNat_natCast]
          refine (add_ok h s m sub att hc (by omega) (by omega) e3 (by omega) (by omega) (by omega) (by omega) (by omega)).mono ?_
          rintro e w' ⟨rfl, A', c', x', hg, hx, hw⟩
          exact ⟨rfl, A', c', _, hg, by rw [List.map_append, List.map_cons, List.map_nil, hx], hw⟩
    · rw [e1, if_pos (by simp)]
      exact (add_there h s n sub att hc e4).mono fun _ _ ⟨a, b⟩ => ⟨a, nx_same h b⟩
  · rw [if_pos (by omega)]
    refine (add_check h s n sub att ?_).mono fun _ _ ⟨a, b⟩ => ⟨a, nx_same h b⟩
    unfold checkE at hc ⊢
    split at hc
    · exact absurd rfl hc
    · rw [if_neg (by assumption)]
theorem drop_any {w : World} {p : Nat} {A : Option Addr} {c : Nat} {l : List Gv} (h : Gs w p A c l) (s : ByteArray) :
    Calls Try.prog 42 #[.pointer (some ⟨p, 0, none⟩), .string s] w fun e w' => e = .returned (.tuple #[.int .i64 (dropS s (l.map Gv.x)).1, .int .i64 (dropS s (l.map Gv.x)).2.1]) ∧ Nx w p (dropS s (l.map Gv.x)).2.2 w' := by
  unfold dropS
  rcases atN_cases s.toList l with ⟨e1, e2, e3⟩ | ⟨k, x, e1, e2, e3, e4⟩
  · rw [e1]
    exact (drop_err rfl (findE_no h s e2)).mono fun _ _ ⟨a, b⟩ => ⟨a, nx_same h b⟩
  · rw [e1]
    refine (drop_ok h s k x e2 e3).mono ?_
    rintro e w' ⟨rfl, A', c', hg, hw⟩
    exact ⟨rfl, A', c', _, hg, by dsimp only; rw [List.eraseIdx_eq_take_drop_succ, List.eraseIdx_eq_take_drop_succ, List.map_append, List.map_take, List.map_drop], hw⟩
theorem join_any {w : World} {p : Nat} {A : Option Addr} {c : Nat} {l : List Gv} (h : Gs w p A c l) (hg : Goods (l.map Gv.x)) (s : ByteArray) :
    Calls Try.prog 43 #[.pointer (some ⟨p, 0, none⟩), .string s] w fun e w' => e = .returned (.tuple #[.int .i64 (joinS s (l.map Gv.x)).1, .int .i64 (joinS s (l.map Gv.x)).2.1]) ∧ Nx w p (joinS s (l.map Gv.x)).2.2 w' := by
  unfold joinS
  rcases atN_cases s.toList l with ⟨e1, e2, e3⟩ | ⟨k, x, e1, e2, e3, e4⟩
  · rw [e1]
    exact (join_err rfl (findE_no h s e2)).mono fun _ _ ⟨a, b⟩ => ⟨a, nx_same h b⟩
  · have hx := hg x.x (List.mem_map_of_mem (List.mem_of_getElem? e3))
    rw [e1]
    dsimp only
    by_cases h1 : 6 ≤ x.x.mem.length
    · rw [if_pos h1]
      exact (join_full h s k x e2 e3 h1).mono fun _ _ ⟨a, b⟩ => ⟨a, nx_same h b⟩
    · rw [if_neg h1]
      by_cases h2 : 1099511627776 ≤ x.x.term ∨ 1099511627776 ≤ x.x.next
      · rw [if_pos h2]
        exact (join_range h s k x e2 e3 (by omega) h2).mono fun _ _ ⟨a, b⟩ => ⟨a, nx_same h b⟩
      · rw [if_neg h2]
        refine (join_ok h s k x e2 e3 (by omega) hx.t0 (by omega) (by have := hx.n0; omega) (by omega) hx.small hx.wf1 hx.wf2).mono ?_
        rintro e w' ⟨rfl, A', c', x', hg', hx', hw⟩
        exact ⟨rfl, A', c', _, hg', by rw [List.map_set, hx'], hw⟩
theorem leave_any {w : World} {p : Nat} {A : Option Addr} {c : Nat} {l : List Gv} (h : Gs w p A c l) (hg : Goods (l.map Gv.x)) (s : ByteArray) (m : Int) :
    Calls Try.prog 45 #[.pointer (some ⟨p, 0, none⟩), .string s, .int .i64 m] w fun e w' => e = .returned (.int .i64 (leaveS s m (l.map Gv.x)).1) ∧ Nx w p (leaveS s m (l.map Gv.x)).2 w' := by
  unfold leaveS
  rcases atN_cases s.toList l with ⟨e1, e2, e3⟩ | ⟨k, x, e1, e2, e3, e4⟩
  · rw [e1]
    exact (leave_err rfl (findE_no h s e2) m).mono fun _ _ ⟨a, b⟩ => ⟨a, nx_same h b⟩
  · have hx := hg x.x (List.mem_map_of_mem (List.mem_of_getElem? e3))
    rw [e1]
    dsimp only
    cases h1 : inB x.x.mem m with
    | false =>
      rw [if_pos rfl]
      exact (leave_member h s k x m e2 e3 h1).mono fun _ _ ⟨a, b⟩ => ⟨a, nx_same h b⟩
    | true =>
      rw [if_neg (by simp)]
      by_cases h2 : 1099511627776 ≤ x.x.term
      · rw [if_pos h2]
        exact (leave_range h s k x m e2 e3 h1 h2).mono fun _ _ ⟨a, b⟩ => ⟨a, nx_same h b⟩
      · rw [if_neg h2]
        refine (leave_ok h s k x m e2 e3 h1 hx.t0 (by omega) hx.small hx.wf1 hx.wf2).mono ?_
        rintro e w' ⟨rfl, A', c', x', hg', hx', hw⟩
        exact ⟨rfl, A', c', _, hg', by rw [List.map_set, hx'], hw⟩
theorem owns_any {w : World} {p : Nat} {A : Option Addr} {c : Nat} {l : List Gv} (h : Gs w p A c l) (s : ByteArray) (m t q : Int) :
    Calls Try.prog 31 #[.pointer (some ⟨p, 0, none⟩), .string s, .int .i64 m, .int .i64 t, .int .i64 q] w fun e w' => e = .returned (.int .i64 (ownsS s m t q (l.map Gv.x))) ∧ Below w.heap.size w w' := by
  unfold ownsS
  rcases atN_cases s.toList l with ⟨e1, e2, e3⟩ | ⟨k, x, e1, e2, e3, e4⟩
  · rw [e1]
    exact owns_err rfl (findE_no h s e2) m t q
  · rw [e1]
    dsimp only
    unfold Gp.ownsE
    by_cases h1 : m ∈ x.x.mem
    · rw [if_neg (Classical.not_not.2 h1)]
      by_cases h2 : t = x.x.term
      · rw [if_neg (Classical.not_not.2 h2)]
        by_cases h3 : q < 0 ∨ x.x.own.length ≤ q
        · rw [if_pos h3]
          by_cases h4 : q < 0
          · exact owns_3 h s k x e2 e3 m t q (inB_iff.2 h1) (by simpa using h2) h4
          · exact owns_4 h s k x e2 e3 m t q (inB_iff.2 h1) (by simpa using h2) (by omega) (by omega)
        · rw [if_neg h3]
          obtain ⟨j, rfl⟩ : ∃ j : Nat, q = j := ⟨q.toNat, by omega⟩
          rw [Int.toNat_natCast]
          by_cases h4 : rd x.x.own j = m
          · rw [if_neg (Classical.not_not.2 h4)]
            exact owns_6 h s k x e2 e3 m t j (inB_iff.2 h1) (by simpa using h2) (by omega) h4
          · rw [if_pos h4]
            exact owns_5 h s k x e2 e3 m t j (inB_iff.2 h1) (by simpa using h2) (by omega) (by simpa using h4)
      · rw [if_pos h2]
        exact owns_2 h s k x e2 e3 m t q (inB_iff.2 h1) (by simpa using h2)
    · rw [if_pos h1]
      exact owns_1 h s k x e2 e3 m t q (inB_false.2 h1)
theorem commit_any {w : World} {p : Nat} {A : Option Addr} {c : Nat} {l : List Gv} (h : Gs w p A c l) (hg : Goods (l.map Gv.x)) (s : ByteArray) (m t q pos : Int) :
    Calls Try.prog 46 #[.pointer (some ⟨p, 0, none⟩), .string s, .int .i64 m, .int .i64 t, .int .i64 q, .int .i64 pos] w fun e w' => e = .returned (.int .i64 (commitS s m t q pos (l.map Gv.x)).1) ∧ Nx w p (commitS s m t q pos (l.map Gv.x)).2 w' := by
  have HO := owns_any h s m t q
  unfold commitS
  unfold ownsS at HO
  rcases atN_cases s.toList l with ⟨e1, e2, e3⟩ | ⟨k, x, e1, e2, e3, e4⟩
  · rw [e1] at HO ⊢
    exact (commit_err s m t q pos 220 rfl HO).mono fun _ _ ⟨a, b⟩ => ⟨a, nx_same h b⟩
  · have hx := hg x.x (List.mem_map_of_mem (List.mem_of_getElem? e3))
    rw [e1] at HO ⊢
    dsimp only at HO ⊢
    by_cases h0 : x.x.ownsE m t q = 0
    · rw [if_neg (Classical.not_not.2 h0)]
      obtain ⟨hi, ht, j, rfl, hj, hd⟩ := ownsE_zero h0
      have hja : j < x.x.att.length := by rw [hx.t]; exact hj
      rw [Int.toNat_natCast]
      by_cases h1 : pos < rd x.x.att j
      · rw [if_pos h1]
        exact (commit_back h s k x e2 e3 m t j pos hi ht hj hd hja h1).mono fun _ _ ⟨a, b⟩ => ⟨a, nx_same h b⟩
      · rw [if_neg h1]
        by_cases h2 : 1099511627776 < pos
        · rw [if_pos h2]
          exact (commit_range h s k x e2 e3 m t j pos hi ht hj hd hja (by omega) h2).mono fun _ _ ⟨a, b⟩ => ⟨a, nx_same h b⟩
        · rw [if_neg h2]
          refine (commit_ok h s k x e2 e3 m t j pos hi ht hj hd hja (by omega) (by omega) hx.small).mono ?_
          rintro e w' ⟨rfl, A', c', x', hg', hx', hw⟩
          exact ⟨rfl, A', c', _, hg', by rw [List.map_set, hx'], hw⟩
    · rw [if_pos h0]
      exact (commit_err s m t q pos _ (by simpa using h0) HO).mono fun _ _ ⟨a, b⟩ => ⟨a, nx_same h b⟩
end Go.Proofs.Ytemnhmnompehoaa
