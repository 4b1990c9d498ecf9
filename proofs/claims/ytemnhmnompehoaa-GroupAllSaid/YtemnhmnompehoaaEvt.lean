/-
  Events that came in: a slice of them, as read.
-/
import Derived.Test.YtemnhmnompehoaaPlace
namespace Go.Proofs.Ytemnhmnompehoaa
open Go.ChangeShapes Go.WideShapes Go.ChangeAt Go.RowKit Go.Joins Go.Deep

/-- An event. -/
structure Ev where
  pos : Int
  key : ByteArray
  had : Bool
  old : ByteArray
  has : Bool
  now : ByteArray
  deriving DecidableEq
def Ev.cells (k : Ev) : List Value := [.int .i64 k.pos, .string k.key, .bool k.had, .string k.old, .bool k.has, .string k.now]
instance : Inhabited Ev := ⟨⟨0, ⟨#[]⟩, false, ⟨#[]⟩, false, ⟨#[]⟩⟩⟩
/-- A slice of events, as read. -/
structure RE (w : World) (A : Option Addr) (n : Nat) (ks : List Ev) : Prop where
  len : ks.length = n
  bd : n * 72 ≤ 140737488355328
  str : ∀ k ∈ ks, k.key.size ≤ maxLen ∧ k.old.size ≤ maxLen ∧ k.now.size ≤ maxLen
  row : 0 < n → ∃ b o, A = some ⟨b, o, none⟩ ∧ b < w.heap.size ∧ ∀ (i : Nat) (k : Ev), ks[i]? = some k → ∀ (j : Nat) (u : Value), k.cells[j]? = some u → w.cell? ⟨b, o + (i * 6 + j), none⟩ = some u
theorem RE.below {w w' : World} {A : Option Addr} {n : Nat} {ks : List Ev} (h : RE w A n ks) (hb : Below w.heap.size w w') : RE w' A n ks :=
  ⟨h.len, h.bd, h.str, fun hn => by
    obtain ⟨b, o, e, hl, hc⟩ := h.row hn
    exact ⟨b, o, e, Nat.lt_of_lt_of_le hl hb.size, fun i k hk j u hu => (hb.cell (p := ⟨b, o + (i * 6 + j), none⟩) hl).trans (hc i k hk j u hu)⟩⟩
theorem RE.get {w : World} {A : Option Addr} {n : Nat} {ks : List Ev} (h : RE w A n ks) {i : Nat} {k : Ev} (hk : ks[i]? = some k) :
    ∃ b o : Nat, A = some ⟨b, o, none⟩ ∧ b < w.heap.size ∧ w.cell? ⟨b, o + i * 6, none⟩ = some (.int .i64 k.pos) ∧ w.cell? ⟨b, o + i * 6 + 1, none⟩ = some (.string k.key) ∧ w.cell? ⟨b, o + i * 6 + 2, none⟩ = some (.bool k.had) ∧
      w.cell? ⟨b, o + i * 6 + 3, none⟩ = some (.string k.old) ∧ w.cell? ⟨b, o + i * 6 + 4, none⟩ = some (.bool k.has) ∧ w.cell? ⟨b, o + i * 6 + 5, none⟩ = some (.string k.now) := by
  have hi : i < ks.length := (List.getElem?_eq_some_iff.1 hk).1
  obtain ⟨b, o, e, hl, hc⟩ := h.row (by rw [← h.len]; omega)
  have q := fun (j : Nat) (u : Value) => hc i k hk j u
  simp only [← Nat.add_assoc] at q
  exact ⟨b, o, e, hl, q 0 _ rfl, q 1 _ rfl, q 2 _ rfl, q 3 _ rfl, q 4 _ rfl, q 5 _ rfl⟩

variable {H : Type} {enc : TypeId × Value → H} {W : World}
set_option maxRecDepth 100000 in
theorem evs_open {base : Nat} {v : Value} {d : DataW H} {p : List MemPlace} (hv : Value.okWide Try.prog W .any base 56 v) (h : DataW.Trod enc Try.prog W 0 (fun _ => true) true 56 v d p) (hz : ∀ x ∈ DataW.weights Try.prog 56 d, x ≤ reachBytes) :
    ∃ A n c ks, v = .slice A n c ∧ RE W A n ks ∧ (A = none → c = 0) ∧ n * 72 ≤ 140737488351232 := by
  obtain ⟨A0, n0, c0, rfl⟩ := okWide_slice Try.underlying56 hv
  obtain ⟨fuel, hf⟩ := h
  rcases open_slice_fields Try.underlying56 Try.underlying58 (by kernel_rfl) (by kernel_rfl) hf with ⟨e, _⟩ | ⟨a, len, cap, m, D, Pl, e, hb, hl, hm, hmm, hx, hi⟩
  · simp [Value.cells] at e
    obtain ⟨rfl, rfl, rfl⟩ := e
    exact ⟨none, 0, 0, [], rfl, ⟨rfl, by decide, (fun k hk => by cases hk), fun h => absurd h (by decide)⟩, fun _ => rfl, by decide⟩
  · simp [Value.cells] at e
    obtain ⟨rfl, rfl, rfl⟩ := e
    simp only [if_true] at hmm
    subst hmm
    have hbd : m * 72 ≤ 140737488351232 := by
      have hw := hz ((n0 + (m - n0)) * 72)
      simp only [Prod.mk.injEq] at hx
      rw [hx.1] at hw
      have := hw (by
        simp only [DataW.weights, Try.underlying56, List.mem_cons]
        left
        rw [show Try.prog.bytesOf 58 = 72 by kernel_rfl]
        simp)
      unfold reachBytes at this
      omega
    obtain ⟨K, hK⟩ := choose_lt (α := Ev) (n := m) (p := fun i k => (k.key.size ≤ maxLen ∧ k.old.size ≤ maxLen ∧ k.now.size ≤ maxLen) ∧ ∀ (j : Nat) (u : Value), k.cells[j]? = some u → W.cell? (a.add (i * 6 + j)) = some u) (fun i hic => by
      obtain ⟨ys, n', _, _, _, hf'⟩ := hi i hic
      obtain ⟨v0, y0, g0, _, t0⟩ := hf' 0 _ rfl
      obtain ⟨v1, y1, g1, _, t1⟩ := hf' 1 _ rfl
      obtain ⟨v2, y2, g2, _, t2⟩ := hf' 2 _ rfl
      obtain ⟨v3, y3, g3, _, t3⟩ := hf' 3 _ rfl
      obtain ⟨v4, y4, g4, _, t4⟩ := hf' 4 _ rfl
      obtain ⟨v5, y5, g5, _, t5⟩ := hf' 5 _ rfl
      obtain ⟨x0, e0, _, _⟩ := DataW.trod_int Try.underlying3 t0
      obtain ⟨x1, e1, _, s1⟩ := DataW.trod_string Try.underlying9 t1
      obtain ⟨x2, e2, _⟩ := DataW.trod_bool Try.underlying4 t2
      obtain ⟨x3, e3, _, s3⟩ := DataW.trod_string Try.underlying9 t3
      obtain ⟨x4, e4, _⟩ := DataW.trod_bool Try.underlying4 t4
      obtain ⟨x5, e5, _, s5⟩ := DataW.trod_string Try.underlying9 t5
      simp only [List.cons.injEq, and_true] at e0 e1 e2 e3 e4 e5
      subst e0 e1 e2 e3 e4 e5
      refine ⟨⟨x0, x1, x2, x3, x4, x5⟩, ⟨s1, s3, s5⟩, fun j u hu => ?_⟩
      match j, hu with
      | 0, hu => cases hu; exact g0
      | 1, hu => cases hu; exact g1
      | 2, hu => cases hu; exact g2
      | 3, hu => cases hu; exact g3
      | 4, hu => cases hu; exact g4
      | 5, hu => cases hu; exact g5)
    refine ⟨some a, n0, m, (List.range n0).map K, rfl, ⟨by simp, by omega, (fun k hk => by obtain ⟨i, hi, rfl⟩ := List.mem_map.1 hk; exact (hK i (by have := List.mem_range.1 hi; omega)).1), fun h0 => ?_⟩, (fun h => by cases h), by omega⟩
    obtain ⟨b, off, spot⟩ := a
    have h1 := (hK 0 (by omega)).2 0 (.int .i64 (K 0).pos) rfl
    have hspot : spot = none := by simpa [Addr.add] using World.cell?_spot h1
    subst hspot
    refine ⟨b, off, rfl, World.block_lt_of_cell? W _ (by simpa [Addr.add] using h1), fun i k hk j u hu => ?_⟩
    have hil : i < n0 := by have := (List.getElem?_eq_some_iff.1 hk).1; simpa using this
    rw [List.getElem?_map, List.getElem?_range hil] at hk
    cases hk
    have := (hK i (by omega)).2 j u hu
    rw [add_plain] at this
    exact this
end Go.Proofs.Ytemnhmnompehoaa
