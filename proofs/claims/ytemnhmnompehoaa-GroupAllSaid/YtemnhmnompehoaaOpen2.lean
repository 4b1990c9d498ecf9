/-
  Calls that came in: a slice of them, one by value.
-/
import Derived.Test.YtemnhmnompehoaaDoes
import Derived.Test.YtemnhmnompehoaaOpen
import Derived.Deep.Slices
import Derived.Deep.Fields
import Derived.ChangeSame
namespace Go.Proofs.Ytemnhmnompehoaa
open Go.ChangeShapes Go.WideShapes Go.ChangeAt Go.RowKit Go.Joins Go.Deep

section
variable {H : Type} {enc : TypeId × Value → H} {P : Program} {w : World} {base : Nat} {spare : Nat → Bool} {held : Bool}
theorem open_slice_fields {t e : TypeId} {fs : Array Field} {fuel : Nat} {cs : List Value} {x : DataW H × List MemPlace} (ht : P.underlying t = some (.slice e)) (he : P.underlying e = some (.struct fs))
    (hone : oneCellFields P fs = true) (hC : P.cellsOf e = fs.size) (h : DataW.trod enc P w base spare held fuel t cs = some x) :
    (cs = [.slice none 0 0] ∧ x = (.nil, [])) ∨
    ∃ (a : Addr) (len cap m : Nat) (D : Nat → DataW H) (Pl : Nat → List MemPlace), cs = [.slice (some a) len cap] ∧ base ≤ a.block ∧ len ≤ cap ∧ cap ≤ maxLen ∧ m = (if spare a.block then cap else len) ∧
      x = (.slice ((List.range len).map D) ((List.range (m - len)).map fun j => D (len + j)), MemPlace.row a (m * fs.size) ++ (List.range m).flatMap Pl) ∧
      ∀ i, i < m → ∃ (ys : List (DataW H × List MemPlace)) (n : Nat), D i = .agg (ys.map (·.1)) ∧ Pl i = ys.flatMap (·.2) ∧ ys.length = fs.size ∧
        ∀ (j : Nat) (f : Field), fs[j]? = some f → ∃ (v : Value) (y : DataW H × List MemPlace), w.cell? (a.add (i * fs.size + j)) = some v ∧ ys[j]? = some y ∧ DataW.trod enc P w base spare held n f.type [v] = some y := by
  rcases open_slice ht h with h0 | ⟨a, len, cap, m, n, D, Pl, hcs, hb, hl, hm, hmm, hx, hi⟩
  · exact .inl h0
  · refine .inr ⟨a, len, cap, m, D, Pl, hcs, hb, hl, hm, hmm, by rw [hC] at hx; exact hx, fun i him => ?_⟩
    obtain ⟨cs', hc, ht'⟩ := hi i him
    rw [hC] at hc
    obtain ⟨ys, n', hn', hy, hlen, hyl, hf⟩ := DataW.trod_struct he ht'
    obtain ⟨_, hcl, hat⟩ := World.cells?_some hc
    simp only [Prod.mk.injEq] at hy
    refine ⟨ys, n', hy.1, hy.2, hyl, fun j f hj => ?_⟩
    obtain ⟨ho, hk⟩ := hone_of hone j f hj
    have hjl : j < fs.size := (Array.getElem?_eq_some_iff.1 hj).1
    have hcell := hat j hjl
    have hv : cs'[j]? = some (cs'[j]'(by omega)) := List.getElem?_eq_getElem (by omega)
    have h1 := hf j f hj
    rw [ho, hk] at h1
    have hone' : (cs'.drop j).take 1 = [cs'[j]'(by omega)] := by
      rw [List.drop_eq_getElem_cons (by omega)]
      rfl
    rw [hone'] at h1
    have hys : ys[j]? = some (ys[j]'(by omega)) := List.getElem?_eq_getElem (by omega)
    refine ⟨_, _, ?_, hys, h1.trans hys⟩
    rw [← Go.Deep.add_add, hcell, hv]
end

def doFs : Array Field := #[
        { name := "Op", type := 3, offset := 0, embedded := false, tag := "", pkgPath := "", byteOffset := 0 }, { name := "Name", type := 9, offset := 1, embedded := false, tag := "", pkgPath := "", byteOffset := 8 },
        { name := "Parts", type := 3, offset := 2, embedded := false, tag := "", pkgPath := "", byteOffset := 24 }, { name := "Sub", type := 3, offset := 3, embedded := false, tag := "", pkgPath := "", byteOffset := 32 },
        { name := "At", type := 3, offset := 4, embedded := false, tag := "", pkgPath := "", byteOffset := 40 }, { name := "Member", type := 3, offset := 5, embedded := false, tag := "", pkgPath := "", byteOffset := 48 },
        { name := "Term", type := 3, offset := 6, embedded := false, tag := "", pkgPath := "", byteOffset := 56 }, { name := "Part", type := 3, offset := 7, embedded := false, tag := "", pkgPath := "", byteOffset := 64 }]
theorem under40 : Try.prog.underlying 40 = some (.struct doFs) := Try.underlying40
instance : Inhabited Dv := ⟨⟨0, ⟨#[]⟩, 0, 0, 0, 0, 0, 0⟩⟩
/-- A slice of calls, as read. -/
structure RD (w : World) (A : Option Addr) (n : Nat) (ks : List Dv) : Prop where
  len : ks.length = n
  bd : n * 72 ≤ 140737488355328
  str : ∀ k ∈ ks, k.name.size ≤ maxLen
  row : 0 < n → ∃ b o, A = some ⟨b, o, none⟩ ∧ b < w.heap.size ∧ ∀ (i : Nat) (k : Dv), ks[i]? = some k → ∀ (j : Nat) (u : Value), k.cells[j]? = some u → w.cell? ⟨b, o + (i * 8 + j), none⟩ = some u
theorem RD.below {w w' : World} {A : Option Addr} {n : Nat} {ks : List Dv} (h : RD w A n ks) (hb : Below w.heap.size w w') : RD w' A n ks :=
  ⟨h.len, h.bd, h.str, fun hn => by
    obtain ⟨b, o, e, hl, hc⟩ := h.row hn
    exact ⟨b, o, e, Nat.lt_of_lt_of_le hl hb.size, fun i k hk j u hu => (hb.cell (p := ⟨b, o + (i * 8 + j), none⟩) hl).trans (hc i k hk j u hu)⟩⟩
theorem RD.get {w : World} {A : Option Addr} {n : Nat} {ks : List Dv} (h : RD w A n ks) {i : Nat} {k : Dv} (hk : ks[i]? = some k) :
    ∃ b o : Nat, A = some ⟨b, o, none⟩ ∧ b < w.heap.size ∧ w.cell? ⟨b, o + i * 8, none⟩ = some (.int .i64 k.op) ∧ w.cell? ⟨b, o + i * 8 + 1, none⟩ = some (.string k.name) ∧ w.cell? ⟨b, o + i * 8 + 2, none⟩ = some (.int .i64 k.parts) ∧
      w.cell? ⟨b, o + i * 8 + 3, none⟩ = some (.int .i64 k.sub) ∧ w.cell? ⟨b, o + i * 8 + 4, none⟩ = some (.int .i64 k.att) ∧ w.cell? ⟨b, o + i * 8 + 5, none⟩ = some (.int .i64 k.member) ∧ w.cell? ⟨b, o + i * 8 + 6, none⟩ = some (.int .i64 k.term) ∧ w.cell? ⟨b, o + i * 8 + 7, none⟩ = some (.int .i64 k.part) := by
  have hi : i < ks.length := (List.getElem?_eq_some_iff.1 hk).1
  obtain ⟨b, o, e, hl, hc⟩ := h.row (by rw [← h.len]; omega)
  have q := fun (j : Nat) (u : Value) => hc i k hk j u
  simp only [← Nat.add_assoc] at q
  exact ⟨b, o, e, hl, q 0 _ rfl, q 1 _ rfl, q 2 _ rfl, q 3 _ rfl, q 4 _ rfl, q 5 _ rfl, q 6 _ rfl, q 7 _ rfl⟩

variable {H : Type} {enc : TypeId × Value → H} {W : World}
set_option maxRecDepth 100000 in
theorem dos_open {base : Nat} {v : Value} {d : DataW H} {p : List MemPlace} (hv : Value.okWide Try.prog W .any base 31 v) (h : DataW.Trod enc Try.prog W 0 (fun _ => true) true 31 v d p) (hz : ∀ x ∈ DataW.weights Try.prog 31 d, x ≤ reachBytes) :
    ∃ A n c ks, v = .slice A n c ∧ RD W A n ks ∧ (A = none → c = 0) ∧ n * 72 ≤ 140737488351232 := by
  obtain ⟨A0, n0, c0, rfl⟩ := okWide_slice Try.underlying31 hv
  obtain ⟨fuel, hf⟩ := h
  rcases open_slice_fields Try.underlying31 Try.underlying40 (by kernel_rfl) (by kernel_rfl) hf with ⟨e, _⟩ | ⟨a, len, cap, m, D, Pl, e, hb, hl, hm, hmm, hx, hi⟩
  · simp [Value.cells] at e
    obtain ⟨rfl, rfl, rfl⟩ := e
    exact ⟨none, 0, 0, [], rfl, ⟨rfl, by decide, (fun k hk => by cases hk), fun h => absurd h (by decide)⟩, fun _ => rfl, by decide⟩
  · simp [Value.cells] at e
    obtain ⟨rfl, rfl, rfl⟩ := e
    simp only [if_true] at hmm
    subst hmm
    have hbd : m * 72 ≤ 140737488351232 := by
      have hw := hz ((n0 + (m - n0)) * 72)
      simp only [Prod.mk.injEq] at hx
      rw [hx.1] at hw
      have := hw (by
        simp only [DataW.weights, Try.underlying31, List.mem_cons]
        left
        rw [show Try.prog.bytesOf 40 = 72 by kernel_rfl]
        simp)
      unfold reachBytes at this
      omega
    obtain ⟨K, hK⟩ := choose_lt (α := Dv) (n := m) (p := fun i k => k.name.size ≤ maxLen ∧ ∀ (j : Nat) (u : Value), k.cells[j]? = some u → W.cell? (a.add (i * 8 + j)) = some u) (fun i hic => by
      obtain ⟨ys, n', _, _, _, hf'⟩ := hi i hic
      obtain ⟨v0, y0, g0, _, t0⟩ := hf' 0 _ rfl
      obtain ⟨v1, y1, g1, _, t1⟩ := hf' 1 _ rfl
      obtain ⟨v2, y2, g2, _, t2⟩ := hf' 2 _ rfl
      obtain ⟨v3, y3, g3, _, t3⟩ := hf' 3 _ rfl
      obtain ⟨v4, y4, g4, _, t4⟩ := hf' 4 _ rfl
      obtain ⟨v5, y5, g5, _, t5⟩ := hf' 5 _ rfl
      obtain ⟨v6, y6, g6, _, t6⟩ := hf' 6 _ rfl
      obtain ⟨v7, y7, g7, _, t7⟩ := hf' 7 _ rfl
      obtain ⟨x0, e0, _, _⟩ := DataW.trod_int Try.underlying3 t0
      obtain ⟨x1, e1, _, sz⟩ := DataW.trod_string Try.underlying9 t1
      obtain ⟨x2, e2, _, _⟩ := DataW.trod_int Try.underlying3 t2
      obtain ⟨x3, e3, _, _⟩ := DataW.trod_int Try.underlying3 t3
      obtain ⟨x4, e4, _, _⟩ := DataW.trod_int Try.underlying3 t4
      obtain ⟨x5, e5, _, _⟩ := DataW.trod_int Try.underlying3 t5
      obtain ⟨x6, e6, _, _⟩ := DataW.trod_int Try.underlying3 t6
      obtain ⟨x7, e7, _, _⟩ := DataW.trod_int Try.underlying3 t7
      simp only [List.cons.injEq, and_true] at e0 e1 e2 e3 e4 e5 e6 e7
      subst e0 e1 e2 e3 e4 e5 e6 e7
      refine ⟨⟨x0, x1, x2, x3, x4, x5, x6, x7⟩, sz, fun j u hu => ?_⟩
      match j, hu with
      | 0, hu => cases hu; exact g0
      | 1, hu => cases hu; exact g1
      | 2, hu => cases hu; exact g2
      | 3, hu => cases hu; exact g3
      | 4, hu => cases hu; exact g4
      | 5, hu => cases hu; exact g5
      | 6, hu => cases hu; exact g6
      | 7, hu => cases hu; exact g7)
    refine ⟨some a, n0, m, (List.range n0).map K, rfl, ⟨by simp, by omega, (fun k hk => by obtain ⟨i, hi, rfl⟩ := List.mem_map.1 hk; exact (hK i (by have := List.mem_range.1 hi; omega)).1), fun h0 => ?_⟩, (fun h => by cases h), by omega⟩
    obtain ⟨b, off, spot⟩ := a
    have h1 := (hK 0 (by omega)).2 0 (.int .i64 (K 0).op) rfl
    have hspot : spot = none := by simpa [Addr.add] using World.cell?_spot h1
    subst hspot
    refine ⟨b, off, rfl, World.block_lt_of_cell? W _ (by simpa [Addr.add] using h1), fun i k hk j u hu => ?_⟩
    have hil : i < n0 := by have := (List.getElem?_eq_some_iff.1 hk).1; simpa using this
    rw [List.getElem?_map, List.getElem?_range hil] at hk
    cases hk
    have := (hK i (by omega)).2 j u hu
    rw [add_plain] at this
    exact this
set_option maxRecDepth 100000 in
theorem dv_open {base : Nat} {v : Value} {d : DataW H} {p : List MemPlace} (hv : Value.okWide Try.prog W .any base 40 v) (h : DataW.Trod enc Try.prog W 0 (fun _ => true) true 40 v d p) : ∃ k : Dv, v = .agg k.cells ∧ k.name.size ≤ maxLen := by
  obtain ⟨cs, rfl, hsz⟩ := okWide_struct Try.underlying40 hv
  obtain ⟨l⟩ := cs
  have hC : Try.prog.cellsOf 40 = 8 := by kernel_rfl
  match l, hsz.trans hC with
  | [c0, c1, c2, c3, c4, c5, c6, c7], _ =>
    obtain ⟨fuel, hf⟩ := h
    obtain ⟨xs, n, _, hx, _, hlen, hg⟩ := DataW.trod_struct under40 hf
    have hone : oneCellFields Try.prog doFs = true := by kernel_rfl
    obtain ⟨o0, k0⟩ := hone_of hone 0 _ rfl
    have t0 := hg 0 _ rfl
    obtain ⟨o1, k1⟩ := hone_of hone 1 _ rfl
    have t1 := hg 1 _ rfl
    obtain ⟨o2, k2⟩ := hone_of hone 2 _ rfl
    have t2 := hg 2 _ rfl
    obtain ⟨o3, k3⟩ := hone_of hone 3 _ rfl
    have t3 := hg 3 _ rfl
    obtain ⟨o4, k4⟩ := hone_of hone 4 _ rfl
    have t4 := hg 4 _ rfl
    obtain ⟨o5, k5⟩ := hone_of hone 5 _ rfl
    have t5 := hg 5 _ rfl
    obtain ⟨o6, k6⟩ := hone_of hone 6 _ rfl
    have t6 := hg 6 _ rfl
    obtain ⟨o7, k7⟩ := hone_of hone 7 _ rfl
    have t7 := hg 7 _ rfl
    match xs, hlen with
    | [y0, y1, y2, y3, y4, y5, y6, y7], _ =>
      have s0 : DataW.trod enc Try.prog W 0 (fun _ => true) true n 3 [c0] = some y0 := by have q := t0; simp [Value.cells, o0, k0] at q; exact q
      have s1 : DataW.trod enc Try.prog W 0 (fun _ => true) true n 9 [c1] = some y1 := by have q := t1; simp [Value.cells, o1, k1] at q; exact q
      have s2 : DataW.trod enc Try.prog W 0 (fun _ => true) true n 3 [c2] = some y2 := by have q := t2; simp [Value.cells, o2, k2] at q; exact q
      have s3 : DataW.trod enc Try.prog W 0 (fun _ => true) true n 3 [c3] = some y3 := by have q := t3; simp [Value.cells, o3, k3] at q; exact q
      have s4 : DataW.trod enc Try.prog W 0 (fun _ => true) true n 3 [c4] = some y4 := by have q := t4; simp [Value.cells, o4, k4] at q; exact q
      have s5 : DataW.trod enc Try.prog W 0 (fun _ => true) true n 3 [c5] = some y5 := by have q := t5; simp [Value.cells, o5, k5] at q; exact q
      have s6 : DataW.trod enc Try.prog W 0 (fun _ => true) true n 3 [c6] = some y6 := by have q := t6; simp [Value.cells, o6, k6] at q; exact q
      have s7 : DataW.trod enc Try.prog W 0 (fun _ => true) true n 3 [c7] = some y7 := by have q := t7; simp [Value.cells, o7, k7] at q; exact q
      obtain ⟨x0, e0, _, _⟩ := DataW.trod_int Try.underlying3 s0
      obtain ⟨x1, e1, _, sz⟩ := DataW.trod_string Try.underlying9 s1
      obtain ⟨x2, e2, _, _⟩ := DataW.trod_int Try.underlying3 s2
      obtain ⟨x3, e3, _, _⟩ := DataW.trod_int Try.underlying3 s3
      obtain ⟨x4, e4, _, _⟩ := DataW.trod_int Try.underlying3 s4
      obtain ⟨x5, e5, _, _⟩ := DataW.trod_int Try.underlying3 s5
      obtain ⟨x6, e6, _, _⟩ := DataW.trod_int Try.underlying3 s6
      obtain ⟨x7, e7, _, _⟩ := DataW.trod_int Try.underlying3 s7
      simp only [List.cons.injEq, and_true] at e0 e1 e2 e3 e4 e5 e6 e7
      subst e0 e1 e2 e3 e4 e5 e6 e7
      exact ⟨⟨x0, x1, x2, x3, x4, x5, x6, x7⟩, rfl, sz⟩
end Go.Proofs.Ytemnhmnompehoaa
