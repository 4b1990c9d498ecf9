/-
  Trees as values of drawn regions; rows that may be written over; results that may be errors; seeds and pairs that came in.
-/
import Derived.Test.YtcmkjoepndbicaaPrt
namespace Go.Proofs.Ytcmkjoepndbicaa
open Go.ChangeShapes Go.WideShapes Go.ChangeAt Go.RowKit

def SpK.tr (ka kb : BitVec 64) (S : Nat → Prop) (l : List Pr) : SpK := ⟨fun v W => ∃ t, v = .pointer (some ⟨t, 0, none⟩) ∧ TreeS ka kb S l t W, fun _ _ _ h ⟨t, e, ht⟩ => ⟨t, e, ht.below h⟩⟩
def SpK.rt (ka kb : BitVec 64) (S : Nat → Prop) (l : List Pr) : SpK := ⟨fun v W => ∃ t, v = .pointer (some ⟨t, 0, none⟩) ∧ RTr ka kb S l t W, fun _ _ _ h ⟨t, e, ht⟩ => ⟨t, e, ht.below h⟩⟩
/-- A row that may be written over: its block lies between X and Y. -/
def Gv (X Y : Nat) (A : Option Addr) (n : Nat) (w : World) : Prop := 0 < n → ∃ g cur, A = some ⟨g, 0, none⟩ ∧ X ≤ g ∧ g < Y ∧ w.heap[g]? = some (.cells cur 43 (0, 0)) ∧ n * 2 ≤ cur.size
theorem Gv.below {X Y : Nat} {A : Option Addr} {n : Nat} {w w' : World} (h : Gv X Y A n w) (hb : Below w.heap.size w w') : Gv X Y A n w' := fun h0 => by
  obtain ⟨g, cur, e, h1, h2, h3, h4⟩ := h h0
  exact ⟨g, cur, e, h1, h2, (hb.block _ (Array.getElem?_eq_some_iff.1 h3).1).trans h3, h4⟩
theorem Gv.set {X Y : Nat} {g : Nat} {n k : Nat} {w : World} (h : Gv X Y (some ⟨g, 0, none⟩) n w) (v : Value) : Gv X Y (some ⟨g, 0, none⟩) n (w.setCell ⟨g, k, none⟩ v) := fun h0 => by
  obtain ⟨g', cur, e, h1, h2, h3, h4⟩ := h h0
  cases e
  exact ⟨g, _, rfl, h1, h2, blk_set v h3, by simpa using h4⟩
def errI (ok : Bool) : Int := if ok = true then 0 else 1
theorem PartsP.get {ok : Bool} {us : List (BitVec 64)} {w w' : World} {e : Ending} (h : PartsP ok us w e w') : ∃ A n c, e = .returned (.tuple #[.slice A n c, .int .i64 (errI ok)]) ∧ RW w' A n (if ok = true then us else []) ∧ Below w.heap.size w w' := by
  cases ok with
  | true =>
    obtain ⟨A, n, c, e, hr⟩ := h.1 rfl
    exact ⟨A, n, c, e, hr, h.2.2⟩
  | false => exact ⟨none, 0, 0, h.2.1 rfl, ⟨rfl, by decide, fun h => absurd h (by decide)⟩, h.2.2⟩
theorem PairsP.get {ok : Bool} {L : List Pr} {w w' : World} {e : Ending} (h : PairsP ok L w e w') : ∃ A n c, e = .returned (.tuple #[.slice A n c, .int .i64 (errI ok)]) ∧ OwnP w' w.heap.size (.slice A n c) (if ok = true then L else []) ∧ Below w.heap.size w w' := by
  cases ok with
  | true =>
    obtain ⟨A, n, c, e, hr⟩ := h.1 rfl
    exact ⟨A, n, c, e, hr, h.2.2⟩
  | false => exact ⟨none, 0, 0, h.2.1 rfl, OwnP.nil _ _, h.2.2⟩
section
variable {H : Type} {enc : TypeId × Value → H} {W : World}
set_option maxRecDepth 100000 in
theorem seed_open {base : Nat} {v : Value} {d : DataW H} {p : List MemPlace} (hv : Value.okWide Try.prog W .any base 24 v) (h : DataW.Trod enc Try.prog W 0 (fun _ => true) true 24 v d p) :
    ∃ ka kb : BitVec 64, v = .agg #[.int .u64 (ka.toNat : Int), .int .u64 (kb.toNat : Int)] := by
  obtain ⟨v0, v1, y0, y1, n, rfl, rfl, rfl, h0, h1⟩ := Go.Joins.open_agg2 Try.underlying24 (by kernel_rfl) (by kernel_rfl) hv h
  obtain ⟨a, e0, rfl, w0⟩ := DataW.trod_int Try.underlying22 h0
  obtain ⟨b, e1, rfl, w1⟩ := DataW.trod_int Try.underlying22 h1
  cases e0
  cases e1
  simp [Lit.wf, IntKind.min, IntKind.max, IntKind.bits, IntKind.signed] at w0 w1
  refine ⟨BitVec.ofNat 64 a.toNat, BitVec.ofNat 64 b.toNat, ?_⟩
  rw [BitVec.toNat_ofNat, BitVec.toNat_ofNat, Nat.mod_eq_of_lt (by omega), Nat.mod_eq_of_lt (by omega), Int.toNat_of_nonneg (by omega), Int.toNat_of_nonneg (by omega)]
set_option maxRecDepth 100000 in
theorem pr_open {base : Nat} {v : Value} {d : DataW H} {p : List MemPlace} (hv : Value.okWide Try.prog W .any base 43 v) (h : DataW.Trod enc Try.prog W 0 (fun _ => true) true 43 v d p) (hz : ∀ x ∈ DataW.weights Try.prog 43 d, x ≤ reachBytes) :
    ∃ k : Pr, v = .agg #[.string k.1, .string k.2] ∧ k.1.size ≤ 140737488351232 ∧ k.2.size ≤ 140737488351232 := by
  obtain ⟨v0, v1, y0, y1, n, rfl, rfl, rfl, h0, h1⟩ := Go.Joins.open_agg2 Try.underlying43 (by kernel_rfl) (by kernel_rfl) hv h
  obtain ⟨a, e0, rfl, _⟩ := DataW.trod_string Try.underlying9 h0
  obtain ⟨b, e1, rfl, _⟩ := DataW.trod_string Try.underlying9 h1
  cases e0
  cases e1
  have hr : reachBytes = 140737488351232 := rfl
  have z0 := hz a.data.toList.length (by simp [DataW.weights, DataW.weightsEach, Try.underlying43])
  have z1 := hz b.data.toList.length (by simp [DataW.weights, DataW.weightsEach, Try.underlying43])
  rw [hr, Array.length_toList] at z0 z1
  exact ⟨(a, b), rfl, z0, z1⟩
end
end Go.Proofs.Ytcmkjoepndbicaa
