/-
  Drawn regions that only read, allocate and call: what is told of each value.
-/
import Derived.Test.YtemnhmnompehoaaReg
namespace Go.Proofs.Ytemnhmnompehoaa
open Go Go.RowKit

inductive SpG where
  | ex (v : Value)
  | bx (n : Nat) (c : Array Value) (T : TypeId)
  | own (N : Nat) (xs : List Int)
  | any
def SpG.holds : SpG → Value → World → Prop
  | .ex u, v, _ => v = u
  | .bx n c T, v, W => ∃ b, v = .slice (some ⟨b, 0, none⟩) n n ∧ W.heap[b]? = some (.cells c T (0, 0))
  | .own N xs, v, W => Own W N v xs
  | .any, _, _ => True
theorem SpG.mono {s : SpG} {v : Value} {w w' : World} (h : Gr w w') (hs : s.holds v w) : s.holds v w' := by
  cases s with
  | ex u => exact hs
  | bx n c T => obtain ⟨b, e, hb⟩ := hs; exact ⟨b, e, (h.block b (Array.getElem?_eq_some_iff.1 hb).1).trans hb⟩
  | own N xs => exact Own.below hs h
  | any => trivial
section
variable {P : Program} {ops : Array Oper} {Q : Exit → Act → World → Prop}
theorem wp_region_sp {id : Nat} {a0 : Act} {w : World} (specs : List SpG) (hm : P.follows .mixedOrders = true)
    (hf : fineB ops a0.tmps.size = true)
    (hop : ∀ i o, ops[i]? = some o → ∀ a W, Gr w W → Good ops Gr w.drew a0 (fun j => (specs.getD j .any).holds) i a W → wpOp P ops Q i (Owes Gr ((specs.getD i .any).holds) a W o.dst) a W)
    (hend : ∀ a W, Gr w W → AllDone ops Gr w.drew a0 (fun j => (specs.getD j .any).holds) a W → Q .normal a W) : (Code.region id ops true).wp P Q a0 w :=
  wp_region_inv Gr (fun j => (specs.getD j .any).holds) hm Gr.refl (fun _ _ _ => Gr.trans) (fun _ _ _ _ h hs => SpG.mono h hs) hf
    (fun i o ho a W hG => hop i o ho a W (gr_drew hG.rel) hG) (fun a W hD => hend a W (gr_drew hD.rel) hD)
end
end Go.Proofs.Ytemnhmnompehoaa
