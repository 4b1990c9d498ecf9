/-
  Drawn regions that only read, allocate and call: what is told of each value.
-/
import Derived.Test.YtnkgagbobihnnaaReg
namespace Go.Proofs.Ytnkgagbobihnnaa
open Go Go.RowKit

/-- What is told of a value, and goes on being so. -/
structure SpK where
  p : Value → World → Prop
  mono : ∀ v w w', Gr w w' → p v w → p v w'
def SpK.ex (u : Value) : SpK := ⟨fun v _ => v = u, fun _ _ _ _ h => h⟩
def SpK.any : SpK := ⟨fun _ _ => True, fun _ _ _ _ h => h⟩
/-- Bytes, as read. -/
def SpK.rb (bs : List UInt8) : SpK := ⟨fun v W => ∃ A n c, v = .slice A n c ∧ (A = none → c = 0) ∧ n ≤ c ∧ Rb W A n bs, fun _ _ _ h ⟨A, n, c, e, h1, h2, h3⟩ => ⟨A, n, c, e, h1, h2, h3.below h⟩⟩
/-- A new block of the region's own, as a slice. -/
def SpK.bx (n : Nat) (c : Array Value) (T : TypeId) : SpK := ⟨fun v W => ∃ b, v = .slice (some ⟨b, 0, none⟩) n n ∧ W.heap[b]? = some (.cells c T (0, 0)), fun _ _ _ h ⟨b, e, hb⟩ => ⟨b, e, (h.block b (Array.getElem?_eq_some_iff.1 hb).1).trans hb⟩⟩
section
variable {P : Program} {ops : Array Oper} {Q : Exit → Act → World → Prop}
theorem wp_region_sp {id : Nat} {a0 : Act} {w : World} (specs : List SpK) (hm : P.follows .mixedOrders = true)
    (hf : fineB ops a0.tmps.size = true)
    (hop : ∀ i o, ops[i]? = some o → ∀ a W, Gr w W → Good ops Gr w.drew a0 (fun j => (specs.getD j .any).p) i a W → wpOp P ops Q i (Owes Gr ((specs.getD i .any).p) a W o.dst) a W)
    (hend : ∀ a W, Gr w W → AllDone ops Gr w.drew a0 (fun j => (specs.getD j .any).p) a W → Q .normal a W) : (Code.region id ops true).wp P Q a0 w :=
  wp_region_inv Gr (fun j => (specs.getD j .any).p) hm Gr.refl (fun _ _ _ => Gr.trans) (fun j v _ _ h hs => (specs.getD j .any).mono v _ _ h hs) hf
    (fun i o ho a W hG => hop i o ho a W (gr_drew hG.rel) hG) (fun a W hD => hend a W (gr_drew hD.rel) hD)
end
end Go.Proofs.Ytnkgagbobihnnaa
