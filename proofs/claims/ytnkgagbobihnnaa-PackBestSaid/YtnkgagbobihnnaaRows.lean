/-
  No cell of these rows narrows 'for every input' (looked for: loops, veiled, ifaces, maps, wideKeys, modest, calm, conditions, laid).
  DERIVED. THE GIVEN ROWS OF THIS SEAT. 12 by the template 'for every input the law returns true; each argument reads behind the call as it read before'; 0 by the template 'total and deterministic' (their statements: YtnkgagbobihnnaaTotals.lean).
  GIVEN WITH THE SEED: the statements are not yours to turn. If you find one false, say at which input.
  Laid BY PROGRAM, IN A SANDBOX (cutbox-rows.mjs): the forced cells as the released guide's own fill.sh prints them over the translation f8afc0f6f5421c51… (all of the seat's roots in one cut). By AI agents, Wed Nov 11 2026. No macro, syntax, notation, axiom, sorry.
-/
import Derived.Test.YtnkgagbobihnnaaChecked
import GoSem.Claim
import GoSem.ClaimJoined
import GoSem.ClaimMapViews
import Derived.JoinedTies
import Derived.KernelRfl
namespace Go.Proofs.Ytnkgagbobihnnaa
/- THE CELL 'sum', in the pinned program and in every row, IS THE sha256 OF THE DUMP (.gsa) THAT YtnkgagbobihnnaaProg.lean LOADS. Nothing in Lean hashes anything: it is a label: what it is worth is what the hold of that sum in a sandbox is worth. -/
noncomputable def Try.pinned : Pinned := { name := "ytnkgagbobihnnaa", sum := "f8afc0f6f5421c51db75ac57ff793cf08983a1df0de785a279deb5ae6742829c", checked := Try.checked }
namespace Rows
def none {H : Type} : Left H := { results := [], args := [] }

/-- 'tidemarklaw06.PackCodes': WHATEVER THE INPUT: true; the input reads as it did. -/
def packCodesSpec : ChangeSpec := { name := "packCodes", fn := fun _ => fun
  | [d] => { results := [.lit (.bool true)], args := [d] }
  | _ => none }
def packCodesRow : OpenClaim := { program := "ytnkgagbobihnnaa", sum := "f8afc0f6f5421c51db75ac57ff793cf08983a1df0de785a279deb5ae6742829c", func := "tidemark/tidemarklaw06.PackCodes", spec := "packCodes", unfollowed := true, recurses := true, apart := false }
def PackCodesSaid : Prop := packCodesRow.holds Try.pinned (OpenSpec.ofChange packCodesSpec)

/-- ITS FALSE NEIGHBOUR: 'it returns false'. Refute it at one input. -/
def packCodesWrong : ChangeSpec := { name := "packCodes", fn := fun _ => fun
  | [d] => { results := [.lit (.bool false)], args := [d] }
  | _ => none }
def PackCodesWrongFalsely : Prop := packCodesRow.holds Try.pinned (OpenSpec.ofChange packCodesWrong)

/-- 'tidemarklaw06.PackPrefix': WHATEVER THE INPUT: true; the input reads as it did. -/
def packPrefixSpec : ChangeSpec := { name := "packPrefix", fn := fun _ => fun
  | [d1, d2] => { results := [.lit (.bool true)], args := [d1, d2] }
  | _ => none }
def packPrefixRow : OpenClaim := { program := "ytnkgagbobihnnaa", sum := "f8afc0f6f5421c51db75ac57ff793cf08983a1df0de785a279deb5ae6742829c", func := "tidemark/tidemarklaw06.PackPrefix", spec := "packPrefix", unfollowed := true, recurses := true, apart := false }
def PackPrefixSaid : Prop := packPrefixRow.holds Try.pinned (OpenSpec.ofChange packPrefixSpec)

/-- ITS FALSE NEIGHBOUR: 'it returns false'. Refute it at one input. -/
def packPrefixWrong : ChangeSpec := { name := "packPrefix", fn := fun _ => fun
  | [d1, d2] => { results := [.lit (.bool false)], args := [d1, d2] }
  | _ => none }
def PackPrefixWrongFalsely : Prop := packPrefixRow.holds Try.pinned (OpenSpec.ofChange packPrefixWrong)

/-- 'tidemarklaw06.PackBest': WHATEVER THE INPUT: true; the input reads as it did. -/
def packBestSpec : ChangeSpec := { name := "packBest", fn := fun _ => fun
  | [d1, d2] => { results := [.lit (.bool true)], args := [d1, d2] }
  | _ => none }
def packBestRow : OpenClaim := { program := "ytnkgagbobihnnaa", sum := "f8afc0f6f5421c51db75ac57ff793cf08983a1df0de785a279deb5ae6742829c", func := "tidemark/tidemarklaw06.PackBest", spec := "packBest", unfollowed := true, recurses := true, apart := false }
def PackBestSaid : Prop := packBestRow.holds Try.pinned (OpenSpec.ofChange packBestSpec)

/-- ITS FALSE NEIGHBOUR: 'it returns false'. Refute it at one input. -/
def packBestWrong : ChangeSpec := { name := "packBest", fn := fun _ => fun
  | [d1, d2] => { results := [.lit (.bool false)], args := [d1, d2] }
  | _ => none }
def PackBestWrongFalsely : Prop := packBestRow.holds Try.pinned (OpenSpec.ofChange packBestWrong)

/-- 'tidemarklaw06.PackUnturns': WHATEVER THE INPUT: true; the input reads as it did. -/
def packUnturnsSpec : ChangeSpec := { name := "packUnturns", fn := fun _ => fun
  | [d1, d2] => { results := [.lit (.bool true)], args := [d1, d2] }
  | _ => none }
def packUnturnsRow : OpenClaim := { program := "ytnkgagbobihnnaa", sum := "f8afc0f6f5421c51db75ac57ff793cf08983a1df0de785a279deb5ae6742829c", func := "tidemark/tidemarklaw06.PackUnturns", spec := "packUnturns", unfollowed := true, recurses := true, apart := false }
def PackUnturnsSaid : Prop := packUnturnsRow.holds Try.pinned (OpenSpec.ofChange packUnturnsSpec)

/-- ITS FALSE NEIGHBOUR: 'it returns false'. Refute it at one input. -/
def packUnturnsWrong : ChangeSpec := { name := "packUnturns", fn := fun _ => fun
  | [d1, d2] => { results := [.lit (.bool false)], args := [d1, d2] }
  | _ => none }
def PackUnturnsWrongFalsely : Prop := packUnturnsRow.holds Try.pinned (OpenSpec.ofChange packUnturnsWrong)

/-- 'tidemarklaw06.PackFronts': WHATEVER THE INPUT: true; the input reads as it did. -/
def packFrontsSpec : ChangeSpec := { name := "packFronts", fn := fun _ => fun
  | [d] => { results := [.lit (.bool true)], args := [d] }
  | _ => none }
def packFrontsRow : OpenClaim := { program := "ytnkgagbobihnnaa", sum := "f8afc0f6f5421c51db75ac57ff793cf08983a1df0de785a279deb5ae6742829c", func := "tidemark/tidemarklaw06.PackFronts", spec := "packFronts", unfollowed := true, recurses := true, apart := false }
def PackFrontsSaid : Prop := packFrontsRow.holds Try.pinned (OpenSpec.ofChange packFrontsSpec)

/-- ITS FALSE NEIGHBOUR: 'it returns false'. Refute it at one input. -/
def packFrontsWrong : ChangeSpec := { name := "packFronts", fn := fun _ => fun
  | [d] => { results := [.lit (.bool false)], args := [d] }
  | _ => none }
def PackFrontsWrongFalsely : Prop := packFrontsRow.holds Try.pinned (OpenSpec.ofChange packFrontsWrong)

/-- 'tidemarklaw06.PackRuns': WHATEVER THE INPUT: true; the input reads as it did. -/
def packRunsSpec : ChangeSpec := { name := "packRuns", fn := fun _ => fun
  | [d] => { results := [.lit (.bool true)], args := [d] }
  | _ => none }
def packRunsRow : OpenClaim := { program := "ytnkgagbobihnnaa", sum := "f8afc0f6f5421c51db75ac57ff793cf08983a1df0de785a279deb5ae6742829c", func := "tidemark/tidemarklaw06.PackRuns", spec := "packRuns", unfollowed := true, recurses := true, apart := false }
def PackRunsSaid : Prop := packRunsRow.holds Try.pinned (OpenSpec.ofChange packRunsSpec)

/-- ITS FALSE NEIGHBOUR: 'it returns false'. Refute it at one input. -/
def packRunsWrong : ChangeSpec := { name := "packRuns", fn := fun _ => fun
  | [d] => { results := [.lit (.bool false)], args := [d] }
  | _ => none }
def PackRunsWrongFalsely : Prop := packRunsRow.holds Try.pinned (OpenSpec.ofChange packRunsWrong)

/-- 'tidemarklaw06.PackUnpacks': WHATEVER THE INPUT: true; the input reads as it did. -/
def packUnpacksSpec : ChangeSpec := { name := "packUnpacks", fn := fun _ => fun
  | [d1, d2] => { results := [.lit (.bool true)], args := [d1, d2] }
  | _ => none }
def packUnpacksRow : OpenClaim := { program := "ytnkgagbobihnnaa", sum := "f8afc0f6f5421c51db75ac57ff793cf08983a1df0de785a279deb5ae6742829c", func := "tidemark/tidemarklaw06.PackUnpacks", spec := "packUnpacks", unfollowed := true, recurses := true, apart := false }
def PackUnpacksSaid : Prop := packUnpacksRow.holds Try.pinned (OpenSpec.ofChange packUnpacksSpec)

/-- ITS FALSE NEIGHBOUR: 'it returns false'. Refute it at one input. -/
def packUnpacksWrong : ChangeSpec := { name := "packUnpacks", fn := fun _ => fun
  | [d1, d2] => { results := [.lit (.bool false)], args := [d1, d2] }
  | _ => none }
def PackUnpacksWrongFalsely : Prop := packUnpacksRow.holds Try.pinned (OpenSpec.ofChange packUnpacksWrong)

/-- 'tidemarklaw06.PackLengths': WHATEVER THE INPUT: true; the input reads as it did. -/
def packLengthsSpec : ChangeSpec := { name := "packLengths", fn := fun _ => fun
  | [d] => { results := [.lit (.bool true)], args := [d] }
  | _ => none }
def packLengthsRow : OpenClaim := { program := "ytnkgagbobihnnaa", sum := "f8afc0f6f5421c51db75ac57ff793cf08983a1df0de785a279deb5ae6742829c", func := "tidemark/tidemarklaw06.PackLengths", spec := "packLengths", unfollowed := true, recurses := true, apart := false }
def PackLengthsSaid : Prop := packLengthsRow.holds Try.pinned (OpenSpec.ofChange packLengthsSpec)

/-- ITS FALSE NEIGHBOUR: 'it returns false'. Refute it at one input. -/
def packLengthsWrong : ChangeSpec := { name := "packLengths", fn := fun _ => fun
  | [d] => { results := [.lit (.bool false)], args := [d] }
  | _ => none }
def PackLengthsWrongFalsely : Prop := packLengthsRow.holds Try.pinned (OpenSpec.ofChange packLengthsWrong)

/-- 'tidemarklaw06.PackTurns': WHATEVER THE INPUT: true; the input reads as it did. -/
def packTurnsSpec : ChangeSpec := { name := "packTurns", fn := fun _ => fun
  | [d] => { results := [.lit (.bool true)], args := [d] }
  | _ => none }
def packTurnsRow : OpenClaim := { program := "ytnkgagbobihnnaa", sum := "f8afc0f6f5421c51db75ac57ff793cf08983a1df0de785a279deb5ae6742829c", func := "tidemark/tidemarklaw06.PackTurns", spec := "packTurns", unfollowed := true, recurses := true, apart := false }
def PackTurnsSaid : Prop := packTurnsRow.holds Try.pinned (OpenSpec.ofChange packTurnsSpec)

/-- ITS FALSE NEIGHBOUR: 'it returns false'. Refute it at one input. -/
def packTurnsWrong : ChangeSpec := { name := "packTurns", fn := fun _ => fun
  | [d] => { results := [.lit (.bool false)], args := [d] }
  | _ => none }
def PackTurnsWrongFalsely : Prop := packTurnsRow.holds Try.pinned (OpenSpec.ofChange packTurnsWrong)

/-- 'tidemarklaw06.PackPacks': WHATEVER THE INPUT: true; the input reads as it did. -/
def packPacksSpec : ChangeSpec := { name := "packPacks", fn := fun _ => fun
  | [d] => { results := [.lit (.bool true)], args := [d] }
  | _ => none }
def packPacksRow : OpenClaim := { program := "ytnkgagbobihnnaa", sum := "f8afc0f6f5421c51db75ac57ff793cf08983a1df0de785a279deb5ae6742829c", func := "tidemark/tidemarklaw06.PackPacks", spec := "packPacks", unfollowed := true, recurses := true, apart := false }
def PackPacksSaid : Prop := packPacksRow.holds Try.pinned (OpenSpec.ofChange packPacksSpec)

/-- ITS FALSE NEIGHBOUR: 'it returns false'. Refute it at one input. -/
def packPacksWrong : ChangeSpec := { name := "packPacks", fn := fun _ => fun
  | [d] => { results := [.lit (.bool false)], args := [d] }
  | _ => none }
def PackPacksWrongFalsely : Prop := packPacksRow.holds Try.pinned (OpenSpec.ofChange packPacksWrong)

/-- 'tidemarklaw06.PackBack': WHATEVER THE INPUT: true; the input reads as it did. -/
def packBackSpec : ChangeSpec := { name := "packBack", fn := fun _ => fun
  | [d1, d2] => { results := [.lit (.bool true)], args := [d1, d2] }
  | _ => none }
def packBackRow : OpenClaim := { program := "ytnkgagbobihnnaa", sum := "f8afc0f6f5421c51db75ac57ff793cf08983a1df0de785a279deb5ae6742829c", func := "tidemark/tidemarklaw06.PackBack", spec := "packBack", inPlace := ["internal/bytealg.MakeNoZero"], unfollowed := true, recurses := true, apart := false }
def PackBackSaid : Prop := packBackRow.holds Try.pinned (OpenSpec.ofChange packBackSpec)

/-- ITS FALSE NEIGHBOUR: 'it returns false'. Refute it at one input. -/
def packBackWrong : ChangeSpec := { name := "packBack", fn := fun _ => fun
  | [d1, d2] => { results := [.lit (.bool false)], args := [d1, d2] }
  | _ => none }
def PackBackWrongFalsely : Prop := packBackRow.holds Try.pinned (OpenSpec.ofChange packBackWrong)

/-- 'tidemarklaw06.PackOrder': WHATEVER THE INPUT: true; the input reads as it did. -/
def packOrderSpec : ChangeSpec := { name := "packOrder", fn := fun _ => fun
  | [d1, d2] => { results := [.lit (.bool true)], args := [d1, d2] }
  | _ => none }
def packOrderRow : OpenClaim := { program := "ytnkgagbobihnnaa", sum := "f8afc0f6f5421c51db75ac57ff793cf08983a1df0de785a279deb5ae6742829c", func := "tidemark/tidemarklaw06.PackOrder", spec := "packOrder", inPlace := ["internal/bytealg.MakeNoZero"], unfollowed := true, recurses := true, apart := false }
def PackOrderSaid : Prop := packOrderRow.holds Try.pinned (OpenSpec.ofChange packOrderSpec)

/-- ITS FALSE NEIGHBOUR: 'it returns false'. Refute it at one input. -/
def packOrderWrong : ChangeSpec := { name := "packOrder", fn := fun _ => fun
  | [d1, d2] => { results := [.lit (.bool false)], args := [d1, d2] }
  | _ => none }
def PackOrderWrongFalsely : Prop := packOrderRow.holds Try.pinned (OpenSpec.ofChange packOrderWrong)

/- THE SECOND FORM. 'bulk': how many values and letters a reading holds, each counted each time it is reached (what is shared counts as often as it is met; a slice's spare places count too). A statement '..UptoSaid' is the law's where the arguments, and the package variables that the reading takes, are together of bulk at most 1048576: NARROWER than '..Said'. Prove '..Said' where nothing that the law and all that it calls make is longer than what came in: it says more and counts as full. Else prove '..UptoSaid'. A law counts once. -/
mutual
def uptoBulk {H : Type} : DataW H → Nat
  | .lit (.string bytes) => bytes.length + 1
  | .lit _ => 1
  | .nil => 1
  | .ptr d => uptoBulk d + 1
  | .slice elems spare => uptoBulkAll elems + uptoBulkAll spare + 1
  | .agg parts => uptoBulkAll parts + 1
  | .iface _ d => uptoBulk d + 1
  | .map entries => uptoBulkEntries entries + 1
  | .held _ => 1
def uptoBulkAll {H : Type} : List (DataW H) → Nat
  | [] => 0
  | d :: r => uptoBulk d + uptoBulkAll r
def uptoBulkEntries {H : Type} : List (Lit × DataW H) → Nat
  | [] => 0
  | x :: r => uptoBulkEntry x + uptoBulkEntries r
def uptoBulkEntry {H : Type} : Lit × DataW H → Nat
  | (.string bytes, d) => bytes.length + uptoBulk d + 1
  | (_, d) => uptoBulk d + 1
 end
def uptoSmall : (H : Type) → List (DataW H) → Bool := fun _ ds => decide (uptoBulkAll ds ≤ 1048576)
def OpenSpec.upto (s : _root_.Go.ChangeSpec) : _root_.Go.OpenSpec := { _root_.Go.OpenSpec.ofChange s with cond := some uptoSmall }

/-- 'tidemarklaw06.PackCodes', WHERE WHAT IT READS IS OF BULK AT MOST 1048576: true; the input reads as it did. -/
def packCodesUptoRow : OpenClaim := { program := "ytnkgagbobihnnaa", sum := "f8afc0f6f5421c51db75ac57ff793cf08983a1df0de785a279deb5ae6742829c", func := "tidemark/tidemarklaw06.PackCodes", spec := "packCodes", unfollowed := true, recurses := true, apart := false, narrowed := true }
def PackCodesUptoSaid : Prop := packCodesUptoRow.holds Try.pinned (OpenSpec.upto packCodesSpec)

/-- 'tidemarklaw06.PackPrefix', WHERE WHAT IT READS IS OF BULK AT MOST 1048576: true; the input reads as it did. -/
def packPrefixUptoRow : OpenClaim := { program := "ytnkgagbobihnnaa", sum := "f8afc0f6f5421c51db75ac57ff793cf08983a1df0de785a279deb5ae6742829c", func := "tidemark/tidemarklaw06.PackPrefix", spec := "packPrefix", unfollowed := true, recurses := true, apart := false, narrowed := true }
def PackPrefixUptoSaid : Prop := packPrefixUptoRow.holds Try.pinned (OpenSpec.upto packPrefixSpec)

/-- 'tidemarklaw06.PackBest', WHERE WHAT IT READS IS OF BULK AT MOST 1048576: true; the input reads as it did. -/
def packBestUptoRow : OpenClaim := { program := "ytnkgagbobihnnaa", sum := "f8afc0f6f5421c51db75ac57ff793cf08983a1df0de785a279deb5ae6742829c", func := "tidemark/tidemarklaw06.PackBest", spec := "packBest", unfollowed := true, recurses := true, apart := false, narrowed := true }
def PackBestUptoSaid : Prop := packBestUptoRow.holds Try.pinned (OpenSpec.upto packBestSpec)

/-- 'tidemarklaw06.PackUnturns', WHERE WHAT IT READS IS OF BULK AT MOST 1048576: true; the input reads as it did. -/
def packUnturnsUptoRow : OpenClaim := { program := "ytnkgagbobihnnaa", sum := "f8afc0f6f5421c51db75ac57ff793cf08983a1df0de785a279deb5ae6742829c", func := "tidemark/tidemarklaw06.PackUnturns", spec := "packUnturns", unfollowed := true, recurses := true, apart := false, narrowed := true }
def PackUnturnsUptoSaid : Prop := packUnturnsUptoRow.holds Try.pinned (OpenSpec.upto packUnturnsSpec)

/-- 'tidemarklaw06.PackFronts', WHERE WHAT IT READS IS OF BULK AT MOST 1048576: true; the input reads as it did. -/
def packFrontsUptoRow : OpenClaim := { program := "ytnkgagbobihnnaa", sum := "f8afc0f6f5421c51db75ac57ff793cf08983a1df0de785a279deb5ae6742829c", func := "tidemark/tidemarklaw06.PackFronts", spec := "packFronts", unfollowed := true, recurses := true, apart := false, narrowed := true }
def PackFrontsUptoSaid : Prop := packFrontsUptoRow.holds Try.pinned (OpenSpec.upto packFrontsSpec)

/-- 'tidemarklaw06.PackRuns', WHERE WHAT IT READS IS OF BULK AT MOST 1048576: true; the input reads as it did. -/
def packRunsUptoRow : OpenClaim := { program := "ytnkgagbobihnnaa", sum := "f8afc0f6f5421c51db75ac57ff793cf08983a1df0de785a279deb5ae6742829c", func := "tidemark/tidemarklaw06.PackRuns", spec := "packRuns", unfollowed := true, recurses := true, apart := false, narrowed := true }
def PackRunsUptoSaid : Prop := packRunsUptoRow.holds Try.pinned (OpenSpec.upto packRunsSpec)

/-- 'tidemarklaw06.PackUnpacks', WHERE WHAT IT READS IS OF BULK AT MOST 1048576: true; the input reads as it did. -/
def packUnpacksUptoRow : OpenClaim := { program := "ytnkgagbobihnnaa", sum := "f8afc0f6f5421c51db75ac57ff793cf08983a1df0de785a279deb5ae6742829c", func := "tidemark/tidemarklaw06.PackUnpacks", spec := "packUnpacks", unfollowed := true, recurses := true, apart := false, narrowed := true }
def PackUnpacksUptoSaid : Prop := packUnpacksUptoRow.holds Try.pinned (OpenSpec.upto packUnpacksSpec)

/-- 'tidemarklaw06.PackLengths', WHERE WHAT IT READS IS OF BULK AT MOST 1048576: true; the input reads as it did. -/
def packLengthsUptoRow : OpenClaim := { program := "ytnkgagbobihnnaa", sum := "f8afc0f6f5421c51db75ac57ff793cf08983a1df0de785a279deb5ae6742829c", func := "tidemark/tidemarklaw06.PackLengths", spec := "packLengths", unfollowed := true, recurses := true, apart := false, narrowed := true }
def PackLengthsUptoSaid : Prop := packLengthsUptoRow.holds Try.pinned (OpenSpec.upto packLengthsSpec)

/-- 'tidemarklaw06.PackTurns', WHERE WHAT IT READS IS OF BULK AT MOST 1048576: true; the input reads as it did. -/
def packTurnsUptoRow : OpenClaim := { program := "ytnkgagbobihnnaa", sum := "f8afc0f6f5421c51db75ac57ff793cf08983a1df0de785a279deb5ae6742829c", func := "tidemark/tidemarklaw06.PackTurns", spec := "packTurns", unfollowed := true, recurses := true, apart := false, narrowed := true }
def PackTurnsUptoSaid : Prop := packTurnsUptoRow.holds Try.pinned (OpenSpec.upto packTurnsSpec)

/-- 'tidemarklaw06.PackPacks', WHERE WHAT IT READS IS OF BULK AT MOST 1048576: true; the input reads as it did. -/
def packPacksUptoRow : OpenClaim := { program := "ytnkgagbobihnnaa", sum := "f8afc0f6f5421c51db75ac57ff793cf08983a1df0de785a279deb5ae6742829c", func := "tidemark/tidemarklaw06.PackPacks", spec := "packPacks", unfollowed := true, recurses := true, apart := false, narrowed := true }
def PackPacksUptoSaid : Prop := packPacksUptoRow.holds Try.pinned (OpenSpec.upto packPacksSpec)

/-- 'tidemarklaw06.PackBack', WHERE WHAT IT READS IS OF BULK AT MOST 1048576: true; the input reads as it did. -/
def packBackUptoRow : OpenClaim := { program := "ytnkgagbobihnnaa", sum := "f8afc0f6f5421c51db75ac57ff793cf08983a1df0de785a279deb5ae6742829c", func := "tidemark/tidemarklaw06.PackBack", spec := "packBack", inPlace := ["internal/bytealg.MakeNoZero"], unfollowed := true, recurses := true, apart := false, narrowed := true }
def PackBackUptoSaid : Prop := packBackUptoRow.holds Try.pinned (OpenSpec.upto packBackSpec)

/-- 'tidemarklaw06.PackOrder', WHERE WHAT IT READS IS OF BULK AT MOST 1048576: true; the input reads as it did. -/
def packOrderUptoRow : OpenClaim := { program := "ytnkgagbobihnnaa", sum := "f8afc0f6f5421c51db75ac57ff793cf08983a1df0de785a279deb5ae6742829c", func := "tidemark/tidemarklaw06.PackOrder", spec := "packOrder", inPlace := ["internal/bytealg.MakeNoZero"], unfollowed := true, recurses := true, apart := false, narrowed := true }
def PackOrderUptoSaid : Prop := packOrderUptoRow.holds Try.pinned (OpenSpec.upto packOrderSpec)

end Rows
end Go.Proofs.Ytnkgagbobihnnaa
