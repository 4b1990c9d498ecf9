/-
  No cell of these rows narrows 'for every input' (looked for: loops, veiled, ifaces, maps, wideKeys, modest, calm, conditions, laid).
  DERIVED. THE GIVEN ROWS OF THIS SEAT. 8 by the template 'for every input the law returns true; each argument reads behind the call as it read before'; 0 by the template 'total and deterministic' (their statements: YtcmkjoepndbicaaTotals.lean).
  GIVEN WITH THE SEED: the statements are not yours to turn. If you find one false, say at which input.
  Laid BY PROGRAM, IN A SANDBOX (cutbox-rows.mjs): the forced cells as the released guide's own fill.sh prints them over the translation 6e2502fe4192a8b4… (all of the seat's roots in one cut). By AI agents, Wed Nov 11 2026. No macro, syntax, notation, axiom, sorry.
-/
import Derived.Test.YtcmkjoepndbicaaChecked
import GoSem.Claim
import GoSem.ClaimJoined
import GoSem.ClaimMapViews
import Derived.JoinedTies
import Derived.KernelRfl
namespace Go.Proofs.Ytcmkjoepndbicaa
/- THE CELL 'sum', in the pinned program and in every row, IS THE sha256 OF THE DUMP (.gsa) THAT YtcmkjoepndbicaaProg.lean LOADS. Nothing in Lean hashes anything: it is a label: what it is worth is what the hold of that sum in a sandbox is worth. -/
noncomputable def Try.pinned : Pinned := { name := "ytcmkjoepndbicaa", sum := "6e2502fe4192a8b4059b4a68dd26afc9643c498026bfc224044f091d371a1a08", checked := Try.checked }
namespace Rows
def none {H : Type} : Left H := { results := [], args := [] }

/-- 'tidemarklaw10.DigestUnlike': WHATEVER THE INPUT: true; the input reads as it did. -/
def digestUnlikeSpec : ChangeSpec := { name := "digestUnlike", fn := fun _ => fun
  | [d1, d2, d3] => { results := [.lit (.bool true)], args := [d1, d2, d3] }
  | _ => none }
def digestUnlikeRow : OpenClaim := { program := "ytcmkjoepndbicaa", sum := "6e2502fe4192a8b4059b4a68dd26afc9643c498026bfc224044f091d371a1a08", func := "tidemark/tidemarklaw10.DigestUnlike", spec := "digestUnlike", unfollowed := true, recurses := true, apart := false }
def DigestUnlikeSaid : Prop := digestUnlikeRow.holds Try.pinned (OpenSpec.ofChange digestUnlikeSpec)

/-- ITS FALSE NEIGHBOUR: 'it returns false'. Refute it at one input. -/
def digestUnlikeWrong : ChangeSpec := { name := "digestUnlike", fn := fun _ => fun
  | [d1, d2, d3] => { results := [.lit (.bool false)], args := [d1, d2, d3] }
  | _ => none }
def DigestUnlikeWrongFalsely : Prop := digestUnlikeRow.holds Try.pinned (OpenSpec.ofChange digestUnlikeWrong)

/-- 'tidemarklaw10.DigestSums': WHATEVER THE INPUT: true; the input reads as it did. -/
def digestSumsSpec : ChangeSpec := { name := "digestSums", fn := fun _ => fun
  | [d1, d2, d3] => { results := [.lit (.bool true)], args := [d1, d2, d3] }
  | _ => none }
def digestSumsRow : OpenClaim := { program := "ytcmkjoepndbicaa", sum := "6e2502fe4192a8b4059b4a68dd26afc9643c498026bfc224044f091d371a1a08", func := "tidemark/tidemarklaw10.DigestSums", spec := "digestSums", unfollowed := true, recurses := true, apart := false }
def DigestSumsSaid : Prop := digestSumsRow.holds Try.pinned (OpenSpec.ofChange digestSumsSpec)

/-- ITS FALSE NEIGHBOUR: 'it returns false'. Refute it at one input. -/
def digestSumsWrong : ChangeSpec := { name := "digestSums", fn := fun _ => fun
  | [d1, d2, d3] => { results := [.lit (.bool false)], args := [d1, d2, d3] }
  | _ => none }
def DigestSumsWrongFalsely : Prop := digestSumsRow.holds Try.pinned (OpenSpec.ofChange digestSumsWrong)

/-- 'tidemarklaw10.DigestRoots': WHATEVER THE INPUT: true; the input reads as it did. -/
def digestRootsSpec : ChangeSpec := { name := "digestRoots", fn := fun _ => fun
  | [d1, d2] => { results := [.lit (.bool true)], args := [d1, d2] }
  | _ => none }
def digestRootsRow : OpenClaim := { program := "ytcmkjoepndbicaa", sum := "6e2502fe4192a8b4059b4a68dd26afc9643c498026bfc224044f091d371a1a08", func := "tidemark/tidemarklaw10.DigestRoots", spec := "digestRoots", unfollowed := true, recurses := true, apart := false }
def DigestRootsSaid : Prop := digestRootsRow.holds Try.pinned (OpenSpec.ofChange digestRootsSpec)

/-- ITS FALSE NEIGHBOUR: 'it returns false'. Refute it at one input. -/
def digestRootsWrong : ChangeSpec := { name := "digestRoots", fn := fun _ => fun
  | [d1, d2] => { results := [.lit (.bool false)], args := [d1, d2] }
  | _ => none }
def DigestRootsWrongFalsely : Prop := digestRootsRow.holds Try.pinned (OpenSpec.ofChange digestRootsWrong)

/-- 'tidemarklaw10.DigestAlike': WHATEVER THE INPUT: true; the input reads as it did. -/
def digestAlikeSpec : ChangeSpec := { name := "digestAlike", fn := fun _ => fun
  | [d1, d2, d3] => { results := [.lit (.bool true)], args := [d1, d2, d3] }
  | _ => none }
def digestAlikeRow : OpenClaim := { program := "ytcmkjoepndbicaa", sum := "6e2502fe4192a8b4059b4a68dd26afc9643c498026bfc224044f091d371a1a08", func := "tidemark/tidemarklaw10.DigestAlike", spec := "digestAlike", unfollowed := true, recurses := true, apart := false }
def DigestAlikeSaid : Prop := digestAlikeRow.holds Try.pinned (OpenSpec.ofChange digestAlikeSpec)

/-- ITS FALSE NEIGHBOUR: 'it returns false'. Refute it at one input. -/
def digestAlikeWrong : ChangeSpec := { name := "digestAlike", fn := fun _ => fun
  | [d1, d2, d3] => { results := [.lit (.bool false)], args := [d1, d2, d3] }
  | _ => none }
def DigestAlikeWrongFalsely : Prop := digestAlikeRow.holds Try.pinned (OpenSpec.ofChange digestAlikeWrong)

/-- 'tidemarklaw10.DigestParts': WHATEVER THE INPUT: true; the input reads as it did. -/
def digestPartsSpec : ChangeSpec := { name := "digestParts", fn := fun _ => fun
  | [d1, d2, d3] => { results := [.lit (.bool true)], args := [d1, d2, d3] }
  | _ => none }
def digestPartsRow : OpenClaim := { program := "ytcmkjoepndbicaa", sum := "6e2502fe4192a8b4059b4a68dd26afc9643c498026bfc224044f091d371a1a08", func := "tidemark/tidemarklaw10.DigestParts", spec := "digestParts", unfollowed := true, recurses := true, apart := false }
def DigestPartsSaid : Prop := digestPartsRow.holds Try.pinned (OpenSpec.ofChange digestPartsSpec)

/-- ITS FALSE NEIGHBOUR: 'it returns false'. Refute it at one input. -/
def digestPartsWrong : ChangeSpec := { name := "digestParts", fn := fun _ => fun
  | [d1, d2, d3] => { results := [.lit (.bool false)], args := [d1, d2, d3] }
  | _ => none }
def DigestPartsWrongFalsely : Prop := digestPartsRow.holds Try.pinned (OpenSpec.ofChange digestPartsWrong)

/-- 'tidemarklaw10.DigestNobody': WHATEVER THE INPUT: true; the input reads as it did. -/
def digestNobodySpec : ChangeSpec := { name := "digestNobody", fn := fun _ => fun
  | [d1, d2, d3] => { results := [.lit (.bool true)], args := [d1, d2, d3] }
  | _ => none }
def digestNobodyRow : OpenClaim := { program := "ytcmkjoepndbicaa", sum := "6e2502fe4192a8b4059b4a68dd26afc9643c498026bfc224044f091d371a1a08", func := "tidemark/tidemarklaw10.DigestNobody", spec := "digestNobody", unfollowed := true, recurses := true, apart := false }
def DigestNobodySaid : Prop := digestNobodyRow.holds Try.pinned (OpenSpec.ofChange digestNobodySpec)

/-- ITS FALSE NEIGHBOUR: 'it returns false'. Refute it at one input. -/
def digestNobodyWrong : ChangeSpec := { name := "digestNobody", fn := fun _ => fun
  | [d1, d2, d3] => { results := [.lit (.bool false)], args := [d1, d2, d3] }
  | _ => none }
def DigestNobodyWrongFalsely : Prop := digestNobodyRow.holds Try.pinned (OpenSpec.ofChange digestNobodyWrong)

/-- 'tidemarklaw10.DigestTold': WHATEVER THE INPUT: true; the input reads as it did. -/
def digestToldSpec : ChangeSpec := { name := "digestTold", fn := fun _ => fun
  | [d1, d2, d3] => { results := [.lit (.bool true)], args := [d1, d2, d3] }
  | _ => none }
def digestToldRow : OpenClaim := { program := "ytcmkjoepndbicaa", sum := "6e2502fe4192a8b4059b4a68dd26afc9643c498026bfc224044f091d371a1a08", func := "tidemark/tidemarklaw10.DigestTold", spec := "digestTold", unfollowed := true, recurses := true, apart := false }
def DigestToldSaid : Prop := digestToldRow.holds Try.pinned (OpenSpec.ofChange digestToldSpec)

/-- ITS FALSE NEIGHBOUR: 'it returns false'. Refute it at one input. -/
def digestToldWrong : ChangeSpec := { name := "digestTold", fn := fun _ => fun
  | [d1, d2, d3] => { results := [.lit (.bool false)], args := [d1, d2, d3] }
  | _ => none }
def DigestToldWrongFalsely : Prop := digestToldRow.holds Try.pinned (OpenSpec.ofChange digestToldWrong)

/-- 'tidemarklaw10.DigestWhole': WHATEVER THE INPUT: true; the input reads as it did. -/
def digestWholeSpec : ChangeSpec := { name := "digestWhole", fn := fun _ => fun
  | [d1, d2, d3] => { results := [.lit (.bool true)], args := [d1, d2, d3] }
  | _ => none }
def digestWholeRow : OpenClaim := { program := "ytcmkjoepndbicaa", sum := "6e2502fe4192a8b4059b4a68dd26afc9643c498026bfc224044f091d371a1a08", func := "tidemark/tidemarklaw10.DigestWhole", spec := "digestWhole", unfollowed := true, recurses := true, apart := false }
def DigestWholeSaid : Prop := digestWholeRow.holds Try.pinned (OpenSpec.ofChange digestWholeSpec)

/-- ITS FALSE NEIGHBOUR: 'it returns false'. Refute it at one input. -/
def digestWholeWrong : ChangeSpec := { name := "digestWhole", fn := fun _ => fun
  | [d1, d2, d3] => { results := [.lit (.bool false)], args := [d1, d2, d3] }
  | _ => none }
def DigestWholeWrongFalsely : Prop := digestWholeRow.holds Try.pinned (OpenSpec.ofChange digestWholeWrong)

/- THE SECOND FORM. 'bulk': how many values and letters a reading holds, each counted each time it is reached (what is shared counts as often as it is met; a slice's spare places count too). A statement '..UptoSaid' is the law's where the arguments, and the package variables that the reading takes, are together of bulk at most 1048576: NARROWER than '..Said'. Prove '..Said' where nothing that the law and all that it calls make is longer than what came in: it says more and counts as full. Else prove '..UptoSaid'. A law counts once. -/
mutual
def uptoBulk {H : Type} : DataW H → Nat
  | .lit (.string bytes) => bytes.length + 1
  | .lit _ => 1
  | .nil => 1
  | .ptr d => uptoBulk d + 1
  | .slice elems spare => uptoBulkAll elems + uptoBulkAll spare + 1
  | .agg parts => uptoBulkAll parts + 1
  | .iface _ d => uptoBulk d + 1
  | .map entries => uptoBulkEntries entries + 1
  | .held _ => 1
def uptoBulkAll {H : Type} : List (DataW H) → Nat
  | [] => 0
  | d :: r => uptoBulk d + uptoBulkAll r
def uptoBulkEntries {H : Type} : List (Lit × DataW H) → Nat
  | [] => 0
  | x :: r => uptoBulkEntry x + uptoBulkEntries r
def uptoBulkEntry {H : Type} : Lit × DataW H → Nat
  | (.string bytes, d) => bytes.length + uptoBulk d + 1
  | (_, d) => uptoBulk d + 1
 end
def uptoSmall : (H : Type) → List (DataW H) → Bool := fun _ ds => decide (uptoBulkAll ds ≤ 1048576)
def OpenSpec.upto (s : _root_.Go.ChangeSpec) : _root_.Go.OpenSpec := { _root_.Go.OpenSpec.ofChange s with cond := some uptoSmall }

/-- 'tidemarklaw10.DigestUnlike', WHERE WHAT IT READS IS OF BULK AT MOST 1048576: true; the input reads as it did. -/
def digestUnlikeUptoRow : OpenClaim := { program := "ytcmkjoepndbicaa", sum := "6e2502fe4192a8b4059b4a68dd26afc9643c498026bfc224044f091d371a1a08", func := "tidemark/tidemarklaw10.DigestUnlike", spec := "digestUnlike", unfollowed := true, recurses := true, apart := false, narrowed := true }
def DigestUnlikeUptoSaid : Prop := digestUnlikeUptoRow.holds Try.pinned (OpenSpec.upto digestUnlikeSpec)

/-- 'tidemarklaw10.DigestSums', WHERE WHAT IT READS IS OF BULK AT MOST 1048576: true; the input reads as it did. -/
def digestSumsUptoRow : OpenClaim := { program := "ytcmkjoepndbicaa", sum := "6e2502fe4192a8b4059b4a68dd26afc9643c498026bfc224044f091d371a1a08", func := "tidemark/tidemarklaw10.DigestSums", spec := "digestSums", unfollowed := true, recurses := true, apart := false, narrowed := true }
def DigestSumsUptoSaid : Prop := digestSumsUptoRow.holds Try.pinned (OpenSpec.upto digestSumsSpec)

/-- 'tidemarklaw10.DigestRoots', WHERE WHAT IT READS IS OF BULK AT MOST 1048576: true; the input reads as it did. -/
def digestRootsUptoRow : OpenClaim := { program := "ytcmkjoepndbicaa", sum := "6e2502fe4192a8b4059b4a68dd26afc9643c498026bfc224044f091d371a1a08", func := "tidemark/tidemarklaw10.DigestRoots", spec := "digestRoots", unfollowed := true, recurses := true, apart := false, narrowed := true }
def DigestRootsUptoSaid : Prop := digestRootsUptoRow.holds Try.pinned (OpenSpec.upto digestRootsSpec)

/-- 'tidemarklaw10.DigestAlike', WHERE WHAT IT READS IS OF BULK AT MOST 1048576: true; the input reads as it did. -/
def digestAlikeUptoRow : OpenClaim := { program := "ytcmkjoepndbicaa", sum := "6e2502fe4192a8b4059b4a68dd26afc9643c498026bfc224044f091d371a1a08", func := "tidemark/tidemarklaw10.DigestAlike", spec := "digestAlike", unfollowed := true, recurses := true, apart := false, narrowed := true }
def DigestAlikeUptoSaid : Prop := digestAlikeUptoRow.holds Try.pinned (OpenSpec.upto digestAlikeSpec)

/-- 'tidemarklaw10.DigestParts', WHERE WHAT IT READS IS OF BULK AT MOST 1048576: true; the input reads as it did. -/
def digestPartsUptoRow : OpenClaim := { program := "ytcmkjoepndbicaa", sum := "6e2502fe4192a8b4059b4a68dd26afc9643c498026bfc224044f091d371a1a08", func := "tidemark/tidemarklaw10.DigestParts", spec := "digestParts", unfollowed := true, recurses := true, apart := false, narrowed := true }
def DigestPartsUptoSaid : Prop := digestPartsUptoRow.holds Try.pinned (OpenSpec.upto digestPartsSpec)

/-- 'tidemarklaw10.DigestNobody', WHERE WHAT IT READS IS OF BULK AT MOST 1048576: true; the input reads as it did. -/
def digestNobodyUptoRow : OpenClaim := { program := "ytcmkjoepndbicaa", sum := "6e2502fe4192a8b4059b4a68dd26afc9643c498026bfc224044f091d371a1a08", func := "tidemark/tidemarklaw10.DigestNobody", spec := "digestNobody", unfollowed := true, recurses := true, apart := false, narrowed := true }
def DigestNobodyUptoSaid : Prop := digestNobodyUptoRow.holds Try.pinned (OpenSpec.upto digestNobodySpec)

/-- 'tidemarklaw10.DigestTold', WHERE WHAT IT READS IS OF BULK AT MOST 1048576: true; the input reads as it did. -/
def digestToldUptoRow : OpenClaim := { program := "ytcmkjoepndbicaa", sum := "6e2502fe4192a8b4059b4a68dd26afc9643c498026bfc224044f091d371a1a08", func := "tidemark/tidemarklaw10.DigestTold", spec := "digestTold", unfollowed := true, recurses := true, apart := false, narrowed := true }
def DigestToldUptoSaid : Prop := digestToldUptoRow.holds Try.pinned (OpenSpec.upto digestToldSpec)

/-- 'tidemarklaw10.DigestWhole', WHERE WHAT IT READS IS OF BULK AT MOST 1048576: true; the input reads as it did. -/
def digestWholeUptoRow : OpenClaim := { program := "ytcmkjoepndbicaa", sum := "6e2502fe4192a8b4059b4a68dd26afc9643c498026bfc224044f091d371a1a08", func := "tidemark/tidemarklaw10.DigestWhole", spec := "digestWhole", unfollowed := true, recurses := true, apart := false, narrowed := true }
def DigestWholeUptoSaid : Prop := digestWholeUptoRow.holds Try.pinned (OpenSpec.upto digestWholeSpec)

end Rows
end Go.Proofs.Ytcmkjoepndbicaa
