/-
  No cell of these rows narrows 'for every input' (looked for: loops, veiled, ifaces, maps, wideKeys, modest, calm, conditions, laid).
  DERIVED. THE GIVEN ROWS OF THIS SEAT. 10 by the template 'for every input the law returns true; each argument reads behind the call as it read before'; 0 by the template 'total and deterministic' (their statements: YtemnhmnompehoaaTotals.lean).
  GIVEN WITH THE SEED: the statements are not yours to turn. If you find one false, say at which input.
  Laid BY PROGRAM, IN A SANDBOX (cutbox-rows.mjs): the forced cells as the released guide's own fill.sh prints them over the translation 3f961ce0220f77db… (all of the seat's roots in one cut). By AI agents, Wed Nov 11 2026. No macro, syntax, notation, axiom, sorry.
-/
import Derived.Test.YtemnhmnompehoaaChecked
import GoSem.Claim
import GoSem.ClaimJoined
import GoSem.ClaimMapViews
import Derived.JoinedTies
import Derived.KernelRfl
namespace Go.Proofs.Ytemnhmnompehoaa
/- THE CELL 'sum', in the pinned program and in every row, IS THE sha256 OF THE DUMP (.gsa) THAT YtemnhmnompehoaaProg.lean LOADS. Nothing in Lean hashes anything: it is a label: what it is worth is what the hold of that sum in a sandbox is worth. -/
noncomputable def Try.pinned : Pinned := { name := "ytemnhmnompehoaa", sum := "3f961ce0220f77db14dc55c41ec412806bde923deccb8c28647870b92016b336", checked := Try.checked }
namespace Rows
def none {H : Type} : Left H := { results := [], args := [] }

/-- 'tidemarklaw13.GroupShares': WHATEVER THE INPUT: true; the input reads as it did. -/
def groupSharesSpec : ChangeSpec := { name := "groupShares", fn := fun _ => fun
  | [d1, d2] => { results := [.lit (.bool true)], args := [d1, d2] }
  | _ => none }
def groupSharesRow : OpenClaim := { program := "ytemnhmnompehoaa", sum := "3f961ce0220f77db14dc55c41ec412806bde923deccb8c28647870b92016b336", func := "tidemark/tidemarklaw13.GroupShares", spec := "groupShares", unfollowed := true, recurses := true, apart := false }
def GroupSharesSaid : Prop := groupSharesRow.holds Try.pinned (OpenSpec.ofChange groupSharesSpec)

/-- ITS FALSE NEIGHBOUR: 'it returns false'. Refute it at one input. -/
def groupSharesWrong : ChangeSpec := { name := "groupShares", fn := fun _ => fun
  | [d1, d2] => { results := [.lit (.bool false)], args := [d1, d2] }
  | _ => none }
def GroupSharesWrongFalsely : Prop := groupSharesRow.holds Try.pinned (OpenSpec.ofChange groupSharesWrong)

/-- 'tidemarklaw13.GroupEven': WHATEVER THE INPUT: true; the input reads as it did. -/
def groupEvenSpec : ChangeSpec := { name := "groupEven", fn := fun _ => fun
  | [d1, d2] => { results := [.lit (.bool true)], args := [d1, d2] }
  | _ => none }
def groupEvenRow : OpenClaim := { program := "ytemnhmnompehoaa", sum := "3f961ce0220f77db14dc55c41ec412806bde923deccb8c28647870b92016b336", func := "tidemark/tidemarklaw13.GroupEven", spec := "groupEven", unfollowed := true, recurses := true, apart := false }
def GroupEvenSaid : Prop := groupEvenRow.holds Try.pinned (OpenSpec.ofChange groupEvenSpec)

/-- ITS FALSE NEIGHBOUR: 'it returns false'. Refute it at one input. -/
def groupEvenWrong : ChangeSpec := { name := "groupEven", fn := fun _ => fun
  | [d1, d2] => { results := [.lit (.bool false)], args := [d1, d2] }
  | _ => none }
def GroupEvenWrongFalsely : Prop := groupEvenRow.holds Try.pinned (OpenSpec.ofChange groupEvenWrong)

/-- 'tidemarklaw13.GroupStill': WHATEVER THE INPUT: true; the input reads as it did. -/
def groupStillSpec : ChangeSpec := { name := "groupStill", fn := fun _ => fun
  | [d1, d2, d3] => { results := [.lit (.bool true)], args := [d1, d2, d3] }
  | _ => none }
def groupStillRow : OpenClaim := { program := "ytemnhmnompehoaa", sum := "3f961ce0220f77db14dc55c41ec412806bde923deccb8c28647870b92016b336", func := "tidemark/tidemarklaw13.GroupStill", spec := "groupStill", unfollowed := true, recurses := true, apart := false }
def GroupStillSaid : Prop := groupStillRow.holds Try.pinned (OpenSpec.ofChange groupStillSpec)

/-- ITS FALSE NEIGHBOUR: 'it returns false'. Refute it at one input. -/
def groupStillWrong : ChangeSpec := { name := "groupStill", fn := fun _ => fun
  | [d1, d2, d3] => { results := [.lit (.bool false)], args := [d1, d2, d3] }
  | _ => none }
def GroupStillWrongFalsely : Prop := groupStillRow.holds Try.pinned (OpenSpec.ofChange groupStillWrong)

/-- 'tidemarklaw13.GroupPlays': WHATEVER THE INPUT: true; the input reads as it did. -/
def groupPlaysSpec : ChangeSpec := { name := "groupPlays", fn := fun _ => fun
  | [d] => { results := [.lit (.bool true)], args := [d] }
  | _ => none }
def groupPlaysRow : OpenClaim := { program := "ytemnhmnompehoaa", sum := "3f961ce0220f77db14dc55c41ec412806bde923deccb8c28647870b92016b336", func := "tidemark/tidemarklaw13.GroupPlays", spec := "groupPlays", unfollowed := true, recurses := true, apart := false }
def GroupPlaysSaid : Prop := groupPlaysRow.holds Try.pinned (OpenSpec.ofChange groupPlaysSpec)

/-- ITS FALSE NEIGHBOUR: 'it returns false'. Refute it at one input. -/
def groupPlaysWrong : ChangeSpec := { name := "groupPlays", fn := fun _ => fun
  | [d] => { results := [.lit (.bool false)], args := [d] }
  | _ => none }
def GroupPlaysWrongFalsely : Prop := groupPlaysRow.holds Try.pinned (OpenSpec.ofChange groupPlaysWrong)

/-- 'tidemarklaw13.GroupOnce': WHATEVER THE INPUT: true; the input reads as it did. -/
def groupOnceSpec : ChangeSpec := { name := "groupOnce", fn := fun _ => fun
  | [d] => { results := [.lit (.bool true)], args := [d] }
  | _ => none }
def groupOnceRow : OpenClaim := { program := "ytemnhmnompehoaa", sum := "3f961ce0220f77db14dc55c41ec412806bde923deccb8c28647870b92016b336", func := "tidemark/tidemarklaw13.GroupOnce", spec := "groupOnce", unfollowed := true, recurses := true, apart := false }
def GroupOnceSaid : Prop := groupOnceRow.holds Try.pinned (OpenSpec.ofChange groupOnceSpec)

/-- ITS FALSE NEIGHBOUR: 'it returns false'. Refute it at one input. -/
def groupOnceWrong : ChangeSpec := { name := "groupOnce", fn := fun _ => fun
  | [d] => { results := [.lit (.bool false)], args := [d] }
  | _ => none }
def GroupOnceWrongFalsely : Prop := groupOnceRow.holds Try.pinned (OpenSpec.ofChange groupOnceWrong)

/-- 'tidemarklaw13.GroupRefused': WHATEVER THE INPUT: true; the input reads as it did. -/
def groupRefusedSpec : ChangeSpec := { name := "groupRefused", fn := fun _ => fun
  | [d1, d2] => { results := [.lit (.bool true)], args := [d1, d2] }
  | _ => none }
def groupRefusedRow : OpenClaim := { program := "ytemnhmnompehoaa", sum := "3f961ce0220f77db14dc55c41ec412806bde923deccb8c28647870b92016b336", func := "tidemark/tidemarklaw13.GroupRefused", spec := "groupRefused", unfollowed := true, recurses := true, apart := false }
def GroupRefusedSaid : Prop := groupRefusedRow.holds Try.pinned (OpenSpec.ofChange groupRefusedSpec)

/-- ITS FALSE NEIGHBOUR: 'it returns false'. Refute it at one input. -/
def groupRefusedWrong : ChangeSpec := { name := "groupRefused", fn := fun _ => fun
  | [d1, d2] => { results := [.lit (.bool false)], args := [d1, d2] }
  | _ => none }
def GroupRefusedWrongFalsely : Prop := groupRefusedRow.holds Try.pinned (OpenSpec.ofChange groupRefusedWrong)

/-- 'tidemarklaw13.GroupParts': WHATEVER THE INPUT: true; the input reads as it did. -/
def groupPartsSpec : ChangeSpec := { name := "groupParts", fn := fun _ => fun
  | [d1, d2, d3] => { results := [.lit (.bool true)], args := [d1, d2, d3] }
  | _ => none }
def groupPartsRow : OpenClaim := { program := "ytemnhmnompehoaa", sum := "3f961ce0220f77db14dc55c41ec412806bde923deccb8c28647870b92016b336", func := "tidemark/tidemarklaw13.GroupParts", spec := "groupParts", unfollowed := true, recurses := true, apart := false }
def GroupPartsSaid : Prop := groupPartsRow.holds Try.pinned (OpenSpec.ofChange groupPartsSpec)

/-- ITS FALSE NEIGHBOUR: 'it returns false'. Refute it at one input. -/
def groupPartsWrong : ChangeSpec := { name := "groupParts", fn := fun _ => fun
  | [d1, d2, d3] => { results := [.lit (.bool false)], args := [d1, d2, d3] }
  | _ => none }
def GroupPartsWrongFalsely : Prop := groupPartsRow.holds Try.pinned (OpenSpec.ofChange groupPartsWrong)

/-- 'tidemarklaw13.GroupAll': WHATEVER THE INPUT: true; the input reads as it did. -/
def groupAllSpec : ChangeSpec := { name := "groupAll", fn := fun _ => fun
  | [d1, d2] => { results := [.lit (.bool true)], args := [d1, d2] }
  | _ => none }
def groupAllRow : OpenClaim := { program := "ytemnhmnompehoaa", sum := "3f961ce0220f77db14dc55c41ec412806bde923deccb8c28647870b92016b336", func := "tidemark/tidemarklaw13.GroupAll", spec := "groupAll", unfollowed := true, recurses := true, apart := false }
def GroupAllSaid : Prop := groupAllRow.holds Try.pinned (OpenSpec.ofChange groupAllSpec)

/-- ITS FALSE NEIGHBOUR: 'it returns false'. Refute it at one input. -/
def groupAllWrong : ChangeSpec := { name := "groupAll", fn := fun _ => fun
  | [d1, d2] => { results := [.lit (.bool false)], args := [d1, d2] }
  | _ => none }
def GroupAllWrongFalsely : Prop := groupAllRow.holds Try.pinned (OpenSpec.ofChange groupAllWrong)

/-- 'tidemarklaw13.GroupNobody': WHATEVER THE INPUT: true; the input reads as it did. -/
def groupNobodySpec : ChangeSpec := { name := "groupNobody", fn := fun _ => fun
  | [d1, d2] => { results := [.lit (.bool true)], args := [d1, d2] }
  | _ => none }
def groupNobodyRow : OpenClaim := { program := "ytemnhmnompehoaa", sum := "3f961ce0220f77db14dc55c41ec412806bde923deccb8c28647870b92016b336", func := "tidemark/tidemarklaw13.GroupNobody", spec := "groupNobody", unfollowed := true, recurses := true, apart := false }
def GroupNobodySaid : Prop := groupNobodyRow.holds Try.pinned (OpenSpec.ofChange groupNobodySpec)

/-- ITS FALSE NEIGHBOUR: 'it returns false'. Refute it at one input. -/
def groupNobodyWrong : ChangeSpec := { name := "groupNobody", fn := fun _ => fun
  | [d1, d2] => { results := [.lit (.bool false)], args := [d1, d2] }
  | _ => none }
def GroupNobodyWrongFalsely : Prop := groupNobodyRow.holds Try.pinned (OpenSpec.ofChange groupNobodyWrong)

/-- 'tidemarklaw13.GroupBytes': WHATEVER THE INPUT: true; the input reads as it did. -/
def groupBytesSpec : ChangeSpec := { name := "groupBytes", fn := fun _ => fun
  | [d1, d2, d3] => { results := [.lit (.bool true)], args := [d1, d2, d3] }
  | _ => none }
def groupBytesRow : OpenClaim := { program := "ytemnhmnompehoaa", sum := "3f961ce0220f77db14dc55c41ec412806bde923deccb8c28647870b92016b336", func := "tidemark/tidemarklaw13.GroupBytes", spec := "groupBytes", unfollowed := true, recurses := true, apart := false }
def GroupBytesSaid : Prop := groupBytesRow.holds Try.pinned (OpenSpec.ofChange groupBytesSpec)

/-- ITS FALSE NEIGHBOUR: 'it returns false'. Refute it at one input. -/
def groupBytesWrong : ChangeSpec := { name := "groupBytes", fn := fun _ => fun
  | [d1, d2, d3] => { results := [.lit (.bool false)], args := [d1, d2, d3] }
  | _ => none }
def GroupBytesWrongFalsely : Prop := groupBytesRow.holds Try.pinned (OpenSpec.ofChange groupBytesWrong)

/- THE SECOND FORM. 'bulk': how many values and letters a reading holds, each counted each time it is reached (what is shared counts as often as it is met; a slice's spare places count too). A statement '..UptoSaid' is the law's where the arguments, and the package variables that the reading takes, are together of bulk at most 1048576: NARROWER than '..Said'. Prove '..Said' where nothing that the law and all that it calls make is longer than what came in: it says more and counts as full. Else prove '..UptoSaid'. A law counts once. -/
mutual
def uptoBulk {H : Type} : DataW H → Nat
  | .lit (.string bytes) => bytes.length + 1
  | .lit _ => 1
  | .nil => 1
  | .ptr d => uptoBulk d + 1
  | .slice elems spare => uptoBulkAll elems + uptoBulkAll spare + 1
  | .agg parts => uptoBulkAll parts + 1
  | .iface _ d => uptoBulk d + 1
  | .map entries => uptoBulkEntries entries + 1
  | .held _ => 1
def uptoBulkAll {H : Type} : List (DataW H) → Nat
  | [] => 0
  | d :: r => uptoBulk d + uptoBulkAll r
def uptoBulkEntries {H : Type} : List (Lit × DataW H) → Nat
  | [] => 0
  | x :: r => uptoBulkEntry x + uptoBulkEntries r
def uptoBulkEntry {H : Type} : Lit × DataW H → Nat
  | (.string bytes, d) => bytes.length + uptoBulk d + 1
  | (_, d) => uptoBulk d + 1
 end
def uptoSmall : (H : Type) → List (DataW H) → Bool := fun _ ds => decide (uptoBulkAll ds ≤ 1048576)
def OpenSpec.upto (s : _root_.Go.ChangeSpec) : _root_.Go.OpenSpec := { _root_.Go.OpenSpec.ofChange s with cond := some uptoSmall }

/-- 'tidemarklaw13.GroupShares', WHERE WHAT IT READS IS OF BULK AT MOST 1048576: true; the input reads as it did. -/
def groupSharesUptoRow : OpenClaim := { program := "ytemnhmnompehoaa", sum := "3f961ce0220f77db14dc55c41ec412806bde923deccb8c28647870b92016b336", func := "tidemark/tidemarklaw13.GroupShares", spec := "groupShares", unfollowed := true, recurses := true, apart := false, narrowed := true }
def GroupSharesUptoSaid : Prop := groupSharesUptoRow.holds Try.pinned (OpenSpec.upto groupSharesSpec)

/-- 'tidemarklaw13.GroupEven', WHERE WHAT IT READS IS OF BULK AT MOST 1048576: true; the input reads as it did. -/
def groupEvenUptoRow : OpenClaim := { program := "ytemnhmnompehoaa", sum := "3f961ce0220f77db14dc55c41ec412806bde923deccb8c28647870b92016b336", func := "tidemark/tidemarklaw13.GroupEven", spec := "groupEven", unfollowed := true, recurses := true, apart := false, narrowed := true }
def GroupEvenUptoSaid : Prop := groupEvenUptoRow.holds Try.pinned (OpenSpec.upto groupEvenSpec)

/-- 'tidemarklaw13.GroupStill', WHERE WHAT IT READS IS OF BULK AT MOST 1048576: true; the input reads as it did. -/
def groupStillUptoRow : OpenClaim := { program := "ytemnhmnompehoaa", sum := "3f961ce0220f77db14dc55c41ec412806bde923deccb8c28647870b92016b336", func := "tidemark/tidemarklaw13.GroupStill", spec := "groupStill", unfollowed := true, recurses := true, apart := false, narrowed := true }
def GroupStillUptoSaid : Prop := groupStillUptoRow.holds Try.pinned (OpenSpec.upto groupStillSpec)

/-- 'tidemarklaw13.GroupPlays', WHERE WHAT IT READS IS OF BULK AT MOST 1048576: true; the input reads as it did. -/
def groupPlaysUptoRow : OpenClaim := { program := "ytemnhmnompehoaa", sum := "3f961ce0220f77db14dc55c41ec412806bde923deccb8c28647870b92016b336", func := "tidemark/tidemarklaw13.GroupPlays", spec := "groupPlays", unfollowed := true, recurses := true, apart := false, narrowed := true }
def GroupPlaysUptoSaid : Prop := groupPlaysUptoRow.holds Try.pinned (OpenSpec.upto groupPlaysSpec)

/-- 'tidemarklaw13.GroupOnce', WHERE WHAT IT READS IS OF BULK AT MOST 1048576: true; the input reads as it did. -/
def groupOnceUptoRow : OpenClaim := { program := "ytemnhmnompehoaa", sum := "3f961ce0220f77db14dc55c41ec412806bde923deccb8c28647870b92016b336", func := "tidemark/tidemarklaw13.GroupOnce", spec := "groupOnce", unfollowed := true, recurses := true, apart := false, narrowed := true }
def GroupOnceUptoSaid : Prop := groupOnceUptoRow.holds Try.pinned (OpenSpec.upto groupOnceSpec)

/-- 'tidemarklaw13.GroupRefused', WHERE WHAT IT READS IS OF BULK AT MOST 1048576: true; the input reads as it did. -/
def groupRefusedUptoRow : OpenClaim := { program := "ytemnhmnompehoaa", sum := "3f961ce0220f77db14dc55c41ec412806bde923deccb8c28647870b92016b336", func := "tidemark/tidemarklaw13.GroupRefused", spec := "groupRefused", unfollowed := true, recurses := true, apart := false, narrowed := true }
def GroupRefusedUptoSaid : Prop := groupRefusedUptoRow.holds Try.pinned (OpenSpec.upto groupRefusedSpec)

/-- 'tidemarklaw13.GroupParts', WHERE WHAT IT READS IS OF BULK AT MOST 1048576: true; the input reads as it did. -/
def groupPartsUptoRow : OpenClaim := { program := "ytemnhmnompehoaa", sum := "3f961ce0220f77db14dc55c41ec412806bde923deccb8c28647870b92016b336", func := "tidemark/tidemarklaw13.GroupParts", spec := "groupParts", unfollowed := true, recurses := true, apart := false, narrowed := true }
def GroupPartsUptoSaid : Prop := groupPartsUptoRow.holds Try.pinned (OpenSpec.upto groupPartsSpec)

/-- 'tidemarklaw13.GroupAll', WHERE WHAT IT READS IS OF BULK AT MOST 1048576: true; the input reads as it did. -/
def groupAllUptoRow : OpenClaim := { program := "ytemnhmnompehoaa", sum := "3f961ce0220f77db14dc55c41ec412806bde923deccb8c28647870b92016b336", func := "tidemark/tidemarklaw13.GroupAll", spec := "groupAll", unfollowed := true, recurses := true, apart := false, narrowed := true }
def GroupAllUptoSaid : Prop := groupAllUptoRow.holds Try.pinned (OpenSpec.upto groupAllSpec)

/-- 'tidemarklaw13.GroupNobody', WHERE WHAT IT READS IS OF BULK AT MOST 1048576: true; the input reads as it did. -/
def groupNobodyUptoRow : OpenClaim := { program := "ytemnhmnompehoaa", sum := "3f961ce0220f77db14dc55c41ec412806bde923deccb8c28647870b92016b336", func := "tidemark/tidemarklaw13.GroupNobody", spec := "groupNobody", unfollowed := true, recurses := true, apart := false, narrowed := true }
def GroupNobodyUptoSaid : Prop := groupNobodyUptoRow.holds Try.pinned (OpenSpec.upto groupNobodySpec)

/-- 'tidemarklaw13.GroupBytes', WHERE WHAT IT READS IS OF BULK AT MOST 1048576: true; the input reads as it did. -/
def groupBytesUptoRow : OpenClaim := { program := "ytemnhmnompehoaa", sum := "3f961ce0220f77db14dc55c41ec412806bde923deccb8c28647870b92016b336", func := "tidemark/tidemarklaw13.GroupBytes", spec := "groupBytes", unfollowed := true, recurses := true, apart := false, narrowed := true }
def GroupBytesUptoSaid : Prop := groupBytesUptoRow.holds Try.pinned (OpenSpec.upto groupBytesSpec)

end Rows
end Go.Proofs.Ytemnhmnompehoaa
