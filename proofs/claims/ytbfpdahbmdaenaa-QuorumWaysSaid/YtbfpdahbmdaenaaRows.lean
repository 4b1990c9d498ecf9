/-
  No cell of these rows narrows 'for every input' (looked for: loops, veiled, ifaces, maps, wideKeys, modest, calm, conditions, laid).
  DERIVED. THE GIVEN ROWS OF THIS SEAT. 10 by the template 'for every input the law returns true; each argument reads behind the call as it read before'; 0 by the template 'total and deterministic' (their statements: YtbfpdahbmdaenaaTotals.lean).
  GIVEN WITH THE SEED: the statements are not yours to turn. If you find one false, say at which input.
  Laid BY PROGRAM, IN A SANDBOX (cutbox-rows.mjs): the forced cells as the released guide's own fill.sh prints them over the translation 6fbf92834ad9f68d… (all of the seat's roots in one cut). By AI agents, Wed Nov 11 2026. No macro, syntax, notation, axiom, sorry.
-/
import Derived.Test.YtbfpdahbmdaenaaChecked
import GoSem.Claim
import GoSem.ClaimJoined
import GoSem.ClaimMapViews
import Derived.JoinedTies
import Derived.KernelRfl
namespace Go.Proofs.Ytbfpdahbmdaenaa
/- THE CELL 'sum', in the pinned program and in every row, IS THE sha256 OF THE DUMP (.gsa) THAT YtbfpdahbmdaenaaProg.lean LOADS. Nothing in Lean hashes anything: it is a label: what it is worth is what the hold of that sum in a sandbox is worth. -/
noncomputable def Try.pinned : Pinned := { name := "ytbfpdahbmdaenaa", sum := "6fbf92834ad9f68d1fc67500c61d89f60c6d98ac877f29dbfca881af88c5c869", checked := Try.checked }
namespace Rows
def none {H : Type} : Left H := { results := [], args := [] }

/-- 'tidemarklaw17.QuorumMost': WHATEVER THE INPUT: true; the input reads as it did. -/
def quorumMostSpec : ChangeSpec := { name := "quorumMost", fn := fun _ => fun
  | [d1, d2] => { results := [.lit (.bool true)], args := [d1, d2] }
  | _ => none }
def quorumMostRow : OpenClaim := { program := "ytbfpdahbmdaenaa", sum := "6fbf92834ad9f68d1fc67500c61d89f60c6d98ac877f29dbfca881af88c5c869", func := "tidemark/tidemarklaw17.QuorumMost", spec := "quorumMost", recurses := true, apart := false }
def QuorumMostSaid : Prop := quorumMostRow.holds Try.pinned (OpenSpec.ofChange quorumMostSpec)

/-- ITS FALSE NEIGHBOUR: 'it returns false'. Refute it at one input. -/
def quorumMostWrong : ChangeSpec := { name := "quorumMost", fn := fun _ => fun
  | [d1, d2] => { results := [.lit (.bool false)], args := [d1, d2] }
  | _ => none }
def QuorumMostWrongFalsely : Prop := quorumMostRow.holds Try.pinned (OpenSpec.ofChange quorumMostWrong)

/-- 'tidemarklaw17.QuorumChecks': WHATEVER THE INPUT: true; the input reads as it did. -/
def quorumChecksSpec : ChangeSpec := { name := "quorumChecks", fn := fun _ => fun
  | [d] => { results := [.lit (.bool true)], args := [d] }
  | _ => none }
def quorumChecksRow : OpenClaim := { program := "ytbfpdahbmdaenaa", sum := "6fbf92834ad9f68d1fc67500c61d89f60c6d98ac877f29dbfca881af88c5c869", func := "tidemark/tidemarklaw17.QuorumChecks", spec := "quorumChecks", unfollowed := true, recurses := true, apart := false }
def QuorumChecksSaid : Prop := quorumChecksRow.holds Try.pinned (OpenSpec.ofChange quorumChecksSpec)

/-- ITS FALSE NEIGHBOUR: 'it returns false'. Refute it at one input. -/
def quorumChecksWrong : ChangeSpec := { name := "quorumChecks", fn := fun _ => fun
  | [d] => { results := [.lit (.bool false)], args := [d] }
  | _ => none }
def QuorumChecksWrongFalsely : Prop := quorumChecksRow.holds Try.pinned (OpenSpec.ofChange quorumChecksWrong)

/-- 'tidemarklaw17.QuorumMays': WHATEVER THE INPUT: true; the input reads as it did. -/
def quorumMaysSpec : ChangeSpec := { name := "quorumMays", fn := fun _ => fun
  | [d1, d2] => { results := [.lit (.bool true)], args := [d1, d2] }
  | _ => none }
def quorumMaysRow : OpenClaim := { program := "ytbfpdahbmdaenaa", sum := "6fbf92834ad9f68d1fc67500c61d89f60c6d98ac877f29dbfca881af88c5c869", func := "tidemark/tidemarklaw17.QuorumMays", spec := "quorumMays", unfollowed := true, recurses := true, apart := false }
def QuorumMaysSaid : Prop := quorumMaysRow.holds Try.pinned (OpenSpec.ofChange quorumMaysSpec)

/-- ITS FALSE NEIGHBOUR: 'it returns false'. Refute it at one input. -/
def quorumMaysWrong : ChangeSpec := { name := "quorumMays", fn := fun _ => fun
  | [d1, d2] => { results := [.lit (.bool false)], args := [d1, d2] }
  | _ => none }
def QuorumMaysWrongFalsely : Prop := quorumMaysRow.holds Try.pinned (OpenSpec.ofChange quorumMaysWrong)

/-- 'tidemarklaw17.QuorumCounts': WHATEVER THE INPUT: true; the input reads as it did. -/
def quorumCountsSpec : ChangeSpec := { name := "quorumCounts", fn := fun _ => fun
  | [d1, d2] => { results := [.lit (.bool true)], args := [d1, d2] }
  | _ => none }
def quorumCountsRow : OpenClaim := { program := "ytbfpdahbmdaenaa", sum := "6fbf92834ad9f68d1fc67500c61d89f60c6d98ac877f29dbfca881af88c5c869", func := "tidemark/tidemarklaw17.QuorumCounts", spec := "quorumCounts", unfollowed := true, recurses := true, apart := false }
def QuorumCountsSaid : Prop := quorumCountsRow.holds Try.pinned (OpenSpec.ofChange quorumCountsSpec)

/-- ITS FALSE NEIGHBOUR: 'it returns false'. Refute it at one input. -/
def quorumCountsWrong : ChangeSpec := { name := "quorumCounts", fn := fun _ => fun
  | [d1, d2] => { results := [.lit (.bool false)], args := [d1, d2] }
  | _ => none }
def QuorumCountsWrongFalsely : Prop := quorumCountsRow.holds Try.pinned (OpenSpec.ofChange quorumCountsWrong)

/-- 'tidemarklaw17.QuorumAgrees': WHATEVER THE INPUT: true; the input reads as it did. -/
def quorumAgreesSpec : ChangeSpec := { name := "quorumAgrees", fn := fun _ => fun
  | [d1, d2] => { results := [.lit (.bool true)], args := [d1, d2] }
  | _ => none }
def quorumAgreesRow : OpenClaim := { program := "ytbfpdahbmdaenaa", sum := "6fbf92834ad9f68d1fc67500c61d89f60c6d98ac877f29dbfca881af88c5c869", func := "tidemark/tidemarklaw17.QuorumAgrees", spec := "quorumAgrees", unfollowed := true, recurses := true, apart := false }
def QuorumAgreesSaid : Prop := quorumAgreesRow.holds Try.pinned (OpenSpec.ofChange quorumAgreesSpec)

/-- ITS FALSE NEIGHBOUR: 'it returns false'. Refute it at one input. -/
def quorumAgreesWrong : ChangeSpec := { name := "quorumAgrees", fn := fun _ => fun
  | [d1, d2] => { results := [.lit (.bool false)], args := [d1, d2] }
  | _ => none }
def QuorumAgreesWrongFalsely : Prop := quorumAgreesRow.holds Try.pinned (OpenSpec.ofChange quorumAgreesWrong)

/-- 'tidemarklaw17.QuorumOne': WHATEVER THE INPUT: true; the input reads as it did. -/
def quorumOneSpec : ChangeSpec := { name := "quorumOne", fn := fun _ => fun
  | [d1, d2] => { results := [.lit (.bool true)], args := [d1, d2] }
  | _ => none }
def quorumOneRow : OpenClaim := { program := "ytbfpdahbmdaenaa", sum := "6fbf92834ad9f68d1fc67500c61d89f60c6d98ac877f29dbfca881af88c5c869", func := "tidemark/tidemarklaw17.QuorumOne", spec := "quorumOne", unfollowed := true, recurses := true, apart := false }
def QuorumOneSaid : Prop := quorumOneRow.holds Try.pinned (OpenSpec.ofChange quorumOneSpec)

/-- ITS FALSE NEIGHBOUR: 'it returns false'. Refute it at one input. -/
def quorumOneWrong : ChangeSpec := { name := "quorumOne", fn := fun _ => fun
  | [d1, d2] => { results := [.lit (.bool false)], args := [d1, d2] }
  | _ => none }
def QuorumOneWrongFalsely : Prop := quorumOneRow.holds Try.pinned (OpenSpec.ofChange quorumOneWrong)

/-- 'tidemarklaw17.QuorumOverlap': WHATEVER THE INPUT: true; the input reads as it did. -/
def quorumOverlapSpec : ChangeSpec := { name := "quorumOverlap", fn := fun _ => fun
  | [d1, d2, d3, d4] => { results := [.lit (.bool true)], args := [d1, d2, d3, d4] }
  | _ => none }
def quorumOverlapRow : OpenClaim := { program := "ytbfpdahbmdaenaa", sum := "6fbf92834ad9f68d1fc67500c61d89f60c6d98ac877f29dbfca881af88c5c869", func := "tidemark/tidemarklaw17.QuorumOverlap", spec := "quorumOverlap", unfollowed := true, recurses := true, apart := false }
def QuorumOverlapSaid : Prop := quorumOverlapRow.holds Try.pinned (OpenSpec.ofChange quorumOverlapSpec)

/-- ITS FALSE NEIGHBOUR: 'it returns false'. Refute it at one input. -/
def quorumOverlapWrong : ChangeSpec := { name := "quorumOverlap", fn := fun _ => fun
  | [d1, d2, d3, d4] => { results := [.lit (.bool false)], args := [d1, d2, d3, d4] }
  | _ => none }
def QuorumOverlapWrongFalsely : Prop := quorumOverlapRow.holds Try.pinned (OpenSpec.ofChange quorumOverlapWrong)

/-- 'tidemarklaw17.QuorumAll': WHATEVER THE INPUT: true; the input reads as it did. -/
def quorumAllSpec : ChangeSpec := { name := "quorumAll", fn := fun _ => fun
  | [d1, d2] => { results := [.lit (.bool true)], args := [d1, d2] }
  | _ => none }
def quorumAllRow : OpenClaim := { program := "ytbfpdahbmdaenaa", sum := "6fbf92834ad9f68d1fc67500c61d89f60c6d98ac877f29dbfca881af88c5c869", func := "tidemark/tidemarklaw17.QuorumAll", spec := "quorumAll", unfollowed := true, recurses := true, apart := false }
def QuorumAllSaid : Prop := quorumAllRow.holds Try.pinned (OpenSpec.ofChange quorumAllSpec)

/-- ITS FALSE NEIGHBOUR: 'it returns false'. Refute it at one input. -/
def quorumAllWrong : ChangeSpec := { name := "quorumAll", fn := fun _ => fun
  | [d1, d2] => { results := [.lit (.bool false)], args := [d1, d2] }
  | _ => none }
def QuorumAllWrongFalsely : Prop := quorumAllRow.holds Try.pinned (OpenSpec.ofChange quorumAllWrong)

/-- 'tidemarklaw17.QuorumAsks': WHATEVER THE INPUT: true; the input reads as it did. -/
def quorumAsksSpec : ChangeSpec := { name := "quorumAsks", fn := fun _ => fun
  | [d1, d2] => { results := [.lit (.bool true)], args := [d1, d2] }
  | _ => none }
def quorumAsksRow : OpenClaim := { program := "ytbfpdahbmdaenaa", sum := "6fbf92834ad9f68d1fc67500c61d89f60c6d98ac877f29dbfca881af88c5c869", func := "tidemark/tidemarklaw17.QuorumAsks", spec := "quorumAsks", unfollowed := true, recurses := true, apart := false }
def QuorumAsksSaid : Prop := quorumAsksRow.holds Try.pinned (OpenSpec.ofChange quorumAsksSpec)

/-- ITS FALSE NEIGHBOUR: 'it returns false'. Refute it at one input. -/
def quorumAsksWrong : ChangeSpec := { name := "quorumAsks", fn := fun _ => fun
  | [d1, d2] => { results := [.lit (.bool false)], args := [d1, d2] }
  | _ => none }
def QuorumAsksWrongFalsely : Prop := quorumAsksRow.holds Try.pinned (OpenSpec.ofChange quorumAsksWrong)

/-- 'tidemarklaw17.QuorumWays': WHATEVER THE INPUT: true; the input reads as it did. -/
def quorumWaysSpec : ChangeSpec := { name := "quorumWays", fn := fun _ => fun
  | [d1, d2] => { results := [.lit (.bool true)], args := [d1, d2] }
  | _ => none }
def quorumWaysRow : OpenClaim := { program := "ytbfpdahbmdaenaa", sum := "6fbf92834ad9f68d1fc67500c61d89f60c6d98ac877f29dbfca881af88c5c869", func := "tidemark/tidemarklaw17.QuorumWays", spec := "quorumWays", unfollowed := true, recurses := true, apart := false }
def QuorumWaysSaid : Prop := quorumWaysRow.holds Try.pinned (OpenSpec.ofChange quorumWaysSpec)

/-- ITS FALSE NEIGHBOUR: 'it returns false'. Refute it at one input. -/
def quorumWaysWrong : ChangeSpec := { name := "quorumWays", fn := fun _ => fun
  | [d1, d2] => { results := [.lit (.bool false)], args := [d1, d2] }
  | _ => none }
def QuorumWaysWrongFalsely : Prop := quorumWaysRow.holds Try.pinned (OpenSpec.ofChange quorumWaysWrong)

/- THE SECOND FORM. 'bulk': how many values and letters a reading holds, each counted each time it is reached (what is shared counts as often as it is met; a slice's spare places count too). A statement '..UptoSaid' is the law's where the arguments, and the package variables that the reading takes, are together of bulk at most 1048576: NARROWER than '..Said'. Prove '..Said' where nothing that the law and all that it calls make is longer than what came in: it says more and counts as full. Else prove '..UptoSaid'. A law counts once. -/
mutual
def uptoBulk {H : Type} : DataW H → Nat
  | .lit (.string bytes) => bytes.length + 1
  | .lit _ => 1
  | .nil => 1
  | .ptr d => uptoBulk d + 1
  | .slice elems spare => uptoBulkAll elems + uptoBulkAll spare + 1
  | .agg parts => uptoBulkAll parts + 1
  | .iface _ d => uptoBulk d + 1
  | .map entries => uptoBulkEntries entries + 1
  | .held _ => 1
def uptoBulkAll {H : Type} : List (DataW H) → Nat
  | [] => 0
  | d :: r => uptoBulk d + uptoBulkAll r
def uptoBulkEntries {H : Type} : List (Lit × DataW H) → Nat
  | [] => 0
  | x :: r => uptoBulkEntry x + uptoBulkEntries r
def uptoBulkEntry {H : Type} : Lit × DataW H → Nat
  | (.string bytes, d) => bytes.length + uptoBulk d + 1
  | (_, d) => uptoBulk d + 1
 end
def uptoSmall : (H : Type) → List (DataW H) → Bool := fun _ ds => decide (uptoBulkAll ds ≤ 1048576)
def OpenSpec.upto (s : _root_.Go.ChangeSpec) : _root_.Go.OpenSpec := { _root_.Go.OpenSpec.ofChange s with cond := some uptoSmall }

/-- 'tidemarklaw17.QuorumMost', WHERE WHAT IT READS IS OF BULK AT MOST 1048576: true; the input reads as it did. -/
def quorumMostUptoRow : OpenClaim := { program := "ytbfpdahbmdaenaa", sum := "6fbf92834ad9f68d1fc67500c61d89f60c6d98ac877f29dbfca881af88c5c869", func := "tidemark/tidemarklaw17.QuorumMost", spec := "quorumMost", recurses := true, apart := false, narrowed := true }
def QuorumMostUptoSaid : Prop := quorumMostUptoRow.holds Try.pinned (OpenSpec.upto quorumMostSpec)

/-- 'tidemarklaw17.QuorumChecks', WHERE WHAT IT READS IS OF BULK AT MOST 1048576: true; the input reads as it did. -/
def quorumChecksUptoRow : OpenClaim := { program := "ytbfpdahbmdaenaa", sum := "6fbf92834ad9f68d1fc67500c61d89f60c6d98ac877f29dbfca881af88c5c869", func := "tidemark/tidemarklaw17.QuorumChecks", spec := "quorumChecks", unfollowed := true, recurses := true, apart := false, narrowed := true }
def QuorumChecksUptoSaid : Prop := quorumChecksUptoRow.holds Try.pinned (OpenSpec.upto quorumChecksSpec)

/-- 'tidemarklaw17.QuorumMays', WHERE WHAT IT READS IS OF BULK AT MOST 1048576: true; the input reads as it did. -/
def quorumMaysUptoRow : OpenClaim := { program := "ytbfpdahbmdaenaa", sum := "6fbf92834ad9f68d1fc67500c61d89f60c6d98ac877f29dbfca881af88c5c869", func := "tidemark/tidemarklaw17.QuorumMays", spec := "quorumMays", unfollowed := true, recurses := true, apart := false, narrowed := true }
def QuorumMaysUptoSaid : Prop := quorumMaysUptoRow.holds Try.pinned (OpenSpec.upto quorumMaysSpec)

/-- 'tidemarklaw17.QuorumCounts', WHERE WHAT IT READS IS OF BULK AT MOST 1048576: true; the input reads as it did. -/
def quorumCountsUptoRow : OpenClaim := { program := "ytbfpdahbmdaenaa", sum := "6fbf92834ad9f68d1fc67500c61d89f60c6d98ac877f29dbfca881af88c5c869", func := "tidemark/tidemarklaw17.QuorumCounts", spec := "quorumCounts", unfollowed := true, recurses := true, apart := false, narrowed := true }
def QuorumCountsUptoSaid : Prop := quorumCountsUptoRow.holds Try.pinned (OpenSpec.upto quorumCountsSpec)

/-- 'tidemarklaw17.QuorumAgrees', WHERE WHAT IT READS IS OF BULK AT MOST 1048576: true; the input reads as it did. -/
def quorumAgreesUptoRow : OpenClaim := { program := "ytbfpdahbmdaenaa", sum := "6fbf92834ad9f68d1fc67500c61d89f60c6d98ac877f29dbfca881af88c5c869", func := "tidemark/tidemarklaw17.QuorumAgrees", spec := "quorumAgrees", unfollowed := true, recurses := true, apart := false, narrowed := true }
def QuorumAgreesUptoSaid : Prop := quorumAgreesUptoRow.holds Try.pinned (OpenSpec.upto quorumAgreesSpec)

/-- 'tidemarklaw17.QuorumOne', WHERE WHAT IT READS IS OF BULK AT MOST 1048576: true; the input reads as it did. -/
def quorumOneUptoRow : OpenClaim := { program := "ytbfpdahbmdaenaa", sum := "6fbf92834ad9f68d1fc67500c61d89f60c6d98ac877f29dbfca881af88c5c869", func := "tidemark/tidemarklaw17.QuorumOne", spec := "quorumOne", unfollowed := true, recurses := true, apart := false, narrowed := true }
def QuorumOneUptoSaid : Prop := quorumOneUptoRow.holds Try.pinned (OpenSpec.upto quorumOneSpec)

/-- 'tidemarklaw17.QuorumOverlap', WHERE WHAT IT READS IS OF BULK AT MOST 1048576: true; the input reads as it did. -/
def quorumOverlapUptoRow : OpenClaim := { program := "ytbfpdahbmdaenaa", sum := "6fbf92834ad9f68d1fc67500c61d89f60c6d98ac877f29dbfca881af88c5c869", func := "tidemark/tidemarklaw17.QuorumOverlap", spec := "quorumOverlap", unfollowed := true, recurses := true, apart := false, narrowed := true }
def QuorumOverlapUptoSaid : Prop := quorumOverlapUptoRow.holds Try.pinned (OpenSpec.upto quorumOverlapSpec)

/-- 'tidemarklaw17.QuorumAll', WHERE WHAT IT READS IS OF BULK AT MOST 1048576: true; the input reads as it did. -/
def quorumAllUptoRow : OpenClaim := { program := "ytbfpdahbmdaenaa", sum := "6fbf92834ad9f68d1fc67500c61d89f60c6d98ac877f29dbfca881af88c5c869", func := "tidemark/tidemarklaw17.QuorumAll", spec := "quorumAll", unfollowed := true, recurses := true, apart := false, narrowed := true }
def QuorumAllUptoSaid : Prop := quorumAllUptoRow.holds Try.pinned (OpenSpec.upto quorumAllSpec)

/-- 'tidemarklaw17.QuorumAsks', WHERE WHAT IT READS IS OF BULK AT MOST 1048576: true; the input reads as it did. -/
def quorumAsksUptoRow : OpenClaim := { program := "ytbfpdahbmdaenaa", sum := "6fbf92834ad9f68d1fc67500c61d89f60c6d98ac877f29dbfca881af88c5c869", func := "tidemark/tidemarklaw17.QuorumAsks", spec := "quorumAsks", unfollowed := true, recurses := true, apart := false, narrowed := true }
def QuorumAsksUptoSaid : Prop := quorumAsksUptoRow.holds Try.pinned (OpenSpec.upto quorumAsksSpec)

/-- 'tidemarklaw17.QuorumWays', WHERE WHAT IT READS IS OF BULK AT MOST 1048576: true; the input reads as it did. -/
def quorumWaysUptoRow : OpenClaim := { program := "ytbfpdahbmdaenaa", sum := "6fbf92834ad9f68d1fc67500c61d89f60c6d98ac877f29dbfca881af88c5c869", func := "tidemark/tidemarklaw17.QuorumWays", spec := "quorumWays", unfollowed := true, recurses := true, apart := false, narrowed := true }
def QuorumWaysUptoSaid : Prop := quorumWaysUptoRow.holds Try.pinned (OpenSpec.upto quorumWaysSpec)

end Rows
end Go.Proofs.Ytbfpdahbmdaenaa
