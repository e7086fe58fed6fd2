/-
  No cell of these rows narrows 'for every input' (looked for: loops, veiled, ifaces, maps, wideKeys, modest, calm, conditions, laid).
  DERIVED. THE GIVEN ROWS OF THIS SEAT. 13 by the template 'for every input the law returns true; each argument reads behind the call as it read before'; 0 by the template 'total and deterministic' (their statements: YteagecoiijhflaaTotals.lean).
  GIVEN WITH THE SEED: the statements are not yours to turn. If you find one false, say at which input.
  Laid BY PROGRAM, IN A SANDBOX (cutbox-rows.mjs): the forced cells as the released guide's own fill.sh prints them over the translation 57d57383b1cbe2e1… (all of the seat's roots in one cut). By AI agents, Wed Nov 11 2026. No macro, syntax, notation, axiom, sorry.
-/
import Derived.Test.YteagecoiijhflaaChecked
import GoSem.Claim
import GoSem.ClaimJoined
import GoSem.ClaimMapViews
import Derived.JoinedTies
import Derived.KernelRfl
namespace Go.Proofs.Yteagecoiijhflaa
/- THE CELL 'sum', in the pinned program and in every row, IS THE sha256 OF THE DUMP (.gsa) THAT YteagecoiijhflaaProg.lean LOADS. Nothing in Lean hashes anything: it is a label: what it is worth is what the hold of that sum in a sandbox is worth. -/
noncomputable def Try.pinned : Pinned := { name := "yteagecoiijhflaa", sum := "57d57383b1cbe2e1b5b238e39d67d2f0bdea6850e72b9d42c4611cccf0bced7a", checked := Try.checked }
namespace Rows
def none {H : Type} : Left H := { results := [], args := [] }

/-- 'laws.FnExactReturnOf': WHATEVER THE INPUT: true; the input reads as it did. -/
def fnExactReturnOfSpec : ChangeSpec := { name := "fnExactReturnOf", fn := fun _ => fun
  | [d1, d2, d3] => { results := [.lit (.bool true)], args := [d1, d2, d3] }
  | _ => none }
def fnExactReturnOfRow : OpenClaim := { program := "yteagecoiijhflaa", sum := "57d57383b1cbe2e1b5b238e39d67d2f0bdea6850e72b9d42c4611cccf0bced7a", func := "loop.example/g01244/laws.FnExactReturnOf", spec := "fnExactReturnOf", unfollowed := true, recurses := true, apart := false }
def FnExactReturnOfSaid : Prop := fnExactReturnOfRow.holds Try.pinned (OpenSpec.ofChange fnExactReturnOfSpec)

/-- ITS FALSE NEIGHBOUR: 'it returns false'. Refute it at one input. -/
def fnExactReturnOfWrong : ChangeSpec := { name := "fnExactReturnOf", fn := fun _ => fun
  | [d1, d2, d3] => { results := [.lit (.bool false)], args := [d1, d2, d3] }
  | _ => none }
def FnExactReturnOfWrongFalsely : Prop := fnExactReturnOfRow.holds Try.pinned (OpenSpec.ofChange fnExactReturnOfWrong)

/-- 'laws.FnExactDoRelationsHold': WHATEVER THE INPUT: true; the input reads as it did. -/
def fnExactDoRelationsHoldSpec : ChangeSpec := { name := "fnExactDoRelationsHold", fn := fun _ => fun
  | [d1, d2] => { results := [.lit (.bool true)], args := [d1, d2] }
  | _ => none }
def fnExactDoRelationsHoldRow : OpenClaim := { program := "yteagecoiijhflaa", sum := "57d57383b1cbe2e1b5b238e39d67d2f0bdea6850e72b9d42c4611cccf0bced7a", func := "loop.example/g01244/laws.FnExactDoRelationsHold", spec := "fnExactDoRelationsHold", unfollowed := true, recurses := true, apart := false }
def FnExactDoRelationsHoldSaid : Prop := fnExactDoRelationsHoldRow.holds Try.pinned (OpenSpec.ofChange fnExactDoRelationsHoldSpec)

/-- ITS FALSE NEIGHBOUR: 'it returns false'. Refute it at one input. -/
def fnExactDoRelationsHoldWrong : ChangeSpec := { name := "fnExactDoRelationsHold", fn := fun _ => fun
  | [d1, d2] => { results := [.lit (.bool false)], args := [d1, d2] }
  | _ => none }
def FnExactDoRelationsHoldWrongFalsely : Prop := fnExactDoRelationsHoldRow.holds Try.pinned (OpenSpec.ofChange fnExactDoRelationsHoldWrong)

/-- 'laws.FnExactGeneratorsOf': WHATEVER THE INPUT: true; the input reads as it did. -/
def fnExactGeneratorsOfSpec : ChangeSpec := { name := "fnExactGeneratorsOf", fn := fun _ => fun
  | [d] => { results := [.lit (.bool true)], args := [d] }
  | _ => none }
def fnExactGeneratorsOfRow : OpenClaim := { program := "yteagecoiijhflaa", sum := "57d57383b1cbe2e1b5b238e39d67d2f0bdea6850e72b9d42c4611cccf0bced7a", func := "loop.example/g01244/laws.FnExactGeneratorsOf", spec := "fnExactGeneratorsOf", unfollowed := true, recurses := true, apart := false }
def FnExactGeneratorsOfSaid : Prop := fnExactGeneratorsOfRow.holds Try.pinned (OpenSpec.ofChange fnExactGeneratorsOfSpec)

/-- ITS FALSE NEIGHBOUR: 'it returns false'. Refute it at one input. -/
def fnExactGeneratorsOfWrong : ChangeSpec := { name := "fnExactGeneratorsOf", fn := fun _ => fun
  | [d] => { results := [.lit (.bool false)], args := [d] }
  | _ => none }
def FnExactGeneratorsOfWrongFalsely : Prop := fnExactGeneratorsOfRow.holds Try.pinned (OpenSpec.ofChange fnExactGeneratorsOfWrong)

/-- 'laws.FnExactOrdersOfStates': WHATEVER THE INPUT: true; the input reads as it did. -/
def fnExactOrdersOfStatesSpec : ChangeSpec := { name := "fnExactOrdersOfStates", fn := fun _ => fun
  | [d] => { results := [.lit (.bool true)], args := [d] }
  | _ => none }
def fnExactOrdersOfStatesRow : OpenClaim := { program := "yteagecoiijhflaa", sum := "57d57383b1cbe2e1b5b238e39d67d2f0bdea6850e72b9d42c4611cccf0bced7a", func := "loop.example/g01244/laws.FnExactOrdersOfStates", spec := "fnExactOrdersOfStates", unfollowed := true, recurses := true, apart := false }
def FnExactOrdersOfStatesSaid : Prop := fnExactOrdersOfStatesRow.holds Try.pinned (OpenSpec.ofChange fnExactOrdersOfStatesSpec)

/-- ITS FALSE NEIGHBOUR: 'it returns false'. Refute it at one input. -/
def fnExactOrdersOfStatesWrong : ChangeSpec := { name := "fnExactOrdersOfStates", fn := fun _ => fun
  | [d] => { results := [.lit (.bool false)], args := [d] }
  | _ => none }
def FnExactOrdersOfStatesWrongFalsely : Prop := fnExactOrdersOfStatesRow.holds Try.pinned (OpenSpec.ofChange fnExactOrdersOfStatesWrong)

/-- 'laws.FnExactOrderOf': WHATEVER THE INPUT: true; the input reads as it did. -/
def fnExactOrderOfSpec : ChangeSpec := { name := "fnExactOrderOf", fn := fun _ => fun
  | [d1, d2] => { results := [.lit (.bool true)], args := [d1, d2] }
  | _ => none }
def fnExactOrderOfRow : OpenClaim := { program := "yteagecoiijhflaa", sum := "57d57383b1cbe2e1b5b238e39d67d2f0bdea6850e72b9d42c4611cccf0bced7a", func := "loop.example/g01244/laws.FnExactOrderOf", spec := "fnExactOrderOf", unfollowed := true, recurses := true, apart := false }
def FnExactOrderOfSaid : Prop := fnExactOrderOfRow.holds Try.pinned (OpenSpec.ofChange fnExactOrderOfSpec)

/-- ITS FALSE NEIGHBOUR: 'it returns false'. Refute it at one input. -/
def fnExactOrderOfWrong : ChangeSpec := { name := "fnExactOrderOf", fn := fun _ => fun
  | [d1, d2] => { results := [.lit (.bool false)], args := [d1, d2] }
  | _ => none }
def FnExactOrderOfWrongFalsely : Prop := fnExactOrderOfRow.holds Try.pinned (OpenSpec.ofChange fnExactOrderOfWrong)

/-- 'laws.FnExactTorsionUpTo': WHATEVER THE INPUT: true; the input reads as it did. -/
def fnExactTorsionUpToSpec : ChangeSpec := { name := "fnExactTorsionUpTo", fn := fun _ => fun
  | [d1, d2] => { results := [.lit (.bool true)], args := [d1, d2] }
  | _ => none }
def fnExactTorsionUpToRow : OpenClaim := { program := "yteagecoiijhflaa", sum := "57d57383b1cbe2e1b5b238e39d67d2f0bdea6850e72b9d42c4611cccf0bced7a", func := "loop.example/g01244/laws.FnExactTorsionUpTo", spec := "fnExactTorsionUpTo", unfollowed := true, recurses := true, apart := false }
def FnExactTorsionUpToSaid : Prop := fnExactTorsionUpToRow.holds Try.pinned (OpenSpec.ofChange fnExactTorsionUpToSpec)

/-- ITS FALSE NEIGHBOUR: 'it returns false'. Refute it at one input. -/
def fnExactTorsionUpToWrong : ChangeSpec := { name := "fnExactTorsionUpTo", fn := fun _ => fun
  | [d1, d2] => { results := [.lit (.bool false)], args := [d1, d2] }
  | _ => none }
def FnExactTorsionUpToWrongFalsely : Prop := fnExactTorsionUpToRow.holds Try.pinned (OpenSpec.ofChange fnExactTorsionUpToWrong)

/-- 'laws.FnExactRelationsOf': WHATEVER THE INPUT: true; the input reads as it did. -/
def fnExactRelationsOfSpec : ChangeSpec := { name := "fnExactRelationsOf", fn := fun _ => fun
  | [d1, d2] => { results := [.lit (.bool true)], args := [d1, d2] }
  | _ => none }
def fnExactRelationsOfRow : OpenClaim := { program := "yteagecoiijhflaa", sum := "57d57383b1cbe2e1b5b238e39d67d2f0bdea6850e72b9d42c4611cccf0bced7a", func := "loop.example/g01244/laws.FnExactRelationsOf", spec := "fnExactRelationsOf", unfollowed := true, recurses := true, apart := false }
def FnExactRelationsOfSaid : Prop := fnExactRelationsOfRow.holds Try.pinned (OpenSpec.ofChange fnExactRelationsOfSpec)

/-- ITS FALSE NEIGHBOUR: 'it returns false'. Refute it at one input. -/
def fnExactRelationsOfWrong : ChangeSpec := { name := "fnExactRelationsOf", fn := fun _ => fun
  | [d1, d2] => { results := [.lit (.bool false)], args := [d1, d2] }
  | _ => none }
def FnExactRelationsOfWrongFalsely : Prop := fnExactRelationsOfRow.holds Try.pinned (OpenSpec.ofChange fnExactRelationsOfWrong)

/-- 'laws.FnExactInfiniteProof': WHATEVER THE INPUT: true; the input reads as it did. -/
def fnExactInfiniteProofSpec : ChangeSpec := { name := "fnExactInfiniteProof", fn := fun _ => fun
  | [d1, d2] => { results := [.lit (.bool true)], args := [d1, d2] }
  | _ => none }
def fnExactInfiniteProofRow : OpenClaim := { program := "yteagecoiijhflaa", sum := "57d57383b1cbe2e1b5b238e39d67d2f0bdea6850e72b9d42c4611cccf0bced7a", func := "loop.example/g01244/laws.FnExactInfiniteProof", spec := "fnExactInfiniteProof", unfollowed := true, recurses := true, apart := false }
def FnExactInfiniteProofSaid : Prop := fnExactInfiniteProofRow.holds Try.pinned (OpenSpec.ofChange fnExactInfiniteProofSpec)

/-- ITS FALSE NEIGHBOUR: 'it returns false'. Refute it at one input. -/
def fnExactInfiniteProofWrong : ChangeSpec := { name := "fnExactInfiniteProof", fn := fun _ => fun
  | [d1, d2] => { results := [.lit (.bool false)], args := [d1, d2] }
  | _ => none }
def FnExactInfiniteProofWrongFalsely : Prop := fnExactInfiniteProofRow.holds Try.pinned (OpenSpec.ofChange fnExactInfiniteProofWrong)

/-- 'laws.FnExactSphereSizes': WHATEVER THE INPUT: true; the input reads as it did. -/
def fnExactSphereSizesSpec : ChangeSpec := { name := "fnExactSphereSizes", fn := fun _ => fun
  | [d1, d2] => { results := [.lit (.bool true)], args := [d1, d2] }
  | _ => none }
def fnExactSphereSizesRow : OpenClaim := { program := "yteagecoiijhflaa", sum := "57d57383b1cbe2e1b5b238e39d67d2f0bdea6850e72b9d42c4611cccf0bced7a", func := "loop.example/g01244/laws.FnExactSphereSizes", spec := "fnExactSphereSizes", unfollowed := true, recurses := true, apart := false }
def FnExactSphereSizesSaid : Prop := fnExactSphereSizesRow.holds Try.pinned (OpenSpec.ofChange fnExactSphereSizesSpec)

/-- ITS FALSE NEIGHBOUR: 'it returns false'. Refute it at one input. -/
def fnExactSphereSizesWrong : ChangeSpec := { name := "fnExactSphereSizes", fn := fun _ => fun
  | [d1, d2] => { results := [.lit (.bool false)], args := [d1, d2] }
  | _ => none }
def FnExactSphereSizesWrongFalsely : Prop := fnExactSphereSizesRow.holds Try.pinned (OpenSpec.ofChange fnExactSphereSizesWrong)

/-- 'laws.FnExactBallOf': WHATEVER THE INPUT: true; the input reads as it did. -/
def fnExactBallOfSpec : ChangeSpec := { name := "fnExactBallOf", fn := fun _ => fun
  | [d1, d2] => { results := [.lit (.bool true)], args := [d1, d2] }
  | _ => none }
def fnExactBallOfRow : OpenClaim := { program := "yteagecoiijhflaa", sum := "57d57383b1cbe2e1b5b238e39d67d2f0bdea6850e72b9d42c4611cccf0bced7a", func := "loop.example/g01244/laws.FnExactBallOf", spec := "fnExactBallOf", unfollowed := true, recurses := true, apart := false }
def FnExactBallOfSaid : Prop := fnExactBallOfRow.holds Try.pinned (OpenSpec.ofChange fnExactBallOfSpec)

/-- ITS FALSE NEIGHBOUR: 'it returns false'. Refute it at one input. -/
def fnExactBallOfWrong : ChangeSpec := { name := "fnExactBallOf", fn := fun _ => fun
  | [d1, d2] => { results := [.lit (.bool false)], args := [d1, d2] }
  | _ => none }
def FnExactBallOfWrongFalsely : Prop := fnExactBallOfRow.holds Try.pinned (OpenSpec.ofChange fnExactBallOfWrong)

/-- 'laws.FnExactLengthOfWord': WHATEVER THE INPUT: true; the input reads as it did. -/
def fnExactLengthOfWordSpec : ChangeSpec := { name := "fnExactLengthOfWord", fn := fun _ => fun
  | [d1, d2, d3] => { results := [.lit (.bool true)], args := [d1, d2, d3] }
  | _ => none }
def fnExactLengthOfWordRow : OpenClaim := { program := "yteagecoiijhflaa", sum := "57d57383b1cbe2e1b5b238e39d67d2f0bdea6850e72b9d42c4611cccf0bced7a", func := "loop.example/g01244/laws.FnExactLengthOfWord", spec := "fnExactLengthOfWord", unfollowed := true, recurses := true, apart := false }
def FnExactLengthOfWordSaid : Prop := fnExactLengthOfWordRow.holds Try.pinned (OpenSpec.ofChange fnExactLengthOfWordSpec)

/-- ITS FALSE NEIGHBOUR: 'it returns false'. Refute it at one input. -/
def fnExactLengthOfWordWrong : ChangeSpec := { name := "fnExactLengthOfWord", fn := fun _ => fun
  | [d1, d2, d3] => { results := [.lit (.bool false)], args := [d1, d2, d3] }
  | _ => none }
def FnExactLengthOfWordWrongFalsely : Prop := fnExactLengthOfWordRow.holds Try.pinned (OpenSpec.ofChange fnExactLengthOfWordWrong)

/-- 'laws.FnExactShortestWord': WHATEVER THE INPUT: true; the input reads as it did. -/
def fnExactShortestWordSpec : ChangeSpec := { name := "fnExactShortestWord", fn := fun _ => fun
  | [d1, d2, d3] => { results := [.lit (.bool true)], args := [d1, d2, d3] }
  | _ => none }
def fnExactShortestWordRow : OpenClaim := { program := "yteagecoiijhflaa", sum := "57d57383b1cbe2e1b5b238e39d67d2f0bdea6850e72b9d42c4611cccf0bced7a", func := "loop.example/g01244/laws.FnExactShortestWord", spec := "fnExactShortestWord", unfollowed := true, recurses := true, apart := false }
def FnExactShortestWordSaid : Prop := fnExactShortestWordRow.holds Try.pinned (OpenSpec.ofChange fnExactShortestWordSpec)

/-- ITS FALSE NEIGHBOUR: 'it returns false'. Refute it at one input. -/
def fnExactShortestWordWrong : ChangeSpec := { name := "fnExactShortestWord", fn := fun _ => fun
  | [d1, d2, d3] => { results := [.lit (.bool false)], args := [d1, d2, d3] }
  | _ => none }
def FnExactShortestWordWrongFalsely : Prop := fnExactShortestWordRow.holds Try.pinned (OpenSpec.ofChange fnExactShortestWordWrong)

/-- 'laws.FnExactCentralInBall': WHATEVER THE INPUT: true; the input reads as it did. -/
def fnExactCentralInBallSpec : ChangeSpec := { name := "fnExactCentralInBall", fn := fun _ => fun
  | [d1, d2] => { results := [.lit (.bool true)], args := [d1, d2] }
  | _ => none }
def fnExactCentralInBallRow : OpenClaim := { program := "yteagecoiijhflaa", sum := "57d57383b1cbe2e1b5b238e39d67d2f0bdea6850e72b9d42c4611cccf0bced7a", func := "loop.example/g01244/laws.FnExactCentralInBall", spec := "fnExactCentralInBall", unfollowed := true, recurses := true, apart := false }
def FnExactCentralInBallSaid : Prop := fnExactCentralInBallRow.holds Try.pinned (OpenSpec.ofChange fnExactCentralInBallSpec)

/-- ITS FALSE NEIGHBOUR: 'it returns false'. Refute it at one input. -/
def fnExactCentralInBallWrong : ChangeSpec := { name := "fnExactCentralInBall", fn := fun _ => fun
  | [d1, d2] => { results := [.lit (.bool false)], args := [d1, d2] }
  | _ => none }
def FnExactCentralInBallWrongFalsely : Prop := fnExactCentralInBallRow.holds Try.pinned (OpenSpec.ofChange fnExactCentralInBallWrong)

/- THE SECOND FORM. 'bulk': how many values and letters a reading holds, each counted each time it is reached (what is shared counts as often as it is met; a slice's spare places count too). A statement '..UptoSaid' is the law's where the arguments, and the package variables that the reading takes, are together of bulk at most 1048576: NARROWER than '..Said'. Prove '..Said' where nothing that the law and all that it calls make is longer than what came in: it says more and counts as full. Else prove '..UptoSaid'. A law counts once. -/
mutual
def uptoBulk {H : Type} : DataW H → Nat
  | .lit (.string bytes) => bytes.length + 1
  | .lit _ => 1
  | .nil => 1
  | .ptr d => uptoBulk d + 1
  | .slice elems spare => uptoBulkAll elems + uptoBulkAll spare + 1
  | .agg parts => uptoBulkAll parts + 1
  | .iface _ d => uptoBulk d + 1
  | .map entries => uptoBulkEntries entries + 1
  | .held _ => 1
def uptoBulkAll {H : Type} : List (DataW H) → Nat
  | [] => 0
  | d :: r => uptoBulk d + uptoBulkAll r
def uptoBulkEntries {H : Type} : List (Lit × DataW H) → Nat
  | [] => 0
  | x :: r => uptoBulkEntry x + uptoBulkEntries r
def uptoBulkEntry {H : Type} : Lit × DataW H → Nat
  | (.string bytes, d) => bytes.length + uptoBulk d + 1
  | (_, d) => uptoBulk d + 1
 end
def uptoSmall : (H : Type) → List (DataW H) → Bool := fun _ ds => decide (uptoBulkAll ds ≤ 1048576)
def OpenSpec.upto (s : _root_.Go.ChangeSpec) : _root_.Go.OpenSpec := { _root_.Go.OpenSpec.ofChange s with cond := some uptoSmall }

/-- 'laws.FnExactReturnOf', WHERE WHAT IT READS IS OF BULK AT MOST 1048576: true; the input reads as it did. -/
def fnExactReturnOfUptoRow : OpenClaim := { program := "yteagecoiijhflaa", sum := "57d57383b1cbe2e1b5b238e39d67d2f0bdea6850e72b9d42c4611cccf0bced7a", func := "loop.example/g01244/laws.FnExactReturnOf", spec := "fnExactReturnOf", unfollowed := true, recurses := true, apart := false, narrowed := true }
def FnExactReturnOfUptoSaid : Prop := fnExactReturnOfUptoRow.holds Try.pinned (OpenSpec.upto fnExactReturnOfSpec)

/-- 'laws.FnExactDoRelationsHold', WHERE WHAT IT READS IS OF BULK AT MOST 1048576: true; the input reads as it did. -/
def fnExactDoRelationsHoldUptoRow : OpenClaim := { program := "yteagecoiijhflaa", sum := "57d57383b1cbe2e1b5b238e39d67d2f0bdea6850e72b9d42c4611cccf0bced7a", func := "loop.example/g01244/laws.FnExactDoRelationsHold", spec := "fnExactDoRelationsHold", unfollowed := true, recurses := true, apart := false, narrowed := true }
def FnExactDoRelationsHoldUptoSaid : Prop := fnExactDoRelationsHoldUptoRow.holds Try.pinned (OpenSpec.upto fnExactDoRelationsHoldSpec)

/-- 'laws.FnExactGeneratorsOf', WHERE WHAT IT READS IS OF BULK AT MOST 1048576: true; the input reads as it did. -/
def fnExactGeneratorsOfUptoRow : OpenClaim := { program := "yteagecoiijhflaa", sum := "57d57383b1cbe2e1b5b238e39d67d2f0bdea6850e72b9d42c4611cccf0bced7a", func := "loop.example/g01244/laws.FnExactGeneratorsOf", spec := "fnExactGeneratorsOf", unfollowed := true, recurses := true, apart := false, narrowed := true }
def FnExactGeneratorsOfUptoSaid : Prop := fnExactGeneratorsOfUptoRow.holds Try.pinned (OpenSpec.upto fnExactGeneratorsOfSpec)

/-- 'laws.FnExactOrdersOfStates', WHERE WHAT IT READS IS OF BULK AT MOST 1048576: true; the input reads as it did. -/
def fnExactOrdersOfStatesUptoRow : OpenClaim := { program := "yteagecoiijhflaa", sum := "57d57383b1cbe2e1b5b238e39d67d2f0bdea6850e72b9d42c4611cccf0bced7a", func := "loop.example/g01244/laws.FnExactOrdersOfStates", spec := "fnExactOrdersOfStates", unfollowed := true, recurses := true, apart := false, narrowed := true }
def FnExactOrdersOfStatesUptoSaid : Prop := fnExactOrdersOfStatesUptoRow.holds Try.pinned (OpenSpec.upto fnExactOrdersOfStatesSpec)

/-- 'laws.FnExactOrderOf', WHERE WHAT IT READS IS OF BULK AT MOST 1048576: true; the input reads as it did. -/
def fnExactOrderOfUptoRow : OpenClaim := { program := "yteagecoiijhflaa", sum := "57d57383b1cbe2e1b5b238e39d67d2f0bdea6850e72b9d42c4611cccf0bced7a", func := "loop.example/g01244/laws.FnExactOrderOf", spec := "fnExactOrderOf", unfollowed := true, recurses := true, apart := false, narrowed := true }
def FnExactOrderOfUptoSaid : Prop := fnExactOrderOfUptoRow.holds Try.pinned (OpenSpec.upto fnExactOrderOfSpec)

/-- 'laws.FnExactTorsionUpTo', WHERE WHAT IT READS IS OF BULK AT MOST 1048576: true; the input reads as it did. -/
def fnExactTorsionUpToUptoRow : OpenClaim := { program := "yteagecoiijhflaa", sum := "57d57383b1cbe2e1b5b238e39d67d2f0bdea6850e72b9d42c4611cccf0bced7a", func := "loop.example/g01244/laws.FnExactTorsionUpTo", spec := "fnExactTorsionUpTo", unfollowed := true, recurses := true, apart := false, narrowed := true }
def FnExactTorsionUpToUptoSaid : Prop := fnExactTorsionUpToUptoRow.holds Try.pinned (OpenSpec.upto fnExactTorsionUpToSpec)

/-- 'laws.FnExactRelationsOf', WHERE WHAT IT READS IS OF BULK AT MOST 1048576: true; the input reads as it did. -/
def fnExactRelationsOfUptoRow : OpenClaim := { program := "yteagecoiijhflaa", sum := "57d57383b1cbe2e1b5b238e39d67d2f0bdea6850e72b9d42c4611cccf0bced7a", func := "loop.example/g01244/laws.FnExactRelationsOf", spec := "fnExactRelationsOf", unfollowed := true, recurses := true, apart := false, narrowed := true }
def FnExactRelationsOfUptoSaid : Prop := fnExactRelationsOfUptoRow.holds Try.pinned (OpenSpec.upto fnExactRelationsOfSpec)

/-- 'laws.FnExactInfiniteProof', WHERE WHAT IT READS IS OF BULK AT MOST 1048576: true; the input reads as it did. -/
def fnExactInfiniteProofUptoRow : OpenClaim := { program := "yteagecoiijhflaa", sum := "57d57383b1cbe2e1b5b238e39d67d2f0bdea6850e72b9d42c4611cccf0bced7a", func := "loop.example/g01244/laws.FnExactInfiniteProof", spec := "fnExactInfiniteProof", unfollowed := true, recurses := true, apart := false, narrowed := true }
def FnExactInfiniteProofUptoSaid : Prop := fnExactInfiniteProofUptoRow.holds Try.pinned (OpenSpec.upto fnExactInfiniteProofSpec)

/-- 'laws.FnExactSphereSizes', WHERE WHAT IT READS IS OF BULK AT MOST 1048576: true; the input reads as it did. -/
def fnExactSphereSizesUptoRow : OpenClaim := { program := "yteagecoiijhflaa", sum := "57d57383b1cbe2e1b5b238e39d67d2f0bdea6850e72b9d42c4611cccf0bced7a", func := "loop.example/g01244/laws.FnExactSphereSizes", spec := "fnExactSphereSizes", unfollowed := true, recurses := true, apart := false, narrowed := true }
def FnExactSphereSizesUptoSaid : Prop := fnExactSphereSizesUptoRow.holds Try.pinned (OpenSpec.upto fnExactSphereSizesSpec)

/-- 'laws.FnExactBallOf', WHERE WHAT IT READS IS OF BULK AT MOST 1048576: true; the input reads as it did. -/
def fnExactBallOfUptoRow : OpenClaim := { program := "yteagecoiijhflaa", sum := "57d57383b1cbe2e1b5b238e39d67d2f0bdea6850e72b9d42c4611cccf0bced7a", func := "loop.example/g01244/laws.FnExactBallOf", spec := "fnExactBallOf", unfollowed := true, recurses := true, apart := false, narrowed := true }
def FnExactBallOfUptoSaid : Prop := fnExactBallOfUptoRow.holds Try.pinned (OpenSpec.upto fnExactBallOfSpec)

/-- 'laws.FnExactLengthOfWord', WHERE WHAT IT READS IS OF BULK AT MOST 1048576: true; the input reads as it did. -/
def fnExactLengthOfWordUptoRow : OpenClaim := { program := "yteagecoiijhflaa", sum := "57d57383b1cbe2e1b5b238e39d67d2f0bdea6850e72b9d42c4611cccf0bced7a", func := "loop.example/g01244/laws.FnExactLengthOfWord", spec := "fnExactLengthOfWord", unfollowed := true, recurses := true, apart := false, narrowed := true }
def FnExactLengthOfWordUptoSaid : Prop := fnExactLengthOfWordUptoRow.holds Try.pinned (OpenSpec.upto fnExactLengthOfWordSpec)

/-- 'laws.FnExactShortestWord', WHERE WHAT IT READS IS OF BULK AT MOST 1048576: true; the input reads as it did. -/
def fnExactShortestWordUptoRow : OpenClaim := { program := "yteagecoiijhflaa", sum := "57d57383b1cbe2e1b5b238e39d67d2f0bdea6850e72b9d42c4611cccf0bced7a", func := "loop.example/g01244/laws.FnExactShortestWord", spec := "fnExactShortestWord", unfollowed := true, recurses := true, apart := false, narrowed := true }
def FnExactShortestWordUptoSaid : Prop := fnExactShortestWordUptoRow.holds Try.pinned (OpenSpec.upto fnExactShortestWordSpec)

/-- 'laws.FnExactCentralInBall', WHERE WHAT IT READS IS OF BULK AT MOST 1048576: true; the input reads as it did. -/
def fnExactCentralInBallUptoRow : OpenClaim := { program := "yteagecoiijhflaa", sum := "57d57383b1cbe2e1b5b238e39d67d2f0bdea6850e72b9d42c4611cccf0bced7a", func := "loop.example/g01244/laws.FnExactCentralInBall", spec := "fnExactCentralInBall", unfollowed := true, recurses := true, apart := false, narrowed := true }
def FnExactCentralInBallUptoSaid : Prop := fnExactCentralInBallUptoRow.holds Try.pinned (OpenSpec.upto fnExactCentralInBallSpec)

end Rows
end Go.Proofs.Yteagecoiijhflaa
