/-
  No cell of these rows narrows 'for every input' (looked for: loops, veiled, ifaces, maps, wideKeys, modest, calm, conditions, laid).
  DERIVED. THE GIVEN ROWS OF THIS SEAT. 12 by the template 'for every input the law returns true; each argument reads behind the call as it read before'; 0 by the template 'total and deterministic' (their statements: YtmacnofkpdikiaaTotals.lean).
  GIVEN WITH THE SEED: the statements are not yours to turn. If you find one false, say at which input.
  Laid BY PROGRAM, IN A SANDBOX (cutbox-rows.mjs): the forced cells as the released guide's own fill.sh prints them over the translation c55d09d12ec1c73f… (all of the seat's roots in one cut). By AI agents, Wed Nov 11 2026. No macro, syntax, notation, axiom, sorry.
-/
import Derived.Test.YtmacnofkpdikiaaChecked
import GoSem.Claim
import GoSem.ClaimJoined
import GoSem.ClaimMapViews
import Derived.JoinedTies
import Derived.KernelRfl
namespace Go.Proofs.Ytmacnofkpdikiaa
/- THE CELL 'sum', in the pinned program and in every row, IS THE sha256 OF THE DUMP (.gsa) THAT YtmacnofkpdikiaaProg.lean LOADS. Nothing in Lean hashes anything: it is a label: what it is worth is what the hold of that sum in a sandbox is worth. -/
noncomputable def Try.pinned : Pinned := { name := "ytmacnofkpdikiaa", sum := "c55d09d12ec1c73f4d10b487b303576f18010f1ae63b7ba1f70cf70f8955ba7d", checked := Try.checked }
namespace Rows
def none {H : Type} : Left H := { results := [], args := [] }

/-- 'laws.FnExactMoveTower': WHATEVER THE INPUT: true; the input reads as it did. -/
def fnExactMoveTowerSpec : ChangeSpec := { name := "fnExactMoveTower", fn := fun _ => fun
  | [d1, d2, d3] => { results := [.lit (.bool true)], args := [d1, d2, d3] }
  | _ => none }
def fnExactMoveTowerRow : OpenClaim := { program := "ytmacnofkpdikiaa", sum := "c55d09d12ec1c73f4d10b487b303576f18010f1ae63b7ba1f70cf70f8955ba7d", func := "loop.example/g01244/laws.FnExactMoveTower", spec := "fnExactMoveTower", apart := false }
def FnExactMoveTowerSaid : Prop := fnExactMoveTowerRow.holds Try.pinned (OpenSpec.ofChange fnExactMoveTowerSpec)

/-- ITS FALSE NEIGHBOUR: 'it returns false'. Refute it at one input. -/
def fnExactMoveTowerWrong : ChangeSpec := { name := "fnExactMoveTower", fn := fun _ => fun
  | [d1, d2, d3] => { results := [.lit (.bool false)], args := [d1, d2, d3] }
  | _ => none }
def FnExactMoveTowerWrongFalsely : Prop := fnExactMoveTowerRow.holds Try.pinned (OpenSpec.ofChange fnExactMoveTowerWrong)

/-- 'laws.FnExactKnownRelations': WHATEVER THE INPUT: true; the input reads as it did. -/
def fnExactKnownRelationsSpec : ChangeSpec := { name := "fnExactKnownRelations", fn := fun _ => fun
  | [d] => { results := [.lit (.bool true)], args := [d] }
  | _ => none }
def fnExactKnownRelationsRow : OpenClaim := { program := "ytmacnofkpdikiaa", sum := "c55d09d12ec1c73f4d10b487b303576f18010f1ae63b7ba1f70cf70f8955ba7d", func := "loop.example/g01244/laws.FnExactKnownRelations", spec := "fnExactKnownRelations", unfollowed := true, recurses := true, apart := false }
def FnExactKnownRelationsSaid : Prop := fnExactKnownRelationsRow.holds Try.pinned (OpenSpec.ofChange fnExactKnownRelationsSpec)

/-- ITS FALSE NEIGHBOUR: 'it returns false'. Refute it at one input. -/
def fnExactKnownRelationsWrong : ChangeSpec := { name := "fnExactKnownRelations", fn := fun _ => fun
  | [d] => { results := [.lit (.bool false)], args := [d] }
  | _ => none }
def FnExactKnownRelationsWrongFalsely : Prop := fnExactKnownRelationsRow.holds Try.pinned (OpenSpec.ofChange fnExactKnownRelationsWrong)

/-- 'laws.FnExactTowerDistance': WHATEVER THE INPUT: true; the input reads as it did. -/
def fnExactTowerDistanceSpec : ChangeSpec := { name := "fnExactTowerDistance", fn := fun _ => fun
  | [d1, d2] => { results := [.lit (.bool true)], args := [d1, d2] }
  | _ => none }
def fnExactTowerDistanceRow : OpenClaim := { program := "ytmacnofkpdikiaa", sum := "c55d09d12ec1c73f4d10b487b303576f18010f1ae63b7ba1f70cf70f8955ba7d", func := "loop.example/g01244/laws.FnExactTowerDistance", spec := "fnExactTowerDistance", apart := false }
def FnExactTowerDistanceSaid : Prop := fnExactTowerDistanceRow.holds Try.pinned (OpenSpec.ofChange fnExactTowerDistanceSpec)

/-- ITS FALSE NEIGHBOUR: 'it returns false'. Refute it at one input. -/
def fnExactTowerDistanceWrong : ChangeSpec := { name := "fnExactTowerDistance", fn := fun _ => fun
  | [d1, d2] => { results := [.lit (.bool false)], args := [d1, d2] }
  | _ => none }
def FnExactTowerDistanceWrongFalsely : Prop := fnExactTowerDistanceRow.holds Try.pinned (OpenSpec.ofChange fnExactTowerDistanceWrong)

/-- 'laws.FnExactTowerPath': WHATEVER THE INPUT: true; the input reads as it did. -/
def fnExactTowerPathSpec : ChangeSpec := { name := "fnExactTowerPath", fn := fun _ => fun
  | [d1, d2] => { results := [.lit (.bool true)], args := [d1, d2] }
  | _ => none }
def fnExactTowerPathRow : OpenClaim := { program := "ytmacnofkpdikiaa", sum := "c55d09d12ec1c73f4d10b487b303576f18010f1ae63b7ba1f70cf70f8955ba7d", func := "loop.example/g01244/laws.FnExactTowerPath", spec := "fnExactTowerPath", apart := false }
def FnExactTowerPathSaid : Prop := fnExactTowerPathRow.holds Try.pinned (OpenSpec.ofChange fnExactTowerPathSpec)

/-- ITS FALSE NEIGHBOUR: 'it returns false'. Refute it at one input. -/
def fnExactTowerPathWrong : ChangeSpec := { name := "fnExactTowerPath", fn := fun _ => fun
  | [d1, d2] => { results := [.lit (.bool false)], args := [d1, d2] }
  | _ => none }
def FnExactTowerPathWrongFalsely : Prop := fnExactTowerPathRow.holds Try.pinned (OpenSpec.ofChange fnExactTowerPathWrong)

/-- 'laws.FnExactIsDesk': WHATEVER THE INPUT: true; the input reads as it did. -/
def fnExactIsDeskSpec : ChangeSpec := { name := "fnExactIsDesk", fn := fun _ => fun
  | [d] => { results := [.lit (.bool true)], args := [d] }
  | _ => none }
def fnExactIsDeskRow : OpenClaim := { program := "ytmacnofkpdikiaa", sum := "c55d09d12ec1c73f4d10b487b303576f18010f1ae63b7ba1f70cf70f8955ba7d", func := "loop.example/g01244/laws.FnExactIsDesk", spec := "fnExactIsDesk", unfollowed := true, recurses := true, apart := false }
def FnExactIsDeskSaid : Prop := fnExactIsDeskRow.holds Try.pinned (OpenSpec.ofChange fnExactIsDeskSpec)

/-- ITS FALSE NEIGHBOUR: 'it returns false'. Refute it at one input. -/
def fnExactIsDeskWrong : ChangeSpec := { name := "fnExactIsDesk", fn := fun _ => fun
  | [d] => { results := [.lit (.bool false)], args := [d] }
  | _ => none }
def FnExactIsDeskWrongFalsely : Prop := fnExactIsDeskRow.holds Try.pinned (OpenSpec.ofChange fnExactIsDeskWrong)

/-- 'laws.FnExactActiveAt': WHATEVER THE INPUT: true; the input reads as it did. -/
def fnExactActiveAtSpec : ChangeSpec := { name := "fnExactActiveAt", fn := fun _ => fun
  | [d1, d2, d3] => { results := [.lit (.bool true)], args := [d1, d2, d3] }
  | _ => none }
def fnExactActiveAtRow : OpenClaim := { program := "ytmacnofkpdikiaa", sum := "c55d09d12ec1c73f4d10b487b303576f18010f1ae63b7ba1f70cf70f8955ba7d", func := "loop.example/g01244/laws.FnExactActiveAt", spec := "fnExactActiveAt", unfollowed := true, recurses := true, apart := false }
def FnExactActiveAtSaid : Prop := fnExactActiveAtRow.holds Try.pinned (OpenSpec.ofChange fnExactActiveAtSpec)

/-- ITS FALSE NEIGHBOUR: 'it returns false'. Refute it at one input. -/
def fnExactActiveAtWrong : ChangeSpec := { name := "fnExactActiveAt", fn := fun _ => fun
  | [d1, d2, d3] => { results := [.lit (.bool false)], args := [d1, d2, d3] }
  | _ => none }
def FnExactActiveAtWrongFalsely : Prop := fnExactActiveAtRow.holds Try.pinned (OpenSpec.ofChange fnExactActiveAtWrong)

/-- 'laws.FnExactActivityCounts': WHATEVER THE INPUT: true; the input reads as it did. -/
def fnExactActivityCountsSpec : ChangeSpec := { name := "fnExactActivityCounts", fn := fun _ => fun
  | [d1, d2, d3] => { results := [.lit (.bool true)], args := [d1, d2, d3] }
  | _ => none }
def fnExactActivityCountsRow : OpenClaim := { program := "ytmacnofkpdikiaa", sum := "c55d09d12ec1c73f4d10b487b303576f18010f1ae63b7ba1f70cf70f8955ba7d", func := "loop.example/g01244/laws.FnExactActivityCounts", spec := "fnExactActivityCounts", unfollowed := true, recurses := true, apart := false }
def FnExactActivityCountsSaid : Prop := fnExactActivityCountsRow.holds Try.pinned (OpenSpec.ofChange fnExactActivityCountsSpec)

/-- ITS FALSE NEIGHBOUR: 'it returns false'. Refute it at one input. -/
def fnExactActivityCountsWrong : ChangeSpec := { name := "fnExactActivityCounts", fn := fun _ => fun
  | [d1, d2, d3] => { results := [.lit (.bool false)], args := [d1, d2, d3] }
  | _ => none }
def FnExactActivityCountsWrongFalsely : Prop := fnExactActivityCountsRow.holds Try.pinned (OpenSpec.ofChange fnExactActivityCountsWrong)

/-- 'laws.FnExactBoundaryWords': WHATEVER THE INPUT: true; the input reads as it did. -/
def fnExactBoundaryWordsSpec : ChangeSpec := { name := "fnExactBoundaryWords", fn := fun _ => fun
  | [d1, d2] => { results := [.lit (.bool true)], args := [d1, d2] }
  | _ => none }
def fnExactBoundaryWordsRow : OpenClaim := { program := "ytmacnofkpdikiaa", sum := "c55d09d12ec1c73f4d10b487b303576f18010f1ae63b7ba1f70cf70f8955ba7d", func := "loop.example/g01244/laws.FnExactBoundaryWords", spec := "fnExactBoundaryWords", unfollowed := true, recurses := true, apart := false }
def FnExactBoundaryWordsSaid : Prop := fnExactBoundaryWordsRow.holds Try.pinned (OpenSpec.ofChange fnExactBoundaryWordsSpec)

/-- ITS FALSE NEIGHBOUR: 'it returns false'. Refute it at one input. -/
def fnExactBoundaryWordsWrong : ChangeSpec := { name := "fnExactBoundaryWords", fn := fun _ => fun
  | [d1, d2] => { results := [.lit (.bool false)], args := [d1, d2] }
  | _ => none }
def FnExactBoundaryWordsWrongFalsely : Prop := fnExactBoundaryWordsRow.holds Try.pinned (OpenSpec.ofChange fnExactBoundaryWordsWrong)

/-- 'laws.FnExactReturnWords': WHATEVER THE INPUT: true; the input reads as it did. -/
def fnExactReturnWordsSpec : ChangeSpec := { name := "fnExactReturnWords", fn := fun _ => fun
  | [d1, d2, d3] => { results := [.lit (.bool true)], args := [d1, d2, d3] }
  | _ => none }
def fnExactReturnWordsRow : OpenClaim := { program := "ytmacnofkpdikiaa", sum := "c55d09d12ec1c73f4d10b487b303576f18010f1ae63b7ba1f70cf70f8955ba7d", func := "loop.example/g01244/laws.FnExactReturnWords", spec := "fnExactReturnWords", unfollowed := true, recurses := true, apart := false }
def FnExactReturnWordsSaid : Prop := fnExactReturnWordsRow.holds Try.pinned (OpenSpec.ofChange fnExactReturnWordsSpec)

/-- ITS FALSE NEIGHBOUR: 'it returns false'. Refute it at one input. -/
def fnExactReturnWordsWrong : ChangeSpec := { name := "fnExactReturnWords", fn := fun _ => fun
  | [d1, d2, d3] => { results := [.lit (.bool false)], args := [d1, d2, d3] }
  | _ => none }
def FnExactReturnWordsWrongFalsely : Prop := fnExactReturnWordsRow.holds Try.pinned (OpenSpec.ofChange fnExactReturnWordsWrong)

/-- 'laws.FnExactTileEdges': WHATEVER THE INPUT: true; the input reads as it did. -/
def fnExactTileEdgesSpec : ChangeSpec := { name := "fnExactTileEdges", fn := fun _ => fun
  | [d1, d2] => { results := [.lit (.bool true)], args := [d1, d2] }
  | _ => none }
def fnExactTileEdgesRow : OpenClaim := { program := "ytmacnofkpdikiaa", sum := "c55d09d12ec1c73f4d10b487b303576f18010f1ae63b7ba1f70cf70f8955ba7d", func := "loop.example/g01244/laws.FnExactTileEdges", spec := "fnExactTileEdges", unfollowed := true, recurses := true, apart := false }
def FnExactTileEdgesSaid : Prop := fnExactTileEdgesRow.holds Try.pinned (OpenSpec.ofChange fnExactTileEdgesSpec)

/-- ITS FALSE NEIGHBOUR: 'it returns false'. Refute it at one input. -/
def fnExactTileEdgesWrong : ChangeSpec := { name := "fnExactTileEdges", fn := fun _ => fun
  | [d1, d2] => { results := [.lit (.bool false)], args := [d1, d2] }
  | _ => none }
def FnExactTileEdgesWrongFalsely : Prop := fnExactTileEdgesRow.holds Try.pinned (OpenSpec.ofChange fnExactTileEdgesWrong)

/-- 'laws.FnExactIsBoundedMachine': WHATEVER THE INPUT: true; the input reads as it did. -/
def fnExactIsBoundedMachineSpec : ChangeSpec := { name := "fnExactIsBoundedMachine", fn := fun _ => fun
  | [d] => { results := [.lit (.bool true)], args := [d] }
  | _ => none }
def fnExactIsBoundedMachineRow : OpenClaim := { program := "ytmacnofkpdikiaa", sum := "c55d09d12ec1c73f4d10b487b303576f18010f1ae63b7ba1f70cf70f8955ba7d", func := "loop.example/g01244/laws.FnExactIsBoundedMachine", spec := "fnExactIsBoundedMachine", unfollowed := true, recurses := true, apart := false }
def FnExactIsBoundedMachineSaid : Prop := fnExactIsBoundedMachineRow.holds Try.pinned (OpenSpec.ofChange fnExactIsBoundedMachineSpec)

/-- ITS FALSE NEIGHBOUR: 'it returns false'. Refute it at one input. -/
def fnExactIsBoundedMachineWrong : ChangeSpec := { name := "fnExactIsBoundedMachine", fn := fun _ => fun
  | [d] => { results := [.lit (.bool false)], args := [d] }
  | _ => none }
def FnExactIsBoundedMachineWrongFalsely : Prop := fnExactIsBoundedMachineRow.holds Try.pinned (OpenSpec.ofChange fnExactIsBoundedMachineWrong)

/-- 'laws.FnExactKindOfState': WHATEVER THE INPUT: true; the input reads as it did. -/
def fnExactKindOfStateSpec : ChangeSpec := { name := "fnExactKindOfState", fn := fun _ => fun
  | [d1, d2] => { results := [.lit (.bool true)], args := [d1, d2] }
  | _ => none }
def fnExactKindOfStateRow : OpenClaim := { program := "ytmacnofkpdikiaa", sum := "c55d09d12ec1c73f4d10b487b303576f18010f1ae63b7ba1f70cf70f8955ba7d", func := "loop.example/g01244/laws.FnExactKindOfState", spec := "fnExactKindOfState", unfollowed := true, recurses := true, apart := false }
def FnExactKindOfStateSaid : Prop := fnExactKindOfStateRow.holds Try.pinned (OpenSpec.ofChange fnExactKindOfStateSpec)

/-- ITS FALSE NEIGHBOUR: 'it returns false'. Refute it at one input. -/
def fnExactKindOfStateWrong : ChangeSpec := { name := "fnExactKindOfState", fn := fun _ => fun
  | [d1, d2] => { results := [.lit (.bool false)], args := [d1, d2] }
  | _ => none }
def FnExactKindOfStateWrongFalsely : Prop := fnExactKindOfStateRow.holds Try.pinned (OpenSpec.ofChange fnExactKindOfStateWrong)

/- THE SECOND FORM. 'bulk': how many values and letters a reading holds, each counted each time it is reached (what is shared counts as often as it is met; a slice's spare places count too). A statement '..UptoSaid' is the law's where the arguments, and the package variables that the reading takes, are together of bulk at most 1048576: NARROWER than '..Said'. Prove '..Said' where nothing that the law and all that it calls make is longer than what came in: it says more and counts as full. Else prove '..UptoSaid'. A law counts once. -/
mutual
def uptoBulk {H : Type} : DataW H → Nat
  | .lit (.string bytes) => bytes.length + 1
  | .lit _ => 1
  | .nil => 1
  | .ptr d => uptoBulk d + 1
  | .slice elems spare => uptoBulkAll elems + uptoBulkAll spare + 1
  | .agg parts => uptoBulkAll parts + 1
  | .iface _ d => uptoBulk d + 1
  | .map entries => uptoBulkEntries entries + 1
  | .held _ => 1
def uptoBulkAll {H : Type} : List (DataW H) → Nat
  | [] => 0
  | d :: r => uptoBulk d + uptoBulkAll r
def uptoBulkEntries {H : Type} : List (Lit × DataW H) → Nat
  | [] => 0
  | x :: r => uptoBulkEntry x + uptoBulkEntries r
def uptoBulkEntry {H : Type} : Lit × DataW H → Nat
  | (.string bytes, d) => bytes.length + uptoBulk d + 1
  | (_, d) => uptoBulk d + 1
 end
def uptoSmall : (H : Type) → List (DataW H) → Bool := fun _ ds => decide (uptoBulkAll ds ≤ 1048576)
def OpenSpec.upto (s : _root_.Go.ChangeSpec) : _root_.Go.OpenSpec := { _root_.Go.OpenSpec.ofChange s with cond := some uptoSmall }

/-- 'laws.FnExactMoveTower', WHERE WHAT IT READS IS OF BULK AT MOST 1048576: true; the input reads as it did. -/
def fnExactMoveTowerUptoRow : OpenClaim := { program := "ytmacnofkpdikiaa", sum := "c55d09d12ec1c73f4d10b487b303576f18010f1ae63b7ba1f70cf70f8955ba7d", func := "loop.example/g01244/laws.FnExactMoveTower", spec := "fnExactMoveTower", apart := false, narrowed := true }
def FnExactMoveTowerUptoSaid : Prop := fnExactMoveTowerUptoRow.holds Try.pinned (OpenSpec.upto fnExactMoveTowerSpec)

/-- 'laws.FnExactKnownRelations', WHERE WHAT IT READS IS OF BULK AT MOST 1048576: true; the input reads as it did. -/
def fnExactKnownRelationsUptoRow : OpenClaim := { program := "ytmacnofkpdikiaa", sum := "c55d09d12ec1c73f4d10b487b303576f18010f1ae63b7ba1f70cf70f8955ba7d", func := "loop.example/g01244/laws.FnExactKnownRelations", spec := "fnExactKnownRelations", unfollowed := true, recurses := true, apart := false, narrowed := true }
def FnExactKnownRelationsUptoSaid : Prop := fnExactKnownRelationsUptoRow.holds Try.pinned (OpenSpec.upto fnExactKnownRelationsSpec)

/-- 'laws.FnExactTowerDistance', WHERE WHAT IT READS IS OF BULK AT MOST 1048576: true; the input reads as it did. -/
def fnExactTowerDistanceUptoRow : OpenClaim := { program := "ytmacnofkpdikiaa", sum := "c55d09d12ec1c73f4d10b487b303576f18010f1ae63b7ba1f70cf70f8955ba7d", func := "loop.example/g01244/laws.FnExactTowerDistance", spec := "fnExactTowerDistance", apart := false, narrowed := true }
def FnExactTowerDistanceUptoSaid : Prop := fnExactTowerDistanceUptoRow.holds Try.pinned (OpenSpec.upto fnExactTowerDistanceSpec)

/-- 'laws.FnExactTowerPath', WHERE WHAT IT READS IS OF BULK AT MOST 1048576: true; the input reads as it did. -/
def fnExactTowerPathUptoRow : OpenClaim := { program := "ytmacnofkpdikiaa", sum := "c55d09d12ec1c73f4d10b487b303576f18010f1ae63b7ba1f70cf70f8955ba7d", func := "loop.example/g01244/laws.FnExactTowerPath", spec := "fnExactTowerPath", apart := false, narrowed := true }
def FnExactTowerPathUptoSaid : Prop := fnExactTowerPathUptoRow.holds Try.pinned (OpenSpec.upto fnExactTowerPathSpec)

/-- 'laws.FnExactIsDesk', WHERE WHAT IT READS IS OF BULK AT MOST 1048576: true; the input reads as it did. -/
def fnExactIsDeskUptoRow : OpenClaim := { program := "ytmacnofkpdikiaa", sum := "c55d09d12ec1c73f4d10b487b303576f18010f1ae63b7ba1f70cf70f8955ba7d", func := "loop.example/g01244/laws.FnExactIsDesk", spec := "fnExactIsDesk", unfollowed := true, recurses := true, apart := false, narrowed := true }
def FnExactIsDeskUptoSaid : Prop := fnExactIsDeskUptoRow.holds Try.pinned (OpenSpec.upto fnExactIsDeskSpec)

/-- 'laws.FnExactActiveAt', WHERE WHAT IT READS IS OF BULK AT MOST 1048576: true; the input reads as it did. -/
def fnExactActiveAtUptoRow : OpenClaim := { program := "ytmacnofkpdikiaa", sum := "c55d09d12ec1c73f4d10b487b303576f18010f1ae63b7ba1f70cf70f8955ba7d", func := "loop.example/g01244/laws.FnExactActiveAt", spec := "fnExactActiveAt", unfollowed := true, recurses := true, apart := false, narrowed := true }
def FnExactActiveAtUptoSaid : Prop := fnExactActiveAtUptoRow.holds Try.pinned (OpenSpec.upto fnExactActiveAtSpec)

/-- 'laws.FnExactActivityCounts', WHERE WHAT IT READS IS OF BULK AT MOST 1048576: true; the input reads as it did. -/
def fnExactActivityCountsUptoRow : OpenClaim := { program := "ytmacnofkpdikiaa", sum := "c55d09d12ec1c73f4d10b487b303576f18010f1ae63b7ba1f70cf70f8955ba7d", func := "loop.example/g01244/laws.FnExactActivityCounts", spec := "fnExactActivityCounts", unfollowed := true, recurses := true, apart := false, narrowed := true }
def FnExactActivityCountsUptoSaid : Prop := fnExactActivityCountsUptoRow.holds Try.pinned (OpenSpec.upto fnExactActivityCountsSpec)

/-- 'laws.FnExactBoundaryWords', WHERE WHAT IT READS IS OF BULK AT MOST 1048576: true; the input reads as it did. -/
def fnExactBoundaryWordsUptoRow : OpenClaim := { program := "ytmacnofkpdikiaa", sum := "c55d09d12ec1c73f4d10b487b303576f18010f1ae63b7ba1f70cf70f8955ba7d", func := "loop.example/g01244/laws.FnExactBoundaryWords", spec := "fnExactBoundaryWords", unfollowed := true, recurses := true, apart := false, narrowed := true }
def FnExactBoundaryWordsUptoSaid : Prop := fnExactBoundaryWordsUptoRow.holds Try.pinned (OpenSpec.upto fnExactBoundaryWordsSpec)

/-- 'laws.FnExactReturnWords', WHERE WHAT IT READS IS OF BULK AT MOST 1048576: true; the input reads as it did. -/
def fnExactReturnWordsUptoRow : OpenClaim := { program := "ytmacnofkpdikiaa", sum := "c55d09d12ec1c73f4d10b487b303576f18010f1ae63b7ba1f70cf70f8955ba7d", func := "loop.example/g01244/laws.FnExactReturnWords", spec := "fnExactReturnWords", unfollowed := true, recurses := true, apart := false, narrowed := true }
def FnExactReturnWordsUptoSaid : Prop := fnExactReturnWordsUptoRow.holds Try.pinned (OpenSpec.upto fnExactReturnWordsSpec)

/-- 'laws.FnExactTileEdges', WHERE WHAT IT READS IS OF BULK AT MOST 1048576: true; the input reads as it did. -/
def fnExactTileEdgesUptoRow : OpenClaim := { program := "ytmacnofkpdikiaa", sum := "c55d09d12ec1c73f4d10b487b303576f18010f1ae63b7ba1f70cf70f8955ba7d", func := "loop.example/g01244/laws.FnExactTileEdges", spec := "fnExactTileEdges", unfollowed := true, recurses := true, apart := false, narrowed := true }
def FnExactTileEdgesUptoSaid : Prop := fnExactTileEdgesUptoRow.holds Try.pinned (OpenSpec.upto fnExactTileEdgesSpec)

/-- 'laws.FnExactIsBoundedMachine', WHERE WHAT IT READS IS OF BULK AT MOST 1048576: true; the input reads as it did. -/
def fnExactIsBoundedMachineUptoRow : OpenClaim := { program := "ytmacnofkpdikiaa", sum := "c55d09d12ec1c73f4d10b487b303576f18010f1ae63b7ba1f70cf70f8955ba7d", func := "loop.example/g01244/laws.FnExactIsBoundedMachine", spec := "fnExactIsBoundedMachine", unfollowed := true, recurses := true, apart := false, narrowed := true }
def FnExactIsBoundedMachineUptoSaid : Prop := fnExactIsBoundedMachineUptoRow.holds Try.pinned (OpenSpec.upto fnExactIsBoundedMachineSpec)

/-- 'laws.FnExactKindOfState', WHERE WHAT IT READS IS OF BULK AT MOST 1048576: true; the input reads as it did. -/
def fnExactKindOfStateUptoRow : OpenClaim := { program := "ytmacnofkpdikiaa", sum := "c55d09d12ec1c73f4d10b487b303576f18010f1ae63b7ba1f70cf70f8955ba7d", func := "loop.example/g01244/laws.FnExactKindOfState", spec := "fnExactKindOfState", unfollowed := true, recurses := true, apart := false, narrowed := true }
def FnExactKindOfStateUptoSaid : Prop := fnExactKindOfStateUptoRow.holds Try.pinned (OpenSpec.upto fnExactKindOfStateSpec)

end Rows
end Go.Proofs.Ytmacnofkpdikiaa
