/-
  No cell of these rows narrows 'for every input' (looked for: loops, veiled, ifaces, maps, wideKeys, modest, calm, conditions, laid).
  DERIVED. THE GIVEN ROWS OF THIS SEAT. 5 by the template 'for every input the law returns true; each argument reads behind the call as it read before'; 0 by the template 'total and deterministic' (their statements: YthgkkaifdlkciaaTotals.lean).
  GIVEN WITH THE SEED: the statements are not yours to turn. If you find one false, say at which input.
  Laid BY PROGRAM, IN A SANDBOX (cutbox-rows.mjs): the forced cells as the released guide's own fill.sh prints them over the translation a31761c50ddec4b7… (all of the seat's roots in one cut). By AI agents, Wed Nov 11 2026. No macro, syntax, notation, axiom, sorry.
-/
import Derived.Test.YthgkkaifdlkciaaChecked
import GoSem.Claim
import GoSem.ClaimJoined
import GoSem.ClaimMapViews
import Derived.JoinedTies
import Derived.KernelRfl
namespace Go.Proofs.Ythgkkaifdlkciaa
/- THE CELL 'sum', in the pinned program and in every row, IS THE sha256 OF THE DUMP (.gsa) THAT YthgkkaifdlkciaaProg.lean LOADS. Nothing in Lean hashes anything: it is a label: what it is worth is what the hold of that sum in a sandbox is worth. -/
noncomputable def Try.pinned : Pinned := { name := "ythgkkaifdlkciaa", sum := "a31761c50ddec4b7b054ee509d15f2e3d31d6e6c912f8eb87b2da7ab65e6b7f4", checked := Try.checked }
namespace Rows
def none {H : Type} : Left H := { results := [], args := [] }

/-- 'laws.FnExactIsBoundedMachine': WHATEVER THE INPUT: true; the input reads as it did. -/
def fnExactIsBoundedMachineSpec : ChangeSpec := { name := "fnExactIsBoundedMachine", fn := fun _ => fun
  | [d] => { results := [.lit (.bool true)], args := [d] }
  | _ => none }
def fnExactIsBoundedMachineRow : OpenClaim := { program := "ythgkkaifdlkciaa", sum := "a31761c50ddec4b7b054ee509d15f2e3d31d6e6c912f8eb87b2da7ab65e6b7f4", func := "loop.example/g01244/laws.FnExactIsBoundedMachine", spec := "fnExactIsBoundedMachine", unfollowed := true, recurses := true, apart := false }
def FnExactIsBoundedMachineSaid : Prop := fnExactIsBoundedMachineRow.holds Try.pinned (OpenSpec.ofChange fnExactIsBoundedMachineSpec)

/-- ITS FALSE NEIGHBOUR: 'it returns false'. Refute it at one input. -/
def fnExactIsBoundedMachineWrong : ChangeSpec := { name := "fnExactIsBoundedMachine", fn := fun _ => fun
  | [d] => { results := [.lit (.bool false)], args := [d] }
  | _ => none }
def FnExactIsBoundedMachineWrongFalsely : Prop := fnExactIsBoundedMachineRow.holds Try.pinned (OpenSpec.ofChange fnExactIsBoundedMachineWrong)

/-- 'laws.FnExactKindOfState': WHATEVER THE INPUT: true; the input reads as it did. -/
def fnExactKindOfStateSpec : ChangeSpec := { name := "fnExactKindOfState", fn := fun _ => fun
  | [d1, d2] => { results := [.lit (.bool true)], args := [d1, d2] }
  | _ => none }
def fnExactKindOfStateRow : OpenClaim := { program := "ythgkkaifdlkciaa", sum := "a31761c50ddec4b7b054ee509d15f2e3d31d6e6c912f8eb87b2da7ab65e6b7f4", func := "loop.example/g01244/laws.FnExactKindOfState", spec := "fnExactKindOfState", unfollowed := true, recurses := true, apart := false }
def FnExactKindOfStateSaid : Prop := fnExactKindOfStateRow.holds Try.pinned (OpenSpec.ofChange fnExactKindOfStateSpec)

/-- ITS FALSE NEIGHBOUR: 'it returns false'. Refute it at one input. -/
def fnExactKindOfStateWrong : ChangeSpec := { name := "fnExactKindOfState", fn := fun _ => fun
  | [d1, d2] => { results := [.lit (.bool false)], args := [d1, d2] }
  | _ => none }
def FnExactKindOfStateWrongFalsely : Prop := fnExactKindOfStateRow.holds Try.pinned (OpenSpec.ofChange fnExactKindOfStateWrong)

/-- 'laws.FnExactDepthOfState': WHATEVER THE INPUT: true; the input reads as it did. -/
def fnExactDepthOfStateSpec : ChangeSpec := { name := "fnExactDepthOfState", fn := fun _ => fun
  | [d1, d2] => { results := [.lit (.bool true)], args := [d1, d2] }
  | _ => none }
def fnExactDepthOfStateRow : OpenClaim := { program := "ythgkkaifdlkciaa", sum := "a31761c50ddec4b7b054ee509d15f2e3d31d6e6c912f8eb87b2da7ab65e6b7f4", func := "loop.example/g01244/laws.FnExactDepthOfState", spec := "fnExactDepthOfState", unfollowed := true, recurses := true, apart := false }
def FnExactDepthOfStateSaid : Prop := fnExactDepthOfStateRow.holds Try.pinned (OpenSpec.ofChange fnExactDepthOfStateSpec)

/-- ITS FALSE NEIGHBOUR: 'it returns false'. Refute it at one input. -/
def fnExactDepthOfStateWrong : ChangeSpec := { name := "fnExactDepthOfState", fn := fun _ => fun
  | [d1, d2] => { results := [.lit (.bool false)], args := [d1, d2] }
  | _ => none }
def FnExactDepthOfStateWrongFalsely : Prop := fnExactDepthOfStateRow.holds Try.pinned (OpenSpec.ofChange fnExactDepthOfStateWrong)

/-- 'laws.FnExactIsOneTile': WHATEVER THE INPUT: true; the input reads as it did. -/
def fnExactIsOneTileSpec : ChangeSpec := { name := "fnExactIsOneTile", fn := fun _ => fun
  | [d1, d2] => { results := [.lit (.bool true)], args := [d1, d2] }
  | _ => none }
def fnExactIsOneTileRow : OpenClaim := { program := "ythgkkaifdlkciaa", sum := "a31761c50ddec4b7b054ee509d15f2e3d31d6e6c912f8eb87b2da7ab65e6b7f4", func := "loop.example/g01244/laws.FnExactIsOneTile", spec := "fnExactIsOneTile", unfollowed := true, recurses := true, apart := false }
def FnExactIsOneTileSaid : Prop := fnExactIsOneTileRow.holds Try.pinned (OpenSpec.ofChange fnExactIsOneTileSpec)

/-- ITS FALSE NEIGHBOUR: 'it returns false'. Refute it at one input. -/
def fnExactIsOneTileWrong : ChangeSpec := { name := "fnExactIsOneTile", fn := fun _ => fun
  | [d1, d2] => { results := [.lit (.bool false)], args := [d1, d2] }
  | _ => none }
def FnExactIsOneTileWrongFalsely : Prop := fnExactIsOneTileRow.holds Try.pinned (OpenSpec.ofChange fnExactIsOneTileWrong)

/-- 'laws.FnExactTileParts': WHATEVER THE INPUT: true; the input reads as it did. -/
def fnExactTilePartsSpec : ChangeSpec := { name := "fnExactTileParts", fn := fun _ => fun
  | [d1, d2] => { results := [.lit (.bool true)], args := [d1, d2] }
  | _ => none }
def fnExactTilePartsRow : OpenClaim := { program := "ythgkkaifdlkciaa", sum := "a31761c50ddec4b7b054ee509d15f2e3d31d6e6c912f8eb87b2da7ab65e6b7f4", func := "loop.example/g01244/laws.FnExactTileParts", spec := "fnExactTileParts", unfollowed := true, recurses := true, apart := false }
def FnExactTilePartsSaid : Prop := fnExactTilePartsRow.holds Try.pinned (OpenSpec.ofChange fnExactTilePartsSpec)

/-- ITS FALSE NEIGHBOUR: 'it returns false'. Refute it at one input. -/
def fnExactTilePartsWrong : ChangeSpec := { name := "fnExactTileParts", fn := fun _ => fun
  | [d1, d2] => { results := [.lit (.bool false)], args := [d1, d2] }
  | _ => none }
def FnExactTilePartsWrongFalsely : Prop := fnExactTilePartsRow.holds Try.pinned (OpenSpec.ofChange fnExactTilePartsWrong)

/- THE SECOND FORM. 'bulk': how many values and letters a reading holds, each counted each time it is reached (what is shared counts as often as it is met; a slice's spare places count too). A statement '..UptoSaid' is the law's where the arguments, and the package variables that the reading takes, are together of bulk at most 1048576: NARROWER than '..Said'. Prove '..Said' where nothing that the law and all that it calls make is longer than what came in: it says more and counts as full. Else prove '..UptoSaid'. A law counts once. -/
mutual
def uptoBulk {H : Type} : DataW H → Nat
  | .lit (.string bytes) => bytes.length + 1
  | .lit _ => 1
  | .nil => 1
  | .ptr d => uptoBulk d + 1
  | .slice elems spare => uptoBulkAll elems + uptoBulkAll spare + 1
  | .agg parts => uptoBulkAll parts + 1
  | .iface _ d => uptoBulk d + 1
  | .map entries => uptoBulkEntries entries + 1
  | .held _ => 1
def uptoBulkAll {H : Type} : List (DataW H) → Nat
  | [] => 0
  | d :: r => uptoBulk d + uptoBulkAll r
def uptoBulkEntries {H : Type} : List (Lit × DataW H) → Nat
  | [] => 0
  | x :: r => uptoBulkEntry x + uptoBulkEntries r
def uptoBulkEntry {H : Type} : Lit × DataW H → Nat
  | (.string bytes, d) => bytes.length + uptoBulk d + 1
  | (_, d) => uptoBulk d + 1
 end
def uptoSmall : (H : Type) → List (DataW H) → Bool := fun _ ds => decide (uptoBulkAll ds ≤ 1048576)
def OpenSpec.upto (s : _root_.Go.ChangeSpec) : _root_.Go.OpenSpec := { _root_.Go.OpenSpec.ofChange s with cond := some uptoSmall }

/-- 'laws.FnExactIsBoundedMachine', WHERE WHAT IT READS IS OF BULK AT MOST 1048576: true; the input reads as it did. -/
def fnExactIsBoundedMachineUptoRow : OpenClaim := { program := "ythgkkaifdlkciaa", sum := "a31761c50ddec4b7b054ee509d15f2e3d31d6e6c912f8eb87b2da7ab65e6b7f4", func := "loop.example/g01244/laws.FnExactIsBoundedMachine", spec := "fnExactIsBoundedMachine", unfollowed := true, recurses := true, apart := false, narrowed := true }
def FnExactIsBoundedMachineUptoSaid : Prop := fnExactIsBoundedMachineUptoRow.holds Try.pinned (OpenSpec.upto fnExactIsBoundedMachineSpec)

/-- 'laws.FnExactKindOfState', WHERE WHAT IT READS IS OF BULK AT MOST 1048576: true; the input reads as it did. -/
def fnExactKindOfStateUptoRow : OpenClaim := { program := "ythgkkaifdlkciaa", sum := "a31761c50ddec4b7b054ee509d15f2e3d31d6e6c912f8eb87b2da7ab65e6b7f4", func := "loop.example/g01244/laws.FnExactKindOfState", spec := "fnExactKindOfState", unfollowed := true, recurses := true, apart := false, narrowed := true }
def FnExactKindOfStateUptoSaid : Prop := fnExactKindOfStateUptoRow.holds Try.pinned (OpenSpec.upto fnExactKindOfStateSpec)

/-- 'laws.FnExactDepthOfState', WHERE WHAT IT READS IS OF BULK AT MOST 1048576: true; the input reads as it did. -/
def fnExactDepthOfStateUptoRow : OpenClaim := { program := "ythgkkaifdlkciaa", sum := "a31761c50ddec4b7b054ee509d15f2e3d31d6e6c912f8eb87b2da7ab65e6b7f4", func := "loop.example/g01244/laws.FnExactDepthOfState", spec := "fnExactDepthOfState", unfollowed := true, recurses := true, apart := false, narrowed := true }
def FnExactDepthOfStateUptoSaid : Prop := fnExactDepthOfStateUptoRow.holds Try.pinned (OpenSpec.upto fnExactDepthOfStateSpec)

/-- 'laws.FnExactIsOneTile', WHERE WHAT IT READS IS OF BULK AT MOST 1048576: true; the input reads as it did. -/
def fnExactIsOneTileUptoRow : OpenClaim := { program := "ythgkkaifdlkciaa", sum := "a31761c50ddec4b7b054ee509d15f2e3d31d6e6c912f8eb87b2da7ab65e6b7f4", func := "loop.example/g01244/laws.FnExactIsOneTile", spec := "fnExactIsOneTile", unfollowed := true, recurses := true, apart := false, narrowed := true }
def FnExactIsOneTileUptoSaid : Prop := fnExactIsOneTileUptoRow.holds Try.pinned (OpenSpec.upto fnExactIsOneTileSpec)

/-- 'laws.FnExactTileParts', WHERE WHAT IT READS IS OF BULK AT MOST 1048576: true; the input reads as it did. -/
def fnExactTilePartsUptoRow : OpenClaim := { program := "ythgkkaifdlkciaa", sum := "a31761c50ddec4b7b054ee509d15f2e3d31d6e6c912f8eb87b2da7ab65e6b7f4", func := "loop.example/g01244/laws.FnExactTileParts", spec := "fnExactTileParts", unfollowed := true, recurses := true, apart := false, narrowed := true }
def FnExactTilePartsUptoSaid : Prop := fnExactTilePartsUptoRow.holds Try.pinned (OpenSpec.upto fnExactTilePartsSpec)

end Rows
end Go.Proofs.Ythgkkaifdlkciaa
