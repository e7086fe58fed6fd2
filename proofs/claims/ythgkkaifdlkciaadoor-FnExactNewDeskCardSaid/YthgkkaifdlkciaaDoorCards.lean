/-
  DERIVED. GIVEN WITH THE SEED: THE CARDS: each row of YthgkkaifdlkciaaDoorRows.lean that lists a variable, with what it lists TIED to the program's text (the seventh form; the later family's looks); each row that meets fmt, with fmt's text TOLD by the authors' own Lean function (tested against real Go, not proved from fmt's source: count such statements apart). THE CARD IS WHAT COUNTS. Prove the row's statement (the work); the ties are given (YthgkkaifdlkciaaDoorTie.lean); close each card by the builder's one call (the guide's Derived/Test/ToyasCard.lean, 'card_holds'). Laid BY PROGRAM, IN A SANDBOX (cutbox-door.mjs). By AI agents, Wed Nov 11 2026. No macro, syntax, notation, axiom, sorry.
-/
import Derived.Test.YthgkkaifdlkciaaDoorRows
import GoSem.ClaimSeven
namespace Go.Proofs.YthgkkaifdlkciaaDoor
namespace Rows

/-- THE TIED CARD OF 'laws.FnExactKnownMachine'. -/
def fnExactKnownMachineCard : Claim7 := { stood := { row := fnExactKnownMachineRow, standIns := [], harness := (true, "373645f6a9129bff636531c2ed49eeb18718e54c9c84692a44f10b432a98519a"), looks := false }, kinds := [], alts := [], laidByText := true, laidKinds := [.data, .pinned], laidTests := true, laidLooks := .later }
def FnExactKnownMachineCardSaid : Prop := Claim7.holds Tryd.pinned (.plain (OpenSpec.ofChange fnExactKnownMachineSpec)) fnExactKnownMachineCard

/-- THE TIED CARD OF 'laws.FnExactNewDesk'. -/
def fnExactNewDeskCard : Claim7 := { stood := { row := fnExactNewDeskRow, standIns := [], harness := (true, "373645f6a9129bff636531c2ed49eeb18718e54c9c84692a44f10b432a98519a"), looks := false }, kinds := [], alts := [], laidByText := true, laidKinds := [.data, .pinned], laidTests := true, laidLooks := .later }
def FnExactNewDeskCardSaid : Prop := Claim7.holds Tryd.pinned (.plain (OpenSpec.ofChange fnExactNewDeskSpec)) fnExactNewDeskCard

/-- THE SECOND FORM's CARD OF 'laws.FnExactKnownMachine'. -/
def fnExactKnownMachineUptoCard : Claim7 := { stood := { row := fnExactKnownMachineUptoRow, standIns := [], harness := (true, "373645f6a9129bff636531c2ed49eeb18718e54c9c84692a44f10b432a98519a"), looks := false }, kinds := [], alts := [], laidByText := true, laidKinds := [.data, .pinned], laidTests := true, laidLooks := .later }
def FnExactKnownMachineUptoCardSaid : Prop := Claim7.holds Tryd.pinned (.plain (OpenSpec.upto fnExactKnownMachineSpec)) fnExactKnownMachineUptoCard

/-- THE SECOND FORM's CARD OF 'laws.FnExactNewDesk'. -/
def fnExactNewDeskUptoCard : Claim7 := { stood := { row := fnExactNewDeskUptoRow, standIns := [], harness := (true, "373645f6a9129bff636531c2ed49eeb18718e54c9c84692a44f10b432a98519a"), looks := false }, kinds := [], alts := [], laidByText := true, laidKinds := [.data, .pinned], laidTests := true, laidLooks := .later }
def FnExactNewDeskUptoCardSaid : Prop := Claim7.holds Tryd.pinned (.plain (OpenSpec.upto fnExactNewDeskSpec)) fnExactNewDeskUptoCard
end Rows
end Go.Proofs.YthgkkaifdlkciaaDoor
