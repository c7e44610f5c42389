/-
  DERIVED. GIVEN WITH THE SEED: THE CARDS: each row of YtoneaocjooefiaaDoorRows.lean that lists a variable, with what it lists TIED to the program's text (the seventh form; the later family's looks); each row that meets fmt, with fmt's text TOLD by the authors' own Lean function (tested against real Go, not proved from fmt's source: count such statements apart). THE CARD IS WHAT COUNTS. Prove the row's statement (the work); the ties are given (YtoneaocjooefiaaDoorTie.lean); close each card by the builder's one call (the guide's Derived/Test/ToyasCard.lean, 'card_holds'). Laid BY PROGRAM, IN A SANDBOX (cutbox-door.mjs). By AI agents, Wed Nov 11 2026. No macro, syntax, notation, axiom, sorry.
-/
import Derived.Test.YtoneaocjooefiaaDoorRows
import GoSem.ClaimSeven
namespace Go.Proofs.YtoneaocjooefiaaDoor
namespace Rows

/-- THE TIED CARD OF 'assayerlaw4.SuiteEnough'. -/
def suiteEnoughCard : Claim7 := { stood := { row := suiteEnoughRow, standIns := [], harness := (true, "40060ca87a2c321d90ef20ce7bfed933f83ace3a52e6f0bac39a39a89c64b4ad"), looks := true }, kinds := [], alts := [], laidByText := true, laidKinds := [.data, .data], laidTests := true, laidLooks := .later }
def SuiteEnoughCardSaid : Prop := Claim7.holds Tryd.pinned (.plain (OpenSpec.ofChange suiteEnoughSpec)) suiteEnoughCard

/-- THE TIED CARD OF 'assayerlaw4.SuiteChvatal'. -/
def suiteChvatalCard : Claim7 := { stood := { row := suiteChvatalRow, standIns := [], harness := (true, "40060ca87a2c321d90ef20ce7bfed933f83ace3a52e6f0bac39a39a89c64b4ad"), looks := true }, kinds := [], alts := [], laidByText := true, laidKinds := [.data, .data], laidTests := true, laidLooks := .later }
def SuiteChvatalCardSaid : Prop := Claim7.holds Tryd.pinned (.plain (OpenSpec.ofChange suiteChvatalSpec)) suiteChvatalCard

/-- THE TIED CARD OF 'assayerlaw4.SuiteOnce'. -/
def suiteOnceCard : Claim7 := { stood := { row := suiteOnceRow, standIns := [], harness := (true, "40060ca87a2c321d90ef20ce7bfed933f83ace3a52e6f0bac39a39a89c64b4ad"), looks := true }, kinds := [], alts := [], laidByText := true, laidKinds := [.data, .data], laidTests := true, laidLooks := .later }
def SuiteOnceCardSaid : Prop := Claim7.holds Tryd.pinned (.plain (OpenSpec.ofChange suiteOnceSpec)) suiteOnceCard

/-- THE TIED CARD OF 'assayerlaw4.SuiteTells'. -/
def suiteTellsCard : Claim7 := { stood := { row := suiteTellsRow, standIns := [], harness := (true, "40060ca87a2c321d90ef20ce7bfed933f83ace3a52e6f0bac39a39a89c64b4ad"), looks := true }, kinds := [], alts := [], laidByText := true, laidKinds := [.data, .data, .handle], laidTests := true, laidLooks := .later }
def SuiteTellsCardSaid : Prop := Claim7.holds Tryd.pinned (.plain (OpenSpec.ofChange suiteTellsSpec)) suiteTellsCard

/-- THE SECOND FORM's CARD OF 'assayerlaw4.SuiteEnough'. -/
def suiteEnoughUptoCard : Claim7 := { stood := { row := suiteEnoughUptoRow, standIns := [], harness := (true, "40060ca87a2c321d90ef20ce7bfed933f83ace3a52e6f0bac39a39a89c64b4ad"), looks := true }, kinds := [], alts := [], laidByText := true, laidKinds := [.data, .data], laidTests := true, laidLooks := .later }
def SuiteEnoughUptoCardSaid : Prop := Claim7.holds Tryd.pinned (.plain (OpenSpec.upto suiteEnoughSpec)) suiteEnoughUptoCard

/-- THE SECOND FORM's CARD OF 'assayerlaw4.SuiteChvatal'. -/
def suiteChvatalUptoCard : Claim7 := { stood := { row := suiteChvatalUptoRow, standIns := [], harness := (true, "40060ca87a2c321d90ef20ce7bfed933f83ace3a52e6f0bac39a39a89c64b4ad"), looks := true }, kinds := [], alts := [], laidByText := true, laidKinds := [.data, .data], laidTests := true, laidLooks := .later }
def SuiteChvatalUptoCardSaid : Prop := Claim7.holds Tryd.pinned (.plain (OpenSpec.upto suiteChvatalSpec)) suiteChvatalUptoCard

/-- THE SECOND FORM's CARD OF 'assayerlaw4.SuiteOnce'. -/
def suiteOnceUptoCard : Claim7 := { stood := { row := suiteOnceUptoRow, standIns := [], harness := (true, "40060ca87a2c321d90ef20ce7bfed933f83ace3a52e6f0bac39a39a89c64b4ad"), looks := true }, kinds := [], alts := [], laidByText := true, laidKinds := [.data, .data], laidTests := true, laidLooks := .later }
def SuiteOnceUptoCardSaid : Prop := Claim7.holds Tryd.pinned (.plain (OpenSpec.upto suiteOnceSpec)) suiteOnceUptoCard

/-- THE SECOND FORM's CARD OF 'assayerlaw4.SuiteTells'. -/
def suiteTellsUptoCard : Claim7 := { stood := { row := suiteTellsUptoRow, standIns := [], harness := (true, "40060ca87a2c321d90ef20ce7bfed933f83ace3a52e6f0bac39a39a89c64b4ad"), looks := true }, kinds := [], alts := [], laidByText := true, laidKinds := [.data, .data, .handle], laidTests := true, laidLooks := .later }
def SuiteTellsUptoCardSaid : Prop := Claim7.holds Tryd.pinned (.plain (OpenSpec.upto suiteTellsSpec)) suiteTellsUptoCard
end Rows
end Go.Proofs.YtoneaocjooefiaaDoor
