/-
  DERIVED. GIVEN WITH THE SEED: THE CARDS: each row of YtnbnfgljbhidbaaDoorRows.lean that lists a variable, with what it lists TIED to the program's text (the seventh form; the later family's looks); each row that meets fmt, with fmt's text TOLD by the authors' own Lean function (tested against real Go, not proved from fmt's source: count such statements apart). THE CARD IS WHAT COUNTS. Prove the row's statement (the work); the ties are given (YtnbnfgljbhidbaaDoorTie.lean); close each card by the builder's one call (the guide's Derived/Test/ToyasCard.lean, 'card_holds'). Laid BY PROGRAM, IN A SANDBOX (cutbox-door.mjs). By AI agents, Wed Nov 11 2026. No macro, syntax, notation, axiom, sorry.
-/
import Derived.Test.YtnbnfgljbhidbaaDoorRows
import GoSem.ClaimSeven
namespace Go.Proofs.YtnbnfgljbhidbaaDoor
namespace Rows

/-- THE TIED CARD OF 'assayerlaw2.TourTells'. -/
def tourTellsCard : Claim7 := { stood := { row := tourTellsRow, standIns := [], harness := (true, "a4a4d2b81bb9047479d969d8ec76bfa1ab325d2fe59ad0c6bc8f22897477c794"), looks := true }, kinds := [], alts := [], laidByText := true, laidKinds := [.handle], laidTests := true, laidLooks := .later }
def TourTellsCardSaid : Prop := Claim7.holds Tryd.pinned (.plain (OpenSpec.ofChange tourTellsSpec)) tourTellsCard

/-- THE SECOND FORM's CARD OF 'assayerlaw2.TourTells'. -/
def tourTellsUptoCard : Claim7 := { stood := { row := tourTellsUptoRow, standIns := [], harness := (true, "a4a4d2b81bb9047479d969d8ec76bfa1ab325d2fe59ad0c6bc8f22897477c794"), looks := true }, kinds := [], alts := [], laidByText := true, laidKinds := [.handle], laidTests := true, laidLooks := .later }
def TourTellsUptoCardSaid : Prop := Claim7.holds Tryd.pinned (.plain (OpenSpec.upto tourTellsSpec)) tourTellsUptoCard
end Rows
end Go.Proofs.YtnbnfgljbhidbaaDoor
