/-
  DERIVED. GIVEN WITH THE SEED: THE CARDS: each row of YtebkgkcfcenkgaaDoorRows.lean that lists a variable, with what it lists TIED to the program's text (the seventh form; the later family's looks); each row that meets fmt, with fmt's text TOLD by the authors' own Lean function (tested against real Go, not proved from fmt's source: count such statements apart). THE CARD IS WHAT COUNTS. Prove the row's statement (the work); the ties are given (YtebkgkcfcenkgaaDoorTie.lean); close each card by the builder's one call (the guide's Derived/Test/ToyasCard.lean, 'card_holds'). Laid BY PROGRAM, IN A SANDBOX (cutbox-door.mjs). By AI agents, Wed Nov 11 2026. No macro, syntax, notation, axiom, sorry.
-/
import Derived.Test.YtebkgkcfcenkgaaDoorRows
import GoSem.ClaimSeven
namespace Go.Proofs.YtebkgkcfcenkgaaDoor
namespace Rows

/-- THE TIED CARD OF 'assayerlaw2.PairsTell'. -/
def pairsTellCard : Claim7 := { stood := { row := pairsTellRow, standIns := [], harness := (true, "24212ce7db1dda134220a50cafe9c14e850f977186f8c3e0af0e6f436dd85b58"), looks := true }, kinds := [], alts := [], laidByText := true, laidKinds := [.handle], laidTests := true, laidLooks := .later }
def PairsTellCardSaid : Prop := Claim7.holds Tryd.pinned (.plain (OpenSpec.ofChange pairsTellSpec)) pairsTellCard

/-- THE SECOND FORM's CARD OF 'assayerlaw2.PairsTell'. -/
def pairsTellUptoCard : Claim7 := { stood := { row := pairsTellUptoRow, standIns := [], harness := (true, "24212ce7db1dda134220a50cafe9c14e850f977186f8c3e0af0e6f436dd85b58"), looks := true }, kinds := [], alts := [], laidByText := true, laidKinds := [.handle], laidTests := true, laidLooks := .later }
def PairsTellUptoCardSaid : Prop := Claim7.holds Tryd.pinned (.plain (OpenSpec.upto pairsTellSpec)) pairsTellUptoCard
end Rows
end Go.Proofs.YtebkgkcfcenkgaaDoor
