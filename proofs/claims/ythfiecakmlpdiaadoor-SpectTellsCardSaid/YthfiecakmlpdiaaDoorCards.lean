/-
  DERIVED. GIVEN WITH THE SEED: THE CARDS: each row of YthfiecakmlpdiaaDoorRows.lean that lists a variable, with what it lists TIED to the program's text (the seventh form; the later family's looks); each row that meets fmt, with fmt's text TOLD by the authors' own Lean function (tested against real Go, not proved from fmt's source: count such statements apart). THE CARD IS WHAT COUNTS. Prove the row's statement (the work); the ties are given (YthfiecakmlpdiaaDoorTie.lean); close each card by the builder's one call (the guide's Derived/Test/ToyasCard.lean, 'card_holds'). Laid BY PROGRAM, IN A SANDBOX (cutbox-door.mjs). By AI agents, Wed Nov 11 2026. No macro, syntax, notation, axiom, sorry.
-/
import Derived.Test.YthfiecakmlpdiaaDoorRows
import GoSem.ClaimSeven
namespace Go.Proofs.YthfiecakmlpdiaaDoor
namespace Rows

/-- THE TIED CARD OF 'assayerlaw4.SpectTells'. -/
def spectTellsCard : Claim7 := { stood := { row := spectTellsRow, standIns := [], harness := (true, "2d400635997dfe442b0c9d5ec952a613fcdfa2937d8fd504988de2a1ffa21a30"), looks := true }, kinds := [], alts := [], laidByText := true, laidKinds := [.handle], laidTests := true, laidLooks := .later }
def SpectTellsCardSaid : Prop := Claim7.holds Tryd.pinned (.plain (OpenSpec.ofChange spectTellsSpec)) spectTellsCard

/-- THE SECOND FORM's CARD OF 'assayerlaw4.SpectTells'. -/
def spectTellsUptoCard : Claim7 := { stood := { row := spectTellsUptoRow, standIns := [], harness := (true, "2d400635997dfe442b0c9d5ec952a613fcdfa2937d8fd504988de2a1ffa21a30"), looks := true }, kinds := [], alts := [], laidByText := true, laidKinds := [.handle], laidTests := true, laidLooks := .later }
def SpectTellsUptoCardSaid : Prop := Claim7.holds Tryd.pinned (.plain (OpenSpec.upto spectTellsSpec)) spectTellsUptoCard
end Rows
end Go.Proofs.YthfiecakmlpdiaaDoor
