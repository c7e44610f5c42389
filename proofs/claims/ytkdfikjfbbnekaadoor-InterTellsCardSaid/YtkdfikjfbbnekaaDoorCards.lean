/-
  DERIVED. GIVEN WITH THE SEED: THE CARDS: each row of YtkdfikjfbbnekaaDoorRows.lean that lists a variable, with what it lists TIED to the program's text (the seventh form; the later family's looks); each row that meets fmt, with fmt's text TOLD by the authors' own Lean function (tested against real Go, not proved from fmt's source: count such statements apart). THE CARD IS WHAT COUNTS. Prove the row's statement (the work); the ties are given (YtkdfikjfbbnekaaDoorTie.lean); close each card by the builder's one call (the guide's Derived/Test/ToyasCard.lean, 'card_holds'). Laid BY PROGRAM, IN A SANDBOX (cutbox-door.mjs). By AI agents, Wed Nov 11 2026. No macro, syntax, notation, axiom, sorry.
-/
import Derived.Test.YtkdfikjfbbnekaaDoorRows
import GoSem.ClaimSeven
namespace Go.Proofs.YtkdfikjfbbnekaaDoor
namespace Rows

/-- THE TIED CARD OF 'assayerlaw4.InterTells'. -/
def interTellsCard : Claim7 := { stood := { row := interTellsRow, standIns := [], harness := (true, "eb5b12ae714d8da3a0c313daa588d81066c6c4d0c4c912e010ea740051d38921"), looks := true }, kinds := [], alts := [], laidByText := true, laidKinds := [.handle], laidTests := true, laidLooks := .later }
def InterTellsCardSaid : Prop := Claim7.holds Tryd.pinned (.plain (OpenSpec.ofChange interTellsSpec)) interTellsCard

/-- THE SECOND FORM's CARD OF 'assayerlaw4.InterTells'. -/
def interTellsUptoCard : Claim7 := { stood := { row := interTellsUptoRow, standIns := [], harness := (true, "eb5b12ae714d8da3a0c313daa588d81066c6c4d0c4c912e010ea740051d38921"), looks := true }, kinds := [], alts := [], laidByText := true, laidKinds := [.handle], laidTests := true, laidLooks := .later }
def InterTellsUptoCardSaid : Prop := Claim7.holds Tryd.pinned (.plain (OpenSpec.upto interTellsSpec)) interTellsUptoCard
end Rows
end Go.Proofs.YtkdfikjfbbnekaaDoor
