/-
  DERIVED. GIVEN WITH THE SEED: THE CARDS: each row of YtfdjnofkoegbdaaDoorRows.lean that lists a variable, with what it lists TIED to the program's text (the seventh form; the later family's looks); each row that meets fmt, with fmt's text TOLD by the authors' own Lean function (tested against real Go, not proved from fmt's source: count such statements apart). THE CARD IS WHAT COUNTS. Prove the row's statement (the work); the ties are given (YtfdjnofkoegbdaaDoorTie.lean); close each card by the builder's one call (the guide's Derived/Test/ToyasCard.lean, 'card_holds'). Laid BY PROGRAM, IN A SANDBOX (cutbox-door.mjs). By AI agents, Wed Nov 11 2026. No macro, syntax, notation, axiom, sorry.
-/
import Derived.Test.YtfdjnofkoegbdaaDoorRows
import GoSem.ClaimSeven
namespace Go.Proofs.YtfdjnofkoegbdaaDoor
namespace Rows

/-- THE TIED CARD OF 'assayerlaw4.GramPals'. -/
def gramPalsCard : Claim7 := { stood := { row := gramPalsRow, standIns := [], harness := (true, "00a39c3204b3131e09f3cd84d3cdba9679cc2451c88988dff569d5a980ab8730"), looks := true }, kinds := [], alts := [], laidByText := true, laidKinds := [.handle], laidTests := true, laidLooks := .later }
def GramPalsCardSaid : Prop := Claim7.holds Tryd.pinned (.plain (OpenSpec.ofChange gramPalsSpec)) gramPalsCard

/-- THE TIED CARD OF 'assayerlaw4.GramTells'. -/
def gramTellsCard : Claim7 := { stood := { row := gramTellsRow, standIns := [], harness := (true, "00a39c3204b3131e09f3cd84d3cdba9679cc2451c88988dff569d5a980ab8730"), looks := true }, kinds := [], alts := [], laidByText := true, laidKinds := [.handle], laidTests := true, laidLooks := .later }
def GramTellsCardSaid : Prop := Claim7.holds Tryd.pinned (.plain (OpenSpec.ofChange gramTellsSpec)) gramTellsCard

/-- THE TIED CARD OF 'assayerlaw4.GramShort'. -/
def gramShortCard : Claim7 := { stood := { row := gramShortRow, standIns := [], harness := (true, "00a39c3204b3131e09f3cd84d3cdba9679cc2451c88988dff569d5a980ab8730"), looks := true }, kinds := [], alts := [], laidByText := true, laidKinds := [.handle], laidTests := true, laidLooks := .later }
def GramShortCardSaid : Prop := Claim7.holds Tryd.pinned (.plain (OpenSpec.ofChange gramShortSpec)) gramShortCard

/-- THE SECOND FORM's CARD OF 'assayerlaw4.GramPals'. -/
def gramPalsUptoCard : Claim7 := { stood := { row := gramPalsUptoRow, standIns := [], harness := (true, "00a39c3204b3131e09f3cd84d3cdba9679cc2451c88988dff569d5a980ab8730"), looks := true }, kinds := [], alts := [], laidByText := true, laidKinds := [.handle], laidTests := true, laidLooks := .later }
def GramPalsUptoCardSaid : Prop := Claim7.holds Tryd.pinned (.plain (OpenSpec.upto gramPalsSpec)) gramPalsUptoCard

/-- THE SECOND FORM's CARD OF 'assayerlaw4.GramTells'. -/
def gramTellsUptoCard : Claim7 := { stood := { row := gramTellsUptoRow, standIns := [], harness := (true, "00a39c3204b3131e09f3cd84d3cdba9679cc2451c88988dff569d5a980ab8730"), looks := true }, kinds := [], alts := [], laidByText := true, laidKinds := [.handle], laidTests := true, laidLooks := .later }
def GramTellsUptoCardSaid : Prop := Claim7.holds Tryd.pinned (.plain (OpenSpec.upto gramTellsSpec)) gramTellsUptoCard

/-- THE SECOND FORM's CARD OF 'assayerlaw4.GramShort'. -/
def gramShortUptoCard : Claim7 := { stood := { row := gramShortUptoRow, standIns := [], harness := (true, "00a39c3204b3131e09f3cd84d3cdba9679cc2451c88988dff569d5a980ab8730"), looks := true }, kinds := [], alts := [], laidByText := true, laidKinds := [.handle], laidTests := true, laidLooks := .later }
def GramShortUptoCardSaid : Prop := Claim7.holds Tryd.pinned (.plain (OpenSpec.upto gramShortSpec)) gramShortUptoCard
end Rows
end Go.Proofs.YtfdjnofkoegbdaaDoor
