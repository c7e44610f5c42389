/-
  DERIVED. GIVEN WITH THE SEED: THE CARDS: each row of YtmcbplklopejlaaDoorRows.lean that lists a variable, with what it lists TIED to the program's text (the seventh form; the later family's looks); each row that meets fmt, with fmt's text TOLD by the authors' own Lean function (tested against real Go, not proved from fmt's source: count such statements apart). THE CARD IS WHAT COUNTS. Prove the row's statement (the work); the ties are given (YtmcbplklopejlaaDoorTie.lean); close each card by the builder's one call (the guide's Derived/Test/ToyasCard.lean, 'card_holds'). Laid BY PROGRAM, IN A SANDBOX (cutbox-door.mjs). By AI agents, Wed Nov 11 2026. No macro, syntax, notation, axiom, sorry.
-/
import Derived.Test.YtmcbplklopejlaaDoorRows
import GoSem.ClaimSeven
namespace Go.Proofs.YtmcbplklopejlaaDoor
namespace Rows

/-- THE TIED CARD OF 'assayerlaw4.OaTells'. -/
def oaTellsCard : Claim7 := { stood := { row := oaTellsRow, standIns := [], harness := (true, "08ff06a94b9869bf75aacd766bd4163fb1ff121079e617bebe9ea4feabc59701"), looks := true }, kinds := [], alts := [], laidByText := true, laidKinds := [.handle], laidTests := true, laidLooks := .later }
def OaTellsCardSaid : Prop := Claim7.holds Tryd.pinned (.plain (OpenSpec.ofChange oaTellsSpec)) oaTellsCard

/-- THE SECOND FORM's CARD OF 'assayerlaw4.OaTells'. -/
def oaTellsUptoCard : Claim7 := { stood := { row := oaTellsUptoRow, standIns := [], harness := (true, "08ff06a94b9869bf75aacd766bd4163fb1ff121079e617bebe9ea4feabc59701"), looks := true }, kinds := [], alts := [], laidByText := true, laidKinds := [.handle], laidTests := true, laidLooks := .later }
def OaTellsUptoCardSaid : Prop := Claim7.holds Tryd.pinned (.plain (OpenSpec.upto oaTellsSpec)) oaTellsUptoCard
end Rows
end Go.Proofs.YtmcbplklopejlaaDoor
