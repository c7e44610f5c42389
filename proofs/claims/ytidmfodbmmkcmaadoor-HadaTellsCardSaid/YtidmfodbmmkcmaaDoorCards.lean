/-
  DERIVED. GIVEN WITH THE SEED: THE CARDS: each row of YtidmfodbmmkcmaaDoorRows.lean that lists a variable, with what it lists TIED to the program's text (the seventh form; the later family's looks); each row that meets fmt, with fmt's text TOLD by the authors' own Lean function (tested against real Go, not proved from fmt's source: count such statements apart). THE CARD IS WHAT COUNTS. Prove the row's statement (the work); the ties are given (YtidmfodbmmkcmaaDoorTie.lean); close each card by the builder's one call (the guide's Derived/Test/ToyasCard.lean, 'card_holds'). Laid BY PROGRAM, IN A SANDBOX (cutbox-door.mjs). By AI agents, Wed Nov 11 2026. No macro, syntax, notation, axiom, sorry.
-/
import Derived.Test.YtidmfodbmmkcmaaDoorRows
import GoSem.ClaimSeven
namespace Go.Proofs.YtidmfodbmmkcmaaDoor
namespace Rows

/-- THE TIED CARD OF 'assayerlaw4.HadaTells'. -/
def hadaTellsCard : Claim7 := { stood := { row := hadaTellsRow, standIns := [], harness := (true, "de710a3e03ec0634b649e87529748a4adac492fc81b3502fc5c4b4744e6196e8"), looks := true }, kinds := [], alts := [], laidByText := true, laidKinds := [.handle], laidTests := true, laidLooks := .later }
def HadaTellsCardSaid : Prop := Claim7.holds Tryd.pinned (.plain (OpenSpec.ofChange hadaTellsSpec)) hadaTellsCard

/-- THE SECOND FORM's CARD OF 'assayerlaw4.HadaTells'. -/
def hadaTellsUptoCard : Claim7 := { stood := { row := hadaTellsUptoRow, standIns := [], harness := (true, "de710a3e03ec0634b649e87529748a4adac492fc81b3502fc5c4b4744e6196e8"), looks := true }, kinds := [], alts := [], laidByText := true, laidKinds := [.handle], laidTests := true, laidLooks := .later }
def HadaTellsUptoCardSaid : Prop := Claim7.holds Tryd.pinned (.plain (OpenSpec.upto hadaTellsSpec)) hadaTellsUptoCard
end Rows
end Go.Proofs.YtidmfodbmmkcmaaDoor
