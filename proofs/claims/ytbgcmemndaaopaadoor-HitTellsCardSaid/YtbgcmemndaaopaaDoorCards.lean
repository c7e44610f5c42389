/-
  DERIVED. GIVEN WITH THE SEED: THE CARDS: each row of YtbgcmemndaaopaaDoorRows.lean that lists a variable, with what it lists TIED to the program's text (the seventh form; the later family's looks); each row that meets fmt, with fmt's text TOLD by the authors' own Lean function (tested against real Go, not proved from fmt's source: count such statements apart). THE CARD IS WHAT COUNTS. Prove the row's statement (the work); the ties are given (YtbgcmemndaaopaaDoorTie.lean); close each card by the builder's one call (the guide's Derived/Test/ToyasCard.lean, 'card_holds'). Laid BY PROGRAM, IN A SANDBOX (cutbox-door.mjs). By AI agents, Wed Nov 11 2026. No macro, syntax, notation, axiom, sorry.
-/
import Derived.Test.YtbgcmemndaaopaaDoorRows
import GoSem.ClaimSeven
namespace Go.Proofs.YtbgcmemndaaopaaDoor
namespace Rows

/-- THE TIED CARD OF 'assayerlaw4.HitTells'. -/
def hitTellsCard : Claim7 := { stood := { row := hitTellsRow, standIns := [], harness := (true, "c99bc914575dc513ada676d1476b44f4f93af4bee71dc77a18ea86fdca5ce63a"), looks := true }, kinds := [], alts := [], laidByText := true, laidKinds := [.handle], laidTests := true, laidLooks := .later }
def HitTellsCardSaid : Prop := Claim7.holds Tryd.pinned (.plain (OpenSpec.ofChange hitTellsSpec)) hitTellsCard

/-- THE SECOND FORM's CARD OF 'assayerlaw4.HitTells'. -/
def hitTellsUptoCard : Claim7 := { stood := { row := hitTellsUptoRow, standIns := [], harness := (true, "c99bc914575dc513ada676d1476b44f4f93af4bee71dc77a18ea86fdca5ce63a"), looks := true }, kinds := [], alts := [], laidByText := true, laidKinds := [.handle], laidTests := true, laidLooks := .later }
def HitTellsUptoCardSaid : Prop := Claim7.holds Tryd.pinned (.plain (OpenSpec.upto hitTellsSpec)) hitTellsUptoCard
end Rows
end Go.Proofs.YtbgcmemndaaopaaDoor
