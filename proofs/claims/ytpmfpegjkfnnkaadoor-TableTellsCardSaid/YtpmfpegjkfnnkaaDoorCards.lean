/-
  DERIVED. GIVEN WITH THE SEED: THE CARDS: each row of YtpmfpegjkfnnkaaDoorRows.lean that lists a variable, with what it lists TIED to the program's text (the seventh form; the later family's looks); each row that meets fmt, with fmt's text TOLD by the authors' own Lean function (tested against real Go, not proved from fmt's source: count such statements apart). THE CARD IS WHAT COUNTS. Prove the row's statement (the work); the ties are given (YtpmfpegjkfnnkaaDoorTie.lean); close each card by the builder's one call (the guide's Derived/Test/ToyasCard.lean, 'card_holds'). Laid BY PROGRAM, IN A SANDBOX (cutbox-door.mjs). By AI agents, Wed Nov 11 2026. No macro, syntax, notation, axiom, sorry.
-/
import Derived.Test.YtpmfpegjkfnnkaaDoorRows
import GoSem.ClaimSeven
namespace Go.Proofs.YtpmfpegjkfnnkaaDoor
namespace Rows

/-- THE TIED CARD OF 'assayerlaw4.TableHoles'. -/
def tableHolesCard : Claim7 := { stood := { row := tableHolesRow, standIns := [], harness := (true, "debee44461f15a95e8098e4174456062af1cd92f1e08ce2e7f10e724a8d233e0"), looks := true }, kinds := [], alts := [], laidByText := true, laidKinds := [.handle], laidTests := true, laidLooks := .later }
def TableHolesCardSaid : Prop := Claim7.holds Tryd.pinned (.plain (OpenSpec.ofChange tableHolesSpec)) tableHolesCard

/-- THE TIED CARD OF 'assayerlaw4.TableClash'. -/
def tableClashCard : Claim7 := { stood := { row := tableClashRow, standIns := [], harness := (true, "debee44461f15a95e8098e4174456062af1cd92f1e08ce2e7f10e724a8d233e0"), looks := true }, kinds := [], alts := [], laidByText := true, laidKinds := [.handle], laidTests := true, laidLooks := .later }
def TableClashCardSaid : Prop := Claim7.holds Tryd.pinned (.plain (OpenSpec.ofChange tableClashSpec)) tableClashCard

/-- THE TIED CARD OF 'assayerlaw4.TableTells'. -/
def tableTellsCard : Claim7 := { stood := { row := tableTellsRow, standIns := [], harness := (true, "debee44461f15a95e8098e4174456062af1cd92f1e08ce2e7f10e724a8d233e0"), looks := true }, kinds := [], alts := [], laidByText := true, laidKinds := [.handle], laidTests := true, laidLooks := .later }
def TableTellsCardSaid : Prop := Claim7.holds Tryd.pinned (.plain (OpenSpec.ofChange tableTellsSpec)) tableTellsCard

/-- THE SECOND FORM's CARD OF 'assayerlaw4.TableHoles'. -/
def tableHolesUptoCard : Claim7 := { stood := { row := tableHolesUptoRow, standIns := [], harness := (true, "debee44461f15a95e8098e4174456062af1cd92f1e08ce2e7f10e724a8d233e0"), looks := true }, kinds := [], alts := [], laidByText := true, laidKinds := [.handle], laidTests := true, laidLooks := .later }
def TableHolesUptoCardSaid : Prop := Claim7.holds Tryd.pinned (.plain (OpenSpec.upto tableHolesSpec)) tableHolesUptoCard

/-- THE SECOND FORM's CARD OF 'assayerlaw4.TableClash'. -/
def tableClashUptoCard : Claim7 := { stood := { row := tableClashUptoRow, standIns := [], harness := (true, "debee44461f15a95e8098e4174456062af1cd92f1e08ce2e7f10e724a8d233e0"), looks := true }, kinds := [], alts := [], laidByText := true, laidKinds := [.handle], laidTests := true, laidLooks := .later }
def TableClashUptoCardSaid : Prop := Claim7.holds Tryd.pinned (.plain (OpenSpec.upto tableClashSpec)) tableClashUptoCard

/-- THE SECOND FORM's CARD OF 'assayerlaw4.TableTells'. -/
def tableTellsUptoCard : Claim7 := { stood := { row := tableTellsUptoRow, standIns := [], harness := (true, "debee44461f15a95e8098e4174456062af1cd92f1e08ce2e7f10e724a8d233e0"), looks := true }, kinds := [], alts := [], laidByText := true, laidKinds := [.handle], laidTests := true, laidLooks := .later }
def TableTellsUptoCardSaid : Prop := Claim7.holds Tryd.pinned (.plain (OpenSpec.upto tableTellsSpec)) tableTellsUptoCard
end Rows
end Go.Proofs.YtpmfpegjkfnnkaaDoor
