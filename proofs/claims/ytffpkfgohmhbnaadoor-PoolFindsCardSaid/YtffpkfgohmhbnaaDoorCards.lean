/-
  DERIVED. GIVEN WITH THE SEED: THE CARDS: each row of YtffpkfgohmhbnaaDoorRows.lean that lists a variable, with what it lists TIED to the program's text (the seventh form; the later family's looks); each row that meets fmt, with fmt's text TOLD by the authors' own Lean function (tested against real Go, not proved from fmt's source: count such statements apart). THE CARD IS WHAT COUNTS. Prove the row's statement (the work); the ties are given (YtffpkfgohmhbnaaDoorTie.lean); close each card by the builder's one call (the guide's Derived/Test/ToyasCard.lean, 'card_holds'). Laid BY PROGRAM, IN A SANDBOX (cutbox-door.mjs). By AI agents, Wed Nov 11 2026. No macro, syntax, notation, axiom, sorry.
-/
import Derived.Test.YtffpkfgohmhbnaaDoorRows
import GoSem.ClaimSeven
namespace Go.Proofs.YtffpkfgohmhbnaaDoor
namespace Rows

/-- THE TIED CARD OF 'assayerlaw4.PoolFinds'. -/
def poolFindsCard : Claim7 := { stood := { row := poolFindsRow, standIns := [], harness := (true, "21831b8a967c71e5fbd7f77f9254a8a12f7beda0155bc505841a3568f87be536"), looks := true }, kinds := [], alts := [], laidByText := true, laidKinds := [.handle], laidTests := true, laidLooks := .later }
def PoolFindsCardSaid : Prop := Claim7.holds Tryd.pinned (.plain (OpenSpec.ofChange poolFindsSpec)) poolFindsCard

/-- THE SECOND FORM's CARD OF 'assayerlaw4.PoolFinds'. -/
def poolFindsUptoCard : Claim7 := { stood := { row := poolFindsUptoRow, standIns := [], harness := (true, "21831b8a967c71e5fbd7f77f9254a8a12f7beda0155bc505841a3568f87be536"), looks := true }, kinds := [], alts := [], laidByText := true, laidKinds := [.handle], laidTests := true, laidLooks := .later }
def PoolFindsUptoCardSaid : Prop := Claim7.holds Tryd.pinned (.plain (OpenSpec.upto poolFindsSpec)) poolFindsUptoCard
end Rows
end Go.Proofs.YtffpkfgohmhbnaaDoor
