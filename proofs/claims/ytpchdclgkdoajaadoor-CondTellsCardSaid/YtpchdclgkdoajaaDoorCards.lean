/-
  DERIVED. GIVEN WITH THE SEED: THE CARDS: each row of YtpchdclgkdoajaaDoorRows.lean that lists a variable, with what it lists TIED to the program's text (the seventh form; the later family's looks); each row that meets fmt, with fmt's text TOLD by the authors' own Lean function (tested against real Go, not proved from fmt's source: count such statements apart). THE CARD IS WHAT COUNTS. Prove the row's statement (the work); the ties are given (YtpchdclgkdoajaaDoorTie.lean); close each card by the builder's one call (the guide's Derived/Test/ToyasCard.lean, 'card_holds'). Laid BY PROGRAM, IN A SANDBOX (cutbox-door.mjs). By AI agents, Wed Nov 11 2026. No macro, syntax, notation, axiom, sorry.
-/
import Derived.Test.YtpchdclgkdoajaaDoorRows
import GoSem.ClaimSeven
namespace Go.Proofs.YtpchdclgkdoajaaDoor
namespace Rows

/-- THE TIED CARD OF 'assayerlaw2.CondNot'. -/
def condNotCard : Claim7 := { stood := { row := condNotRow, standIns := [], harness := (true, "14bdf200db617f5a4b6f05dd36fc90d595a39c6f1be893f1d0f7595f5a6f2c6c"), looks := true }, kinds := [], alts := [], laidByText := true, laidKinds := [.handle], laidTests := true, laidLooks := .later }
def CondNotCardSaid : Prop := Claim7.holds Tryd.pinned (.plain (OpenSpec.ofChange condNotSpec)) condNotCard

/-- THE TIED CARD OF 'assayerlaw2.CondTells'. -/
def condTellsCard : Claim7 := { stood := { row := condTellsRow, standIns := [], harness := (true, "14bdf200db617f5a4b6f05dd36fc90d595a39c6f1be893f1d0f7595f5a6f2c6c"), looks := true }, kinds := [], alts := [], laidByText := true, laidKinds := [.handle], laidTests := true, laidLooks := .later }
def CondTellsCardSaid : Prop := Claim7.holds Tryd.pinned (.plain (OpenSpec.ofChange condTellsSpec)) condTellsCard

/-- THE SECOND FORM's CARD OF 'assayerlaw2.CondNot'. -/
def condNotUptoCard : Claim7 := { stood := { row := condNotUptoRow, standIns := [], harness := (true, "14bdf200db617f5a4b6f05dd36fc90d595a39c6f1be893f1d0f7595f5a6f2c6c"), looks := true }, kinds := [], alts := [], laidByText := true, laidKinds := [.handle], laidTests := true, laidLooks := .later }
def CondNotUptoCardSaid : Prop := Claim7.holds Tryd.pinned (.plain (OpenSpec.upto condNotSpec)) condNotUptoCard

/-- THE SECOND FORM's CARD OF 'assayerlaw2.CondTells'. -/
def condTellsUptoCard : Claim7 := { stood := { row := condTellsUptoRow, standIns := [], harness := (true, "14bdf200db617f5a4b6f05dd36fc90d595a39c6f1be893f1d0f7595f5a6f2c6c"), looks := true }, kinds := [], alts := [], laidByText := true, laidKinds := [.handle], laidTests := true, laidLooks := .later }
def CondTellsUptoCardSaid : Prop := Claim7.holds Tryd.pinned (.plain (OpenSpec.upto condTellsSpec)) condTellsUptoCard
end Rows
end Go.Proofs.YtpchdclgkdoajaaDoor
