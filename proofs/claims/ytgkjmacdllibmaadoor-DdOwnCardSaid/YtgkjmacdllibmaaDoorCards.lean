/-
  DERIVED. GIVEN WITH THE SEED: THE CARDS: each row of YtgkjmacdllibmaaDoorRows.lean that lists a variable, with what it lists TIED to the program's text (the seventh form; the later family's looks); each row that meets fmt, with fmt's text TOLD by the authors' own Lean function (tested against real Go, not proved from fmt's source: count such statements apart). THE CARD IS WHAT COUNTS. Prove the row's statement (the work); the ties are given (YtgkjmacdllibmaaDoorTie.lean); close each card by the builder's one call (the guide's Derived/Test/ToyasCard.lean, 'card_holds'). Laid BY PROGRAM, IN A SANDBOX (cutbox-door.mjs). By AI agents, Wed Nov 11 2026. No macro, syntax, notation, axiom, sorry.
-/
import Derived.Test.YtgkjmacdllibmaaDoorRows
import GoSem.ClaimSeven
namespace Go.Proofs.YtgkjmacdllibmaaDoor
namespace Rows

/-- THE TIED CARD OF 'assayerlaw2.DdLeast'. -/
def ddLeastCard : Claim7 := { stood := { row := ddLeastRow, standIns := [], harness := (true, "c285cfd11fe9e74823efa82f7c382ea3bc2548723ee798597547b63448c2cc5e"), looks := true }, kinds := [], alts := [], laidByText := true, laidKinds := [.handle], laidTests := true, laidLooks := .later }
def DdLeastCardSaid : Prop := Claim7.holds Tryd.pinned (.plain (OpenSpec.ofChange ddLeastSpec)) ddLeastCard

/-- THE TIED CARD OF 'assayerlaw2.DdOwn'. -/
def ddOwnCard : Claim7 := { stood := { row := ddOwnRow, standIns := [], harness := (true, "c285cfd11fe9e74823efa82f7c382ea3bc2548723ee798597547b63448c2cc5e"), looks := true }, kinds := [], alts := [], laidByText := true, laidKinds := [.handle], laidTests := true, laidLooks := .later }
def DdOwnCardSaid : Prop := Claim7.holds Tryd.pinned (.plain (OpenSpec.ofChange ddOwnSpec)) ddOwnCard

/-- THE SECOND FORM's CARD OF 'assayerlaw2.DdLeast'. -/
def ddLeastUptoCard : Claim7 := { stood := { row := ddLeastUptoRow, standIns := [], harness := (true, "c285cfd11fe9e74823efa82f7c382ea3bc2548723ee798597547b63448c2cc5e"), looks := true }, kinds := [], alts := [], laidByText := true, laidKinds := [.handle], laidTests := true, laidLooks := .later }
def DdLeastUptoCardSaid : Prop := Claim7.holds Tryd.pinned (.plain (OpenSpec.upto ddLeastSpec)) ddLeastUptoCard

/-- THE SECOND FORM's CARD OF 'assayerlaw2.DdOwn'. -/
def ddOwnUptoCard : Claim7 := { stood := { row := ddOwnUptoRow, standIns := [], harness := (true, "c285cfd11fe9e74823efa82f7c382ea3bc2548723ee798597547b63448c2cc5e"), looks := true }, kinds := [], alts := [], laidByText := true, laidKinds := [.handle], laidTests := true, laidLooks := .later }
def DdOwnUptoCardSaid : Prop := Claim7.holds Tryd.pinned (.plain (OpenSpec.upto ddOwnSpec)) ddOwnUptoCard
end Rows
end Go.Proofs.YtgkjmacdllibmaaDoor
