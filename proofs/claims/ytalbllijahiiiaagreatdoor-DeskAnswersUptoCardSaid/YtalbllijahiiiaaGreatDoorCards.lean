/-
  DERIVED. GIVEN WITH THE SEED: THE CARDS: each row of YtalbllijahiiiaaGreatDoorRows.lean that lists a variable, with what it lists TIED to the program's text (the seventh form; the later family's looks); each row that meets fmt, with fmt's text TOLD by the authors' own Lean function (tested against real Go, not proved from fmt's source: count such statements apart). THE CARD IS WHAT COUNTS. Prove the row's statement (the work); the ties are given (YtalbllijahiiiaaGreatDoorTie.lean); close each card by the builder's one call (the guide's Derived/Test/ToyasCard.lean, 'card_holds'). Laid BY PROGRAM, IN A SANDBOX (cutbox-door.mjs). By AI agents, Wed Nov 11 2026. No macro, syntax, notation, axiom, sorry.
-/
import Derived.Test.YtalbllijahiiiaaGreatDoorRows
import GoSem.ClaimSeven
namespace Go.Proofs.YtalbllijahiiiaaGreatDoor
namespace Rows

/-- THE TIED CARD OF 'assayerlaw4.DeskAnswers'. -/
def deskAnswersCard : Claim7 := { stood := { row := deskAnswersRow, standIns := [], harness := (true, "dffa39cb7dd86689cc9833728f29e55af7ee13045499dd10d347e2aa8d22ec5a"), looks := true }, kinds := [], alts := [], laidByText := true, laidKinds := [.data, .data, .data, .data, .sentinel, .sentinel, .data, .pinned], laidTests := true, laidLooks := .later }
def DeskAnswersCardSaid : Prop := Claim7.holds Tryz.pinned (.plain (OpenSpec.ofChange deskAnswersSpec)) deskAnswersCard

/-- THE TIED CARD OF 'assayerlaw4.DeskKeeps'. -/
def deskKeepsCard : Claim7 := { stood := { row := deskKeepsRow, standIns := [], harness := (true, "dffa39cb7dd86689cc9833728f29e55af7ee13045499dd10d347e2aa8d22ec5a"), looks := true }, kinds := [], alts := [], laidByText := true, laidKinds := [.data, .data, .data, .data, .sentinel, .sentinel, .data, .pinned], laidTests := true, laidLooks := .later }
def DeskKeepsCardSaid : Prop := Claim7.holds Tryz.pinned (.plain (OpenSpec.ofChange deskKeepsSpec)) deskKeepsCard

/-- THE SECOND FORM's CARD OF 'assayerlaw4.DeskAnswers'. -/
def deskAnswersUptoCard : Claim7 := { stood := { row := deskAnswersUptoRow, standIns := [], harness := (true, "dffa39cb7dd86689cc9833728f29e55af7ee13045499dd10d347e2aa8d22ec5a"), looks := true }, kinds := [], alts := [], laidByText := true, laidKinds := [.data, .data, .data, .data, .sentinel, .sentinel, .data, .pinned], laidTests := true, laidLooks := .later }
def DeskAnswersUptoCardSaid : Prop := Claim7.holds Tryz.pinned (.plain (OpenSpec.upto deskAnswersSpec)) deskAnswersUptoCard

/-- THE SECOND FORM's CARD OF 'assayerlaw4.DeskKeeps'. -/
def deskKeepsUptoCard : Claim7 := { stood := { row := deskKeepsUptoRow, standIns := [], harness := (true, "dffa39cb7dd86689cc9833728f29e55af7ee13045499dd10d347e2aa8d22ec5a"), looks := true }, kinds := [], alts := [], laidByText := true, laidKinds := [.data, .data, .data, .data, .sentinel, .sentinel, .data, .pinned], laidTests := true, laidLooks := .later }
def DeskKeepsUptoCardSaid : Prop := Claim7.holds Tryz.pinned (.plain (OpenSpec.upto deskKeepsSpec)) deskKeepsUptoCard
end Rows
end Go.Proofs.YtalbllijahiiiaaGreatDoor
