/-
  NARROWER THAN 'FOR EVERY INPUT', by the rows' own cells (each row's printed sentence says how): GramPals: laid · GramTells: laid · GramShort: laid.
  DERIVED. THE GIVEN ROWS OF THIS SEAT. 3 by the template 'for every input the law returns true; each argument reads behind the call as it read before'; 0 by the template 'total and deterministic' (their statements: YtfdjnofkoegbdaaDoorTotals.lean).
  GIVEN WITH THE SEED: the statements are not yours to turn. If you find one false, say at which input.
  Laid BY PROGRAM, IN A SANDBOX (cutbox-rows.mjs): the forced cells as the released guide's own fill.sh prints them over the translation 01b8053ba2c390de… (all of the seat's roots in one cut). By AI agents, Wed Nov 11 2026. No macro, syntax, notation, axiom, sorry.
-/
import Derived.Test.YtfdjnofkoegbdaaDoorChecked
import GoSem.Claim
import GoSem.ClaimJoined
import GoSem.ClaimMapViews
import Derived.JoinedTies
import Derived.KernelRfl
namespace Go.Proofs.YtfdjnofkoegbdaaDoor
/- THE CELL 'sum', in the pinned program and in every row, IS THE sha256 OF THE DUMP (.gsa) THAT YtfdjnofkoegbdaaDoorProg.lean LOADS. Nothing in Lean hashes anything: it is a label: what it is worth is what the hold of that sum in a sandbox is worth. -/
noncomputable def Tryd.pinned : Pinned := { name := "ytfdjnofkoegbdaadoor", sum := "01b8053ba2c390de822dd51c0bf9012e1c6d5996258c154719728decb0b32cc3", checked := Tryd.checked }
namespace Rows
def none {H : Type} : Left H := { results := [], args := [] }

/- WHAT THE LISTED PACKAGE-LEVEL VARIABLES READ AS WHEN THE CALL BEGINS. Each datum BY PROGRAM (the guide's laid-datum.mjs) off the statement by which the dump's own 'gosem.cut.vars' lays the variable. In a bare row this is a premise. The card (YtfdjnofkoegbdaaDoorCards.lean) ties it to the program's text. -/
def laid_errors_errorType {H : Type} : DataW H := .iface "internal/reflectlite.rtype" (.agg [.ptr (.lit (.string [101, 114, 114, 111, 114]))])

/-- 'assayerlaw4.GramPals': WHATEVER THE INPUT: true; the input reads as it did. -/
def gramPalsSpec : ChangeSpec := { name := "gramPals", fn := fun _ => fun
  | [d] => { results := [.lit (.bool true)], args := [d] }
  | _ => none }
def gramPalsRow : OpenClaim := { program := "ytfdjnofkoegbdaadoor", sum := "01b8053ba2c390de822dd51c0bf9012e1c6d5996258c154719728decb0b32cc3", func := "assayer/assayerlaw4.GramPals", spec := "gramPals", inPlace := ["internal/reflectlite.ValueOf", "(internal/reflectlite.Value).Type", "(internal/reflectlite.Value).IsNil", "internal/reflectlite.TypeOf", "(internal/reflectlite.Value).Elem", "(internal/reflectlite.Value).Set"], unfollowed := true, recurses := true, named := ["errors.errorType"], apart := false, laid := [("errors.errorType", laid_errors_errorType)] }
def GramPalsSaid : Prop := gramPalsRow.holds Tryd.pinned (OpenSpec.ofChange gramPalsSpec)

/-- ITS FALSE NEIGHBOUR: 'it returns false'. Refute it at one input. -/
def gramPalsWrong : ChangeSpec := { name := "gramPals", fn := fun _ => fun
  | [d] => { results := [.lit (.bool false)], args := [d] }
  | _ => none }
def GramPalsWrongFalsely : Prop := gramPalsRow.holds Tryd.pinned (OpenSpec.ofChange gramPalsWrong)

/-- 'assayerlaw4.GramTells': WHATEVER THE INPUT: true; the input reads as it did. -/
def gramTellsSpec : ChangeSpec := { name := "gramTells", fn := fun _ => fun
  | [d1, d2, d3] => { results := [.lit (.bool true)], args := [d1, d2, d3] }
  | _ => none }
def gramTellsRow : OpenClaim := { program := "ytfdjnofkoegbdaadoor", sum := "01b8053ba2c390de822dd51c0bf9012e1c6d5996258c154719728decb0b32cc3", func := "assayer/assayerlaw4.GramTells", spec := "gramTells", inPlace := ["internal/reflectlite.ValueOf", "(internal/reflectlite.Value).Type", "(internal/reflectlite.Value).IsNil", "internal/reflectlite.TypeOf", "(internal/reflectlite.Value).Elem", "(internal/reflectlite.Value).Set"], unfollowed := true, recurses := true, named := ["errors.errorType"], apart := false, laid := [("errors.errorType", laid_errors_errorType)] }
def GramTellsSaid : Prop := gramTellsRow.holds Tryd.pinned (OpenSpec.ofChange gramTellsSpec)

/-- ITS FALSE NEIGHBOUR: 'it returns false'. Refute it at one input. -/
def gramTellsWrong : ChangeSpec := { name := "gramTells", fn := fun _ => fun
  | [d1, d2, d3] => { results := [.lit (.bool false)], args := [d1, d2, d3] }
  | _ => none }
def GramTellsWrongFalsely : Prop := gramTellsRow.holds Tryd.pinned (OpenSpec.ofChange gramTellsWrong)

/-- 'assayerlaw4.GramShort': WHATEVER THE INPUT: true; the input reads as it did. -/
def gramShortSpec : ChangeSpec := { name := "gramShort", fn := fun _ => fun
  | [d1, d2, d3] => { results := [.lit (.bool true)], args := [d1, d2, d3] }
  | _ => none }
def gramShortRow : OpenClaim := { program := "ytfdjnofkoegbdaadoor", sum := "01b8053ba2c390de822dd51c0bf9012e1c6d5996258c154719728decb0b32cc3", func := "assayer/assayerlaw4.GramShort", spec := "gramShort", inPlace := ["internal/reflectlite.ValueOf", "(internal/reflectlite.Value).Type", "(internal/reflectlite.Value).IsNil", "internal/reflectlite.TypeOf", "(internal/reflectlite.Value).Elem", "(internal/reflectlite.Value).Set"], unfollowed := true, recurses := true, named := ["errors.errorType"], apart := false, laid := [("errors.errorType", laid_errors_errorType)] }
def GramShortSaid : Prop := gramShortRow.holds Tryd.pinned (OpenSpec.ofChange gramShortSpec)

/-- ITS FALSE NEIGHBOUR: 'it returns false'. Refute it at one input. -/
def gramShortWrong : ChangeSpec := { name := "gramShort", fn := fun _ => fun
  | [d1, d2, d3] => { results := [.lit (.bool false)], args := [d1, d2, d3] }
  | _ => none }
def GramShortWrongFalsely : Prop := gramShortRow.holds Tryd.pinned (OpenSpec.ofChange gramShortWrong)

/- THE SECOND FORM. 'bulk': how many values and letters a reading holds, each counted each time it is reached (what is shared counts as often as it is met; a slice's spare places count too). A statement '..UptoSaid' is the law's where the arguments, and the package variables that the reading takes, are together of bulk at most 1048576: NARROWER than '..Said'. Prove '..Said' where nothing that the law and all that it calls make is longer than what came in: it says more and counts as full. Else prove '..UptoSaid'. A law counts once. -/
mutual
def uptoBulk {H : Type} : DataW H → Nat
  | .lit (.string bytes) => bytes.length + 1
  | .lit _ => 1
  | .nil => 1
  | .ptr d => uptoBulk d + 1
  | .slice elems spare => uptoBulkAll elems + uptoBulkAll spare + 1
  | .agg parts => uptoBulkAll parts + 1
  | .iface _ d => uptoBulk d + 1
  | .map entries => uptoBulkEntries entries + 1
  | .held _ => 1
def uptoBulkAll {H : Type} : List (DataW H) → Nat
  | [] => 0
  | d :: r => uptoBulk d + uptoBulkAll r
def uptoBulkEntries {H : Type} : List (Lit × DataW H) → Nat
  | [] => 0
  | x :: r => uptoBulkEntry x + uptoBulkEntries r
def uptoBulkEntry {H : Type} : Lit × DataW H → Nat
  | (.string bytes, d) => bytes.length + uptoBulk d + 1
  | (_, d) => uptoBulk d + 1
 end
def uptoSmall : (H : Type) → List (DataW H) → Bool := fun _ ds => decide (uptoBulkAll ds ≤ 1048576)
def OpenSpec.upto (s : _root_.Go.ChangeSpec) : _root_.Go.OpenSpec := { _root_.Go.OpenSpec.ofChange s with cond := some uptoSmall }

/-- 'assayerlaw4.GramPals', WHERE WHAT IT READS IS OF BULK AT MOST 1048576: true; the input reads as it did. -/
def gramPalsUptoRow : OpenClaim := { program := "ytfdjnofkoegbdaadoor", sum := "01b8053ba2c390de822dd51c0bf9012e1c6d5996258c154719728decb0b32cc3", func := "assayer/assayerlaw4.GramPals", spec := "gramPals", inPlace := ["internal/reflectlite.ValueOf", "(internal/reflectlite.Value).Type", "(internal/reflectlite.Value).IsNil", "internal/reflectlite.TypeOf", "(internal/reflectlite.Value).Elem", "(internal/reflectlite.Value).Set"], unfollowed := true, recurses := true, named := ["errors.errorType"], apart := false, laid := [("errors.errorType", laid_errors_errorType)], narrowed := true }
def GramPalsUptoSaid : Prop := gramPalsUptoRow.holds Tryd.pinned (OpenSpec.upto gramPalsSpec)

/-- 'assayerlaw4.GramTells', WHERE WHAT IT READS IS OF BULK AT MOST 1048576: true; the input reads as it did. -/
def gramTellsUptoRow : OpenClaim := { program := "ytfdjnofkoegbdaadoor", sum := "01b8053ba2c390de822dd51c0bf9012e1c6d5996258c154719728decb0b32cc3", func := "assayer/assayerlaw4.GramTells", spec := "gramTells", inPlace := ["internal/reflectlite.ValueOf", "(internal/reflectlite.Value).Type", "(internal/reflectlite.Value).IsNil", "internal/reflectlite.TypeOf", "(internal/reflectlite.Value).Elem", "(internal/reflectlite.Value).Set"], unfollowed := true, recurses := true, named := ["errors.errorType"], apart := false, laid := [("errors.errorType", laid_errors_errorType)], narrowed := true }
def GramTellsUptoSaid : Prop := gramTellsUptoRow.holds Tryd.pinned (OpenSpec.upto gramTellsSpec)

/-- 'assayerlaw4.GramShort', WHERE WHAT IT READS IS OF BULK AT MOST 1048576: true; the input reads as it did. -/
def gramShortUptoRow : OpenClaim := { program := "ytfdjnofkoegbdaadoor", sum := "01b8053ba2c390de822dd51c0bf9012e1c6d5996258c154719728decb0b32cc3", func := "assayer/assayerlaw4.GramShort", spec := "gramShort", inPlace := ["internal/reflectlite.ValueOf", "(internal/reflectlite.Value).Type", "(internal/reflectlite.Value).IsNil", "internal/reflectlite.TypeOf", "(internal/reflectlite.Value).Elem", "(internal/reflectlite.Value).Set"], unfollowed := true, recurses := true, named := ["errors.errorType"], apart := false, laid := [("errors.errorType", laid_errors_errorType)], narrowed := true }
def GramShortUptoSaid : Prop := gramShortUptoRow.holds Tryd.pinned (OpenSpec.upto gramShortSpec)

end Rows
end Go.Proofs.YtfdjnofkoegbdaaDoor
