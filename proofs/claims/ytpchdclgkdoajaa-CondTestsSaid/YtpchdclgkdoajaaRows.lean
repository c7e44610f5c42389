/-
  No cell of these rows narrows 'for every input' (looked for: loops, veiled, ifaces, maps, wideKeys, modest, calm, conditions, laid).
  DERIVED. THE GIVEN ROWS OF THIS SEAT. 2 by the template 'for every input the law returns true; each argument reads behind the call as it read before'; 0 by the template 'total and deterministic' (their statements: YtpchdclgkdoajaaTotals.lean).
  GIVEN WITH THE SEED: the statements are not yours to turn. If you find one false, say at which input.
  Laid BY PROGRAM, IN A SANDBOX (cutbox-rows.mjs): the forced cells as the released guide's own fill.sh prints them over the translation 233e92425dd18bd3… (all of the seat's roots in one cut). By AI agents, Wed Nov 11 2026. No macro, syntax, notation, axiom, sorry.
-/
import Derived.Test.YtpchdclgkdoajaaChecked
import GoSem.Claim
import GoSem.ClaimJoined
import GoSem.ClaimMapViews
import Derived.JoinedTies
import Derived.KernelRfl
namespace Go.Proofs.Ytpchdclgkdoajaa
/- THE CELL 'sum', in the pinned program and in every row, IS THE sha256 OF THE DUMP (.gsa) THAT YtpchdclgkdoajaaProg.lean LOADS. Nothing in Lean hashes anything: it is a label: what it is worth is what the hold of that sum in a sandbox is worth. -/
noncomputable def Try.pinned : Pinned := { name := "ytpchdclgkdoajaa", sum := "233e92425dd18bd38dac89b7ae091745ac6389472fadf72a8caf057a96421a04", checked := Try.checked }
namespace Rows
def none {H : Type} : Left H := { results := [], args := [] }

/-- 'assayerlaw2.CondMore': WHATEVER THE INPUT: true; the input reads as it did. -/
def condMoreSpec : ChangeSpec := { name := "condMore", fn := fun _ => fun
  | [d1, d2, d3, d4] => { results := [.lit (.bool true)], args := [d1, d2, d3, d4] }
  | _ => none }
def condMoreRow : OpenClaim := { program := "ytpchdclgkdoajaa", sum := "233e92425dd18bd38dac89b7ae091745ac6389472fadf72a8caf057a96421a04", func := "assayer/assayerlaw2.CondMore", spec := "condMore", unfollowed := true, recurses := true, apart := false }
def CondMoreSaid : Prop := condMoreRow.holds Try.pinned (OpenSpec.ofChange condMoreSpec)

/-- ITS FALSE NEIGHBOUR: 'it returns false'. Refute it at one input. -/
def condMoreWrong : ChangeSpec := { name := "condMore", fn := fun _ => fun
  | [d1, d2, d3, d4] => { results := [.lit (.bool false)], args := [d1, d2, d3, d4] }
  | _ => none }
def CondMoreWrongFalsely : Prop := condMoreRow.holds Try.pinned (OpenSpec.ofChange condMoreWrong)

/-- 'assayerlaw2.CondTests': WHATEVER THE INPUT: true; the input reads as it did. -/
def condTestsSpec : ChangeSpec := { name := "condTests", fn := fun _ => fun
  | [d1, d2] => { results := [.lit (.bool true)], args := [d1, d2] }
  | _ => none }
def condTestsRow : OpenClaim := { program := "ytpchdclgkdoajaa", sum := "233e92425dd18bd38dac89b7ae091745ac6389472fadf72a8caf057a96421a04", func := "assayer/assayerlaw2.CondTests", spec := "condTests", unfollowed := true, recurses := true, apart := false }
def CondTestsSaid : Prop := condTestsRow.holds Try.pinned (OpenSpec.ofChange condTestsSpec)

/-- ITS FALSE NEIGHBOUR: 'it returns false'. Refute it at one input. -/
def condTestsWrong : ChangeSpec := { name := "condTests", fn := fun _ => fun
  | [d1, d2] => { results := [.lit (.bool false)], args := [d1, d2] }
  | _ => none }
def CondTestsWrongFalsely : Prop := condTestsRow.holds Try.pinned (OpenSpec.ofChange condTestsWrong)

/- THE SECOND FORM. 'bulk': how many values and letters a reading holds, each counted each time it is reached (what is shared counts as often as it is met; a slice's spare places count too). A statement '..UptoSaid' is the law's where the arguments, and the package variables that the reading takes, are together of bulk at most 1048576: NARROWER than '..Said'. Prove '..Said' where nothing that the law and all that it calls make is longer than what came in: it says more and counts as full. Else prove '..UptoSaid'. A law counts once. -/
mutual
def uptoBulk {H : Type} : DataW H → Nat
  | .lit (.string bytes) => bytes.length + 1
  | .lit _ => 1
  | .nil => 1
  | .ptr d => uptoBulk d + 1
  | .slice elems spare => uptoBulkAll elems + uptoBulkAll spare + 1
  | .agg parts => uptoBulkAll parts + 1
  | .iface _ d => uptoBulk d + 1
  | .map entries => uptoBulkEntries entries + 1
  | .held _ => 1
def uptoBulkAll {H : Type} : List (DataW H) → Nat
  | [] => 0
  | d :: r => uptoBulk d + uptoBulkAll r
def uptoBulkEntries {H : Type} : List (Lit × DataW H) → Nat
  | [] => 0
  | x :: r => uptoBulkEntry x + uptoBulkEntries r
def uptoBulkEntry {H : Type} : Lit × DataW H → Nat
  | (.string bytes, d) => bytes.length + uptoBulk d + 1
  | (_, d) => uptoBulk d + 1
 end
def uptoSmall : (H : Type) → List (DataW H) → Bool := fun _ ds => decide (uptoBulkAll ds ≤ 1048576)
def OpenSpec.upto (s : _root_.Go.ChangeSpec) : _root_.Go.OpenSpec := { _root_.Go.OpenSpec.ofChange s with cond := some uptoSmall }

/-- 'assayerlaw2.CondMore', WHERE WHAT IT READS IS OF BULK AT MOST 1048576: true; the input reads as it did. -/
def condMoreUptoRow : OpenClaim := { program := "ytpchdclgkdoajaa", sum := "233e92425dd18bd38dac89b7ae091745ac6389472fadf72a8caf057a96421a04", func := "assayer/assayerlaw2.CondMore", spec := "condMore", unfollowed := true, recurses := true, apart := false, narrowed := true }
def CondMoreUptoSaid : Prop := condMoreUptoRow.holds Try.pinned (OpenSpec.upto condMoreSpec)

/-- 'assayerlaw2.CondTests', WHERE WHAT IT READS IS OF BULK AT MOST 1048576: true; the input reads as it did. -/
def condTestsUptoRow : OpenClaim := { program := "ytpchdclgkdoajaa", sum := "233e92425dd18bd38dac89b7ae091745ac6389472fadf72a8caf057a96421a04", func := "assayer/assayerlaw2.CondTests", spec := "condTests", unfollowed := true, recurses := true, apart := false, narrowed := true }
def CondTestsUptoSaid : Prop := condTestsUptoRow.holds Try.pinned (OpenSpec.upto condTestsSpec)

end Rows
end Go.Proofs.Ytpchdclgkdoajaa
