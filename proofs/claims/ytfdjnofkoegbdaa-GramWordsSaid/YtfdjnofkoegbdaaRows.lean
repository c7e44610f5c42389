/-
  No cell of these rows narrows 'for every input' (looked for: loops, veiled, ifaces, maps, wideKeys, modest, calm, conditions, laid).
  DERIVED. THE GIVEN ROWS OF THIS SEAT. 2 by the template 'for every input the law returns true; each argument reads behind the call as it read before'; 0 by the template 'total and deterministic' (their statements: YtfdjnofkoegbdaaTotals.lean).
  GIVEN WITH THE SEED: the statements are not yours to turn. If you find one false, say at which input.
  Laid BY PROGRAM, IN A SANDBOX (cutbox-rows.mjs): the forced cells as the released guide's own fill.sh prints them over the translation eb8c613e48df2dda… (all of the seat's roots in one cut). By AI agents, Wed Nov 11 2026. No macro, syntax, notation, axiom, sorry.
-/
import Derived.Test.YtfdjnofkoegbdaaChecked
import GoSem.Claim
import GoSem.ClaimJoined
import GoSem.ClaimMapViews
import Derived.JoinedTies
import Derived.KernelRfl
namespace Go.Proofs.Ytfdjnofkoegbdaa
/- THE CELL 'sum', in the pinned program and in every row, IS THE sha256 OF THE DUMP (.gsa) THAT YtfdjnofkoegbdaaProg.lean LOADS. Nothing in Lean hashes anything: it is a label: what it is worth is what the hold of that sum in a sandbox is worth. -/
noncomputable def Try.pinned : Pinned := { name := "ytfdjnofkoegbdaa", sum := "eb8c613e48df2dda5cd25c8f2c84acf9b1e03e7e7d610d3dcb2a6fc9d75a0ed5", checked := Try.checked }
namespace Rows
def none {H : Type} : Left H := { results := [], args := [] }

/-- 'assayerlaw4.GramMore': WHATEVER THE INPUT: true; the input reads as it did. -/
def gramMoreSpec : ChangeSpec := { name := "gramMore", fn := fun _ => fun
  | [d1, d2, d3] => { results := [.lit (.bool true)], args := [d1, d2, d3] }
  | _ => none }
def gramMoreRow : OpenClaim := { program := "ytfdjnofkoegbdaa", sum := "eb8c613e48df2dda5cd25c8f2c84acf9b1e03e7e7d610d3dcb2a6fc9d75a0ed5", func := "assayer/assayerlaw4.GramMore", spec := "gramMore", apart := false }
def GramMoreSaid : Prop := gramMoreRow.holds Try.pinned (OpenSpec.ofChange gramMoreSpec)

/-- ITS FALSE NEIGHBOUR: 'it returns false'. Refute it at one input. -/
def gramMoreWrong : ChangeSpec := { name := "gramMore", fn := fun _ => fun
  | [d1, d2, d3] => { results := [.lit (.bool false)], args := [d1, d2, d3] }
  | _ => none }
def GramMoreWrongFalsely : Prop := gramMoreRow.holds Try.pinned (OpenSpec.ofChange gramMoreWrong)

/-- 'assayerlaw4.GramWords': WHATEVER THE INPUT: true; the input reads as it did. -/
def gramWordsSpec : ChangeSpec := { name := "gramWords", fn := fun _ => fun
  | [d1, d2, d3] => { results := [.lit (.bool true)], args := [d1, d2, d3] }
  | _ => none }
def gramWordsRow : OpenClaim := { program := "ytfdjnofkoegbdaa", sum := "eb8c613e48df2dda5cd25c8f2c84acf9b1e03e7e7d610d3dcb2a6fc9d75a0ed5", func := "assayer/assayerlaw4.GramWords", spec := "gramWords", apart := false }
def GramWordsSaid : Prop := gramWordsRow.holds Try.pinned (OpenSpec.ofChange gramWordsSpec)

/-- ITS FALSE NEIGHBOUR: 'it returns false'. Refute it at one input. -/
def gramWordsWrong : ChangeSpec := { name := "gramWords", fn := fun _ => fun
  | [d1, d2, d3] => { results := [.lit (.bool false)], args := [d1, d2, d3] }
  | _ => none }
def GramWordsWrongFalsely : Prop := gramWordsRow.holds Try.pinned (OpenSpec.ofChange gramWordsWrong)

/- THE SECOND FORM. 'bulk': how many values and letters a reading holds, each counted each time it is reached (what is shared counts as often as it is met; a slice's spare places count too). A statement '..UptoSaid' is the law's where the arguments, and the package variables that the reading takes, are together of bulk at most 1048576: NARROWER than '..Said'. Prove '..Said' where nothing that the law and all that it calls make is longer than what came in: it says more and counts as full. Else prove '..UptoSaid'. A law counts once. -/
mutual
def uptoBulk {H : Type} : DataW H → Nat
  | .lit (.string bytes) => bytes.length + 1
  | .lit _ => 1
  | .nil => 1
  | .ptr d => uptoBulk d + 1
  | .slice elems spare => uptoBulkAll elems + uptoBulkAll spare + 1
  | .agg parts => uptoBulkAll parts + 1
  | .iface _ d => uptoBulk d + 1
  | .map entries => uptoBulkEntries entries + 1
  | .held _ => 1
def uptoBulkAll {H : Type} : List (DataW H) → Nat
  | [] => 0
  | d :: r => uptoBulk d + uptoBulkAll r
def uptoBulkEntries {H : Type} : List (Lit × DataW H) → Nat
  | [] => 0
  | x :: r => uptoBulkEntry x + uptoBulkEntries r
def uptoBulkEntry {H : Type} : Lit × DataW H → Nat
  | (.string bytes, d) => bytes.length + uptoBulk d + 1
  | (_, d) => uptoBulk d + 1
 end
def uptoSmall : (H : Type) → List (DataW H) → Bool := fun _ ds => decide (uptoBulkAll ds ≤ 1048576)
def OpenSpec.upto (s : _root_.Go.ChangeSpec) : _root_.Go.OpenSpec := { _root_.Go.OpenSpec.ofChange s with cond := some uptoSmall }

/-- 'assayerlaw4.GramMore', WHERE WHAT IT READS IS OF BULK AT MOST 1048576: true; the input reads as it did. -/
def gramMoreUptoRow : OpenClaim := { program := "ytfdjnofkoegbdaa", sum := "eb8c613e48df2dda5cd25c8f2c84acf9b1e03e7e7d610d3dcb2a6fc9d75a0ed5", func := "assayer/assayerlaw4.GramMore", spec := "gramMore", apart := false, narrowed := true }
def GramMoreUptoSaid : Prop := gramMoreUptoRow.holds Try.pinned (OpenSpec.upto gramMoreSpec)

/-- 'assayerlaw4.GramWords', WHERE WHAT IT READS IS OF BULK AT MOST 1048576: true; the input reads as it did. -/
def gramWordsUptoRow : OpenClaim := { program := "ytfdjnofkoegbdaa", sum := "eb8c613e48df2dda5cd25c8f2c84acf9b1e03e7e7d610d3dcb2a6fc9d75a0ed5", func := "assayer/assayerlaw4.GramWords", spec := "gramWords", apart := false, narrowed := true }
def GramWordsUptoSaid : Prop := gramWordsUptoRow.holds Try.pinned (OpenSpec.upto gramWordsSpec)

end Rows
end Go.Proofs.Ytfdjnofkoegbdaa
