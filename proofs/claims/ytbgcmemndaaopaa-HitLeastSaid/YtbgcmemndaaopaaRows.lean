/-
  No cell of these rows narrows 'for every input' (looked for: loops, veiled, ifaces, maps, wideKeys, modest, calm, conditions, laid).
  DERIVED. THE GIVEN ROWS OF THIS SEAT. 3 by the template 'for every input the law returns true; each argument reads behind the call as it read before'; 0 by the template 'total and deterministic' (their statements: YtbgcmemndaaopaaTotals.lean).
  GIVEN WITH THE SEED: the statements are not yours to turn. If you find one false, say at which input.
  Laid BY PROGRAM, IN A SANDBOX (cutbox-rows.mjs): the forced cells as the released guide's own fill.sh prints them over the translation e045d86be94c29fd… (all of the seat's roots in one cut). By AI agents, Wed Nov 11 2026. No macro, syntax, notation, axiom, sorry.
-/
import Derived.Test.YtbgcmemndaaopaaChecked
import GoSem.Claim
import GoSem.ClaimJoined
import GoSem.ClaimMapViews
import Derived.JoinedTies
import Derived.KernelRfl
namespace Go.Proofs.Ytbgcmemndaaopaa
/- THE CELL 'sum', in the pinned program and in every row, IS THE sha256 OF THE DUMP (.gsa) THAT YtbgcmemndaaopaaProg.lean LOADS. Nothing in Lean hashes anything: it is a label: what it is worth is what the hold of that sum in a sandbox is worth. -/
noncomputable def Try.pinned : Pinned := { name := "ytbgcmemndaaopaa", sum := "e045d86be94c29fdbe1015c214031a450b601ecfa246f24554df774ba7916220", checked := Try.checked }
namespace Rows
def none {H : Type} : Left H := { results := [], args := [] }

/-- 'assayerlaw4.HitEach': WHATEVER THE INPUT: true; the input reads as it did. -/
def hitEachSpec : ChangeSpec := { name := "hitEach", fn := fun _ => fun
  | [d1, d2] => { results := [.lit (.bool true)], args := [d1, d2] }
  | _ => none }
def hitEachRow : OpenClaim := { program := "ytbgcmemndaaopaa", sum := "e045d86be94c29fdbe1015c214031a450b601ecfa246f24554df774ba7916220", func := "assayer/assayerlaw4.HitEach", spec := "hitEach", unfollowed := true, recurses := true, apart := false }
def HitEachSaid : Prop := hitEachRow.holds Try.pinned (OpenSpec.ofChange hitEachSpec)

/-- ITS FALSE NEIGHBOUR: 'it returns false'. Refute it at one input. -/
def hitEachWrong : ChangeSpec := { name := "hitEach", fn := fun _ => fun
  | [d1, d2] => { results := [.lit (.bool false)], args := [d1, d2] }
  | _ => none }
def HitEachWrongFalsely : Prop := hitEachRow.holds Try.pinned (OpenSpec.ofChange hitEachWrong)

/-- 'assayerlaw4.HitTwice': WHATEVER THE INPUT: true; the input reads as it did. -/
def hitTwiceSpec : ChangeSpec := { name := "hitTwice", fn := fun _ => fun
  | [d] => { results := [.lit (.bool true)], args := [d] }
  | _ => none }
def hitTwiceRow : OpenClaim := { program := "ytbgcmemndaaopaa", sum := "e045d86be94c29fdbe1015c214031a450b601ecfa246f24554df774ba7916220", func := "assayer/assayerlaw4.HitTwice", spec := "hitTwice", unfollowed := true, recurses := true, apart := false }
def HitTwiceSaid : Prop := hitTwiceRow.holds Try.pinned (OpenSpec.ofChange hitTwiceSpec)

/-- ITS FALSE NEIGHBOUR: 'it returns false'. Refute it at one input. -/
def hitTwiceWrong : ChangeSpec := { name := "hitTwice", fn := fun _ => fun
  | [d] => { results := [.lit (.bool false)], args := [d] }
  | _ => none }
def HitTwiceWrongFalsely : Prop := hitTwiceRow.holds Try.pinned (OpenSpec.ofChange hitTwiceWrong)

/-- 'assayerlaw4.HitLeast': WHATEVER THE INPUT: true; the input reads as it did. -/
def hitLeastSpec : ChangeSpec := { name := "hitLeast", fn := fun _ => fun
  | [d1, d2] => { results := [.lit (.bool true)], args := [d1, d2] }
  | _ => none }
def hitLeastRow : OpenClaim := { program := "ytbgcmemndaaopaa", sum := "e045d86be94c29fdbe1015c214031a450b601ecfa246f24554df774ba7916220", func := "assayer/assayerlaw4.HitLeast", spec := "hitLeast", unfollowed := true, recurses := true, apart := false }
def HitLeastSaid : Prop := hitLeastRow.holds Try.pinned (OpenSpec.ofChange hitLeastSpec)

/-- ITS FALSE NEIGHBOUR: 'it returns false'. Refute it at one input. -/
def hitLeastWrong : ChangeSpec := { name := "hitLeast", fn := fun _ => fun
  | [d1, d2] => { results := [.lit (.bool false)], args := [d1, d2] }
  | _ => none }
def HitLeastWrongFalsely : Prop := hitLeastRow.holds Try.pinned (OpenSpec.ofChange hitLeastWrong)

/- THE SECOND FORM. 'bulk': how many values and letters a reading holds, each counted each time it is reached (what is shared counts as often as it is met; a slice's spare places count too). A statement '..UptoSaid' is the law's where the arguments, and the package variables that the reading takes, are together of bulk at most 1048576: NARROWER than '..Said'. Prove '..Said' where nothing that the law and all that it calls make is longer than what came in: it says more and counts as full. Else prove '..UptoSaid'. A law counts once. -/
mutual
def uptoBulk {H : Type} : DataW H → Nat
  | .lit (.string bytes) => bytes.length + 1
  | .lit _ => 1
  | .nil => 1
  | .ptr d => uptoBulk d + 1
  | .slice elems spare => uptoBulkAll elems + uptoBulkAll spare + 1
  | .agg parts => uptoBulkAll parts + 1
  | .iface _ d => uptoBulk d + 1
  | .map entries => uptoBulkEntries entries + 1
  | .held _ => 1
def uptoBulkAll {H : Type} : List (DataW H) → Nat
  | [] => 0
  | d :: r => uptoBulk d + uptoBulkAll r
def uptoBulkEntries {H : Type} : List (Lit × DataW H) → Nat
  | [] => 0
  | x :: r => uptoBulkEntry x + uptoBulkEntries r
def uptoBulkEntry {H : Type} : Lit × DataW H → Nat
  | (.string bytes, d) => bytes.length + uptoBulk d + 1
  | (_, d) => uptoBulk d + 1
 end
def uptoSmall : (H : Type) → List (DataW H) → Bool := fun _ ds => decide (uptoBulkAll ds ≤ 1048576)
def OpenSpec.upto (s : _root_.Go.ChangeSpec) : _root_.Go.OpenSpec := { _root_.Go.OpenSpec.ofChange s with cond := some uptoSmall }

/-- 'assayerlaw4.HitEach', WHERE WHAT IT READS IS OF BULK AT MOST 1048576: true; the input reads as it did. -/
def hitEachUptoRow : OpenClaim := { program := "ytbgcmemndaaopaa", sum := "e045d86be94c29fdbe1015c214031a450b601ecfa246f24554df774ba7916220", func := "assayer/assayerlaw4.HitEach", spec := "hitEach", unfollowed := true, recurses := true, apart := false, narrowed := true }
def HitEachUptoSaid : Prop := hitEachUptoRow.holds Try.pinned (OpenSpec.upto hitEachSpec)

/-- 'assayerlaw4.HitTwice', WHERE WHAT IT READS IS OF BULK AT MOST 1048576: true; the input reads as it did. -/
def hitTwiceUptoRow : OpenClaim := { program := "ytbgcmemndaaopaa", sum := "e045d86be94c29fdbe1015c214031a450b601ecfa246f24554df774ba7916220", func := "assayer/assayerlaw4.HitTwice", spec := "hitTwice", unfollowed := true, recurses := true, apart := false, narrowed := true }
def HitTwiceUptoSaid : Prop := hitTwiceUptoRow.holds Try.pinned (OpenSpec.upto hitTwiceSpec)

/-- 'assayerlaw4.HitLeast', WHERE WHAT IT READS IS OF BULK AT MOST 1048576: true; the input reads as it did. -/
def hitLeastUptoRow : OpenClaim := { program := "ytbgcmemndaaopaa", sum := "e045d86be94c29fdbe1015c214031a450b601ecfa246f24554df774ba7916220", func := "assayer/assayerlaw4.HitLeast", spec := "hitLeast", unfollowed := true, recurses := true, apart := false, narrowed := true }
def HitLeastUptoSaid : Prop := hitLeastUptoRow.holds Try.pinned (OpenSpec.upto hitLeastSpec)

end Rows
end Go.Proofs.Ytbgcmemndaaopaa
