/- assayerref2.So: is bit i of a small number set. -/
import Derived.Test.YtpmfpegjkfnnkaaDoorRows
import Derived.Test.YtpmfpegjkfnnkaaDoorInts
import Derived.Deep.QuietTactic
import Derived.BigQuiet
namespace Go.Proofs.YtpmfpegjkfnnkaaDoor
open Go.RowKit Go.Mine

theorem so_bit : ∀ i, i < 6 → ∀ t, t < 64 → ((((t : Nat) : Int) / 2 ^ i).tmod 2 == 1) = t.testBit i := by decide +kernel
theorem so_any (t i : Nat) (ht : t < 64) (hi : i < 6) (w : World) : Calls Tryd.prog 25 #[.int .i64 t, .int .i64 i] w fun e w' => e = .returned (.bool (t.testBit i)) ∧ w = w' := by
  have hs := so_bit i hi t ht
  go_enter Tryd.func25, Tryd.ntmps25
  go_wp2_with fail
  go_ret
  exact ⟨by simp [hs], rfl⟩
end Go.Proofs.YtpmfpegjkfnnkaaDoor
