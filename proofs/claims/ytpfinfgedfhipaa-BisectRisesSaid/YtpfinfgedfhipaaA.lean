import Derived.Test.YtpfinfgedfhipaaRows
import Derived.WalkKit
import Derived.WalkSpells
import Derived.WalkLawsBesides
import Derived.Lib.Hide
import Derived.Deep.QuietTactic
import Derived.BigQuiet
namespace Go.Proofs.Ytpfinfgedfhipaa
open Go.RowKit

/-- assayerref1.Mix: some number of its kind; nothing turns. -/
theorem mix_any (z : Int) (w : World) :
    Calls Try.prog 7 #[.int .u64 z] w fun e w' => (∃ z', e = .returned (.int .u64 z')) ∧ w = w' := by
  go_enter Try.func7, Try.ntmps7
  go_wp2
  go_ret
  exact ⟨⟨_, rfl⟩, rfl⟩

theorem ge4_any (x : Int) (w : World) :
    Calls Try.prog 8 #[.int .i64 x] w fun e w' => e = .returned (.bool (decide (4 ≤ x))) ∧ w = w' := by
  go_enter Try.func8, Try.ntmps8
  go_wp2
  go_ret
  exact ⟨rfl, rfl⟩
end Go.Proofs.Ytpfinfgedfhipaa
