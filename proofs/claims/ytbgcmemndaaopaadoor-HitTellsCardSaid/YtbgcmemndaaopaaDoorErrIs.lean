/- assayersame.Error (door seats). No conditions but start-up's handle. -/
import Derived.Test.YtbgcmemndaaopaaDoorTold
import Derived.Test.YtbgcmemndaaopaaDoorInts
import Derived.OwnWalk
namespace Go.Proofs.YtbgcmemndaaopaaDoor
open Go.RowKit Go.Mine

/-- An error's number. -/
def Num (x : Value) (c : Int) : Prop := (x = .nilIface ∧ c = 0) ∨ x = .iface 24 (.int .i64 c)
theorem Num.nil : Num .nilIface 0 := .inl ⟨rfl, rfl⟩
theorem Num.err (c : Int) : Num (.iface 24 (.int .i64 c)) c := .inr rfl
theorem error_is (x : Value) (c d : Int) (hx : Num x c) (w : World) (hg : Laid w) :
    Calls Tryd.prog 6 #[x, .int .i64 d] w fun e w' => e = .returned (.bool (c == d)) ∧ Below w.heap.size w w' := by
  have H := told_any x c hx w hg
  go_enter Tryd.func6, Tryd.ntmps6
  go_wp2_with fail
  refine H.mono ?_
  rintro e w' ⟨rfl, hb⟩
  clear H
  go_wp2_with fail
  go_ret
  exact ⟨rfl, hb⟩
end Go.Proofs.YtbgcmemndaaopaaDoor
