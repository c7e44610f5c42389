/- slices.Grow of nil at []int. No conditions beyond sizes. -/
import Derived.Test.YtfdjnofkoegbdaaDoorRows
import Derived.Test.YtfdjnofkoegbdaaDoorMore
import Derived.Test.YtfdjnofkoegbdaaDoorInts
import Derived.Lib.AppendZeros
import Derived.Lib.SliceRun
namespace Go.Proofs.YtfdjnofkoegbdaaDoor
open Go.RowKit Go.Mine

theorem slInfo3 : (Tryd.prog.info? 3).map (fun i => (i.zero, i.size, i.bytes)) = some (some (.int .i64 0), 1, 8) := by kernel_rfl

theorem grow_nil (n : Nat) (w : World) (hn : n * 8 ≤ 140737488355328) :
    Calls Tryd.prog 29 #[.slice none 0 0, .int .i64 n] w fun e w' => ∃ v', e = .returned v' ∧ w'.ownsRow w.heap.size 3 1 v' 0 [] ∧ Below w.heap.size w w' := by
  obtain ⟨i0, hi0, hz0, hz1, hz2⟩ := info_parts slInfo3
  by_cases h0 : n = 0
  · subst h0
    go_enter Tryd.func29, Tryd.ntmps29
    go_wp2_with fail
    go_ret
    exact ⟨_, rfl, World.ownsRow_nil _ _ _ _, Below.refl _ _⟩
  · have hp : 0 < n := by omega
    have hd : decide ((n : Int) < 0) = false := by simp
    have hd2 : decide (0 < (n : Int)) = true := by simp; omega
    have hr := Lib.run_append_nil_zeros (P := Tryd.prog) w 22 3 22 3 i0 (.int .i64 0) .i64 .i64 Tryd.underlying22 Tryd.underlying3 hi0 hz0 n hp (by omega) (by omega) (by rw [hz2]; omega)
    have hc := grownCap_le_maxLen w n 0 3 (by unfold maxLen; omega)
    have hg := grownCap_ge w n 0 3
    have HR := Lib.hid hr
    have HC := Lib.hid hc
    have HG := Lib.hid hg
    clear hr hc hg
    go_enter Tryd.func29, Tryd.ntmps29
    go_wp2_with (at_builtin; refine Lib.wpList_append_run _ rfl _ _ 22 3 rfl _ _ rfl rfl _ _ HR.out ?_)
    go_wp2_with fail
    go_ret
    exact ⟨_, rfl, (World.ownsRow_made (size := 1) w _ _ (Nat.le_refl _) HC.out (by have := HG.out; simp [size_zeroCells]; omega)).drew, ((Below.refl _ _).alloc (Nat.le_refl _) _).drew⟩
end Go.Proofs.YtfdjnofkoegbdaaDoor
