import Derived.Test.YtlmhdklleenjbaaDoorA
namespace Go.Proofs.YtlmhdklleenjbaaDoor
open Go.RowKit Go.Mine

theorem parts_bad (low high n : Int) (W : World) (h1 : low ≤ high) (h2 : -1073741824 ≤ low) (h3 : high ≤ 1073741824) (hn : n < 1 ∨ high - low + 1 < n ∨ 1000 < n) :
    Calls Tryd.prog 8 #[.int .i64 low, .int .i64 high, .int .i64 n] W fun e w' => e = .returned (.tuple #[.slice none 0 0, .iface 22 (.int .i64 1)]) ∧ W = w' := by
  by_cases g1 : n < 1
  · go_enter Tryd.func8, Tryd.ntmps8
    go_wp2_with (go_at_call 9; refine (check_ok _ _ _ h1 h2 h3).mono ?_; rintro e w' ⟨rfl, rfl⟩)
    go_ret2
    exact ⟨rfl, rfl⟩
  · by_cases g2 : high - low + 1 < n
    · go_enter Tryd.func8, Tryd.ntmps8
      go_wp2_with (go_at_call 9; refine (check_ok _ _ _ h1 h2 h3).mono ?_; rintro e w' ⟨rfl, rfl⟩)
      go_ret2
      exact ⟨rfl, rfl⟩
    · have g3 : 1000 < n := by omega
      go_enter Tryd.func8, Tryd.ntmps8
      go_wp2_with (go_at_call 9; refine (check_ok _ _ _ h1 h2 h3).mono ?_; rintro e w' ⟨rfl, rfl⟩)
      go_ret2
      exact ⟨rfl, rfl⟩
theorem parts_out (low high n : Int) (W : World) (h : high < low ∨ low < -1073741824 ∨ 1073741824 < high) :
    Calls Tryd.prog 8 #[.int .i64 low, .int .i64 high, .int .i64 n] W fun e w' => e = .returned (.tuple #[.slice none 0 0, .iface 22 (.int .i64 1)]) ∧ W = w' := by
  have H := Lib.hid h; clear h
  go_enter Tryd.func8, Tryd.ntmps8
  go_wp2_with (go_at_call 9; refine (check_bad _ _ _ H.out).mono ?_; rintro e w' ⟨rfl, rfl⟩)
  go_ret2
  exact ⟨rfl, rfl⟩
end Go.Proofs.YtlmhdklleenjbaaDoor
