import Derived.Test.YtlmhdklleenjbaaA
namespace Go.Proofs.Ytlmhdklleenjbaa
open Go.RowKit Go.Mine

theorem parts_bad (low high n : Int) (W : World) (h1 : low ≤ high) (h2 : -1073741824 ≤ low) (h3 : high ≤ 1073741824) (hn : n < 1 ∨ high - low + 1 < n ∨ 1000 < n) :
    Calls Try.prog 5 #[.int .i64 low, .int .i64 high, .int .i64 n] W fun e w' => e = .returned (.tuple #[.slice none 0 0, .iface 35 (.int .i64 1)]) ∧ W = w' := by
  by_cases g1 : n < 1
  · go_enter Try.func5, Try.ntmps5
    go_wp2_with (go_at_call 8; refine (check_ok _ _ _ h1 h2 h3).mono ?_; rintro e w' ⟨rfl, rfl⟩)
    go_ret2
    exact ⟨rfl, rfl⟩
  · by_cases g2 : high - low + 1 < n
    · go_enter Try.func5, Try.ntmps5
      go_wp2_with (go_at_call 8; refine (check_ok _ _ _ h1 h2 h3).mono ?_; rintro e w' ⟨rfl, rfl⟩)
      go_ret2
      exact ⟨rfl, rfl⟩
    · have g3 : 1000 < n := by omega
      go_enter Try.func5, Try.ntmps5
      go_wp2_with (go_at_call 8; refine (check_ok _ _ _ h1 h2 h3).mono ?_; rintro e w' ⟨rfl, rfl⟩)
      go_ret2
      exact ⟨rfl, rfl⟩
theorem parts_out (low high n : Int) (W : World) (h : high < low ∨ low < -1073741824 ∨ 1073741824 < high) :
    Calls Try.prog 5 #[.int .i64 low, .int .i64 high, .int .i64 n] W fun e w' => e = .returned (.tuple #[.slice none 0 0, .iface 35 (.int .i64 1)]) ∧ W = w' := by
  have H := Lib.hid h; clear h
  go_enter Try.func5, Try.ntmps5
  go_wp2_with (go_at_call 8; refine (check_bad _ _ _ H.out).mono ?_; rintro e w' ⟨rfl, rfl⟩)
  go_ret2
  exact ⟨rfl, rfl⟩

/-- How many of the first k pieces hold x. -/
def many (s : Nat → Int) (x : Int) : Nat → Nat
  | 0 => 0
  | k + 1 => many s x k + (if s k ≤ x ∧ x ≤ s (k + 1) - 1 then 1 else 0)
theorem many_is (s : Nat → Int) (x : Int) (hs : ∀ i, s i ≤ s (i + 1)) : ∀ k, many s x k = if s 0 ≤ x ∧ x < s k then 1 else 0
  | 0 => by simp [many]
  | k + 1 => by
    have h0 : ∀ k, s 0 ≤ s k := by
      intro k
      induction k with
      | zero => exact Int.le_refl _
      | succ k ih => exact Int.le_trans ih (hs k)
    rw [many, many_is s x hs k]
    have := h0 k
    have := hs k
    split <;> split <;> split <;> omega

set_option maxHeartbeats 600000 in
theorem law_none (low high n x : Int) (W : World) (h : ∀ w, Calls Try.prog 5 #[.int .i64 low, .int .i64 high, .int .i64 n] w fun e w' => e = .returned (.tuple #[.slice none 0 0, .iface 35 (.int .i64 1)]) ∧ w = w') :
    Calls Try.prog 3 #[.int .i64 low, .int .i64 high, .int .i64 n, .int .i64 x] W fun e w' => e = .returned (.bool true) ∧ Below W.heap.size W w' := by
  have H := Lib.hid h; clear h
  go_enter Try.func3, Try.ntmps3
  go_wp2_with fail
  refine (H.out _).mono ?_
  rintro e w1 ⟨rfl, rfl⟩
  go_wp2_with fail
  refine (parts_ok 1 9 2 W (by omega) (by omega) (by omega) (by omega) (by omega) (by omega)).mono ?_
  rintro e w1 ⟨g, cap, rfl, ho, hb⟩
  clear ho
  go_wp2_with fail
  go_ret
  exact ⟨rfl, hb⟩
end Go.Proofs.Ytlmhdklleenjbaa
