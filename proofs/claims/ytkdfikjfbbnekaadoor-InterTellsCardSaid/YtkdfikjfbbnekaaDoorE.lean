/- slices.Max. -/
import Derived.Test.YtkdfikjfbbnekaaDoorB
import Derived.Test.YtkdfikjfbbnekaaDoorQ
import Derived.Test.YtkdfikjfbbnekaaDoorKeep
import Derived.Test.YtkdfikjfbbnekaaDoorClone1
import Derived.RangeFuncBox
namespace Go.Proofs.YtkdfikjfbbnekaaDoor
open Go.RowKit Go.Mine Go.Mine.Inter

set_option maxHeartbeats 400000 in
theorem max_any (xs : List Int) (ao : Option Addr) (cap : Nat) (w : World) (hx : IntsAt .i64 w ao xs) (h0 : 0 < xs.length) (hl : xs.length ≤ maxLen) :
    Calls Tryd.prog 18 #[.slice ao xs.length cap] w fun e w' => (∃ m : Int, e = .returned (.int .i64 m) ∧ m ∈ xs ∧ ∀ x ∈ xs, x ≤ m) ∧ w = w' := by
  unfold maxLen at hl
  have hlen : decide ((xs.length : Int) < 1) = false := by simp; omega
  have HX := Lib.hid hx; clear hx
  obtain ⟨b, o, rfl, hc0⟩ := HX.out 0 h0
  rw [Nat.add_zero] at hc0
  obtain ⟨x0, hx0⟩ : ∃ x, x = xs.getD 0 0 := ⟨_, rfl⟩
  rw [← hx0] at hc0
  have HX0 := Lib.hid hx0; clear hx0
  go_enter Tryd.func18, Tryd.ntmps18
  go_wp2_with fail
  go_loop [3, 4] (fun m i => ∃ (k : Nat) (z : Int), 1 ≤ k ∧ k ≤ xs.length ∧ i = .int .i64 k ∧ m = .int .i64 z ∧ z ∈ xs ∧ ∀ j, j < k → xs.getD j 0 ≤ z) (fun _ i => xs.length - (intOf i).toNat)
  case atStart =>
    refine ⟨1, x0, by omega, by omega, rfl, rfl, ?_, ?_⟩
    · rw [HX0.out]; simp [h0]
    · intro j hj
      rw [show j = 0 by omega, HX0.out]
      exact Int.le_refl _
  case round =>
    obtain ⟨k, z, hk1, hk, rfl, rfl, hz, hall⟩ := hrel
    have HZ := Lib.hid hz; clear hz
    have HALL := Lib.hid hall; clear hall
    by_cases hlt : k < xs.length
    · obtain ⟨b', o', h1, hc⟩ := HX.out k hlt
      simp only [Option.some.injEq, Addr.mk.injEq, and_true] at h1
      obtain ⟨rfl, rfl⟩ := h1
      obtain ⟨x, hx⟩ : ∃ x, x = xs.getD k 0 := ⟨_, rfl⟩
      rw [← hx] at hc
      have HXK := Lib.hid hx; clear hx
      go_wp2_with fail
      go_round
      case rel =>
        refine ⟨k + 1, max z x, by omega, by omega, by go_num, ?_, ?_, ?_⟩
        · congr 1; rw [Int.max_def]; split <;> split <;> omega
        · rcases Int.le_total z x with h | h
          · rw [Int.max_eq_right h, HXK.out]; simp [hlt]
          · rw [Int.max_eq_left h]; exact HZ.out
        · intro j hj
          by_cases e : j = k
          · rw [e, ← HXK.out]; omega
          · have := HALL.out j (by omega); omega
      case measure => simp [intOf]; omega
    · have hke : k = xs.length := by omega
      subst hke
      go_wp2_with fail
      go_ret
      refine ⟨⟨z, rfl, HZ.out, ?_⟩, rfl⟩
      intro x hx
      obtain ⟨j, hj, rfl⟩ := List.getElem_of_mem hx
      have := HALL.out j hj
      simpa [hj] using this
end Go.Proofs.YtkdfikjfbbnekaaDoor
