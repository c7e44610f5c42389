/- assayerref2.In: is a number in a list. No conditions. -/
import Derived.Test.YtppbaiilhaagdaaRows
import Derived.Test.YtppbaiilhaagdaaInts
import Derived.Deep.QuietTactic
import Derived.BigQuiet
namespace Go.Proofs.Ytppbaiilhaagdaa
open Go.RowKit Go.Mine

set_option maxHeartbeats 400000 in
theorem In_any (xs : List Int) (x : Int) (a : Option Addr) (ca : Nat) (w : World) (hx : IntsAt .i64 w a xs) (hl : xs.length ≤ maxLen) :
    Calls Try.prog 10 #[.slice a xs.length ca, .int .i64 x] w fun e w' => e = .returned (.bool (decide (x ∈ xs))) ∧ w = w' := by
  unfold maxLen at hl
  have HX := Lib.hid hx; clear hx
  go_enter Try.func10, Try.ntmps10
  go_wp2_with fail
  go_loop [5] (fun i => ∃ k : Nat, i = .int .i64 k ∧ k ≤ xs.length ∧ ∀ j, j < k → xs.getD j 0 ≠ x) (fun i => xs.length - (intOf i).toNat)
  case atStart => exact ⟨0, rfl, by omega, fun j hj => by omega⟩
  case round =>
    obtain ⟨k, rfl, hk, hall⟩ := hrel
    have HALL := Lib.hid hall; clear hall
    by_cases hlt : k < xs.length
    · obtain ⟨b, o, rfl, hc⟩ := HX.out k hlt
      have hmem : xs.getD k 0 ∈ xs := by simp [hlt]
      obtain ⟨y, hy⟩ : ∃ y, y = xs.getD k 0 := ⟨_, rfl⟩
      rw [← hy] at hc hmem
      have HY := Lib.hid hy; clear hy
      by_cases hxy : y = x
      · have hE : decide (x ∈ xs) = true := by rw [← hxy]; simpa using hmem
        have HE := Lib.hid hE; clear hE
        have hb : (y == x) = true := by simpa using hxy
        clear hxy hmem
        go_wp2_with fail
        go_ret
        exact ⟨by rw [HE.out]; rfl, rfl⟩
      · have hb : (y == x) = false := by simpa using hxy
        have HXY := Lib.hid hxy; clear hxy hmem
        go_wp2_with fail
        go_round
        case rel =>
          refine ⟨k + 1, by go_num, by omega, fun j hj => ?_⟩
          by_cases e : j = k
          · subst e; rw [← HY.out]; exact HXY.out
          · exact HALL.out j (by omega)
        case measure => simp [intOf]; omega
    · have hE : decide (x ∈ xs) = false := by
        rw [decide_eq_false_iff_not]
        intro h
        obtain ⟨j, hj, rfl⟩ := List.mem_iff_getElem.1 h
        exact HALL.out j (by omega) (by simp [hj])
      have HE := Lib.hid hE; clear hE
      go_wp2_with fail
      go_ret
      exact ⟨by rw [HE.out]; rfl, rfl⟩
end Go.Proofs.Ytppbaiilhaagdaa
