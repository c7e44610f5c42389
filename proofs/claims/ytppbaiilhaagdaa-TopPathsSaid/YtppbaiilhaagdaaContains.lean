/- slices.Index, Contains at []int. No conditions. -/
import Derived.Test.YtppbaiilhaagdaaRows
import Derived.Test.YtppbaiilhaagdaaInts
import Derived.Deep.QuietTactic
import Derived.BigQuiet
namespace Go.Proofs.Ytppbaiilhaagdaa
open Go.RowKit Go.Mine

set_option maxHeartbeats 600000 in
theorem index_any (xs : List Int) (v : Int) (ao : Option Addr) (c : Nat) (w : World) (hx : IntsAt .i64 w ao xs) (hl : xs.length ≤ maxLen) :
    Calls Try.prog 19 #[.slice ao xs.length c, .int .i64 v] w fun e w' => (∃ z, e = .returned (.int .i64 z) ∧ ((z = -1 ∧ v ∉ xs) ∨ (∃ k : Nat, z = k ∧ k < xs.length ∧ v ∈ xs))) ∧ w = w' := by
  unfold maxLen at hl
  have HX := Lib.hid hx; clear hx
  go_enter Try.func19, Try.ntmps19
  go_wp2_with fail
  go_loop [8] (fun i => ∃ k : Nat, i = .int .i64 k ∧ k ≤ xs.length ∧ RowKit.Hid (∀ j, j < k → xs.getD j 0 ≠ v)) (fun i => xs.length - (intOf i).toNat)
  case atStart => exact ⟨0, rfl, by omega, Lib.hid (fun j hj => by omega)⟩
  case round =>
    obtain ⟨k, rfl, hk, hall⟩ := hrel
    by_cases hlt : k < xs.length
    · obtain ⟨b, o, rfl, hc⟩ := HX.out k hlt
      have hmem : xs.getD k 0 ∈ xs := by simp [hlt]
      obtain ⟨z, hz⟩ : ∃ z, z = xs.getD k 0 := ⟨_, rfl⟩
      rw [← hz] at hc hmem
      have HZ := Lib.hid hz
      have HM := Lib.hid hmem
      clear hz hmem
      by_cases hv : v = z
      · have hb : (v == z) = true := by simpa using hv
        have HVV := Lib.hid hv; clear hv
        go_wp2_with fail
        go_ret
        exact ⟨⟨_, rfl, .inr ⟨k, rfl, hlt, by rw [HVV.out]; exact HM.out⟩⟩, rfl⟩
      · have hb : (v == z) = false := by simpa using hv
        have HVV := Lib.hid hv; clear hv
        go_wp2_with fail
        go_round
        case rel =>
          refine ⟨k + 1, by go_num, by omega, Lib.hid (fun j hj => ?_)⟩
          by_cases e : j = k
          · subst e; rw [← HZ.out]; exact fun h => HVV.out h.symm
          · exact hall.out j (by omega)
        case measure => simp [intOf]; omega
    · have hke : k = xs.length := by omega
      subst hke
      go_wp2_with fail
      go_ret
      refine ⟨⟨_, rfl, .inl ⟨rfl, fun hx => ?_⟩⟩, rfl⟩
      obtain ⟨j, hj, hjv⟩ := List.mem_iff_getElem.1 hx
      exact hall.out j hj (by simpa [hj] using hjv)

theorem contains_any (xs : List Int) (v : Int) (ao : Option Addr) (c : Nat) (w : World) (hx : IntsAt .i64 w ao xs) (hl : xs.length ≤ maxLen) :
    Calls Try.prog 15 #[.slice ao xs.length c, .int .i64 v] w fun e w' => e = .returned (.bool (decide (v ∈ xs))) ∧ w = w' := by
  have H := index_any xs v ao c w hx hl
  unfold maxLen at hl
  go_enter Try.func15, Try.ntmps15
  go_wp2_with fail
  refine H.mono ?_
  clear H
  rintro e w' ⟨⟨z, rfl, hz⟩, rfl⟩
  rcases hz with ⟨rfl, hz⟩ | ⟨k, rfl, hk, hz⟩
  · have HZ := Lib.hid hz
    clear hz
    go_wp2_with fail
    go_ret
    exact ⟨by rw [decide_eq_false HZ.out]; rfl, rfl⟩
  · have HZ := Lib.hid hz
    clear hz
    go_wp2_with fail
    go_ret
    exact ⟨by rw [decide_eq_true HZ.out]; rfl, rfl⟩
end Go.Proofs.Ytppbaiilhaagdaa
