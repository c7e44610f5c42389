/- assayerref2.EdgeFault. No conditions. -/
import Derived.Test.YtppbaiilhaagdaaDoorCheck2
namespace Go.Proofs.YtppbaiilhaagdaaDoor
open Go.RowKit Go.Mine

set_option maxHeartbeats 400000 in
theorem edgeFault_any (n : Int) (es : List (Int × Int)) (lo : Option Addr) (lc : Nat) (W : World) (hx : PairsAt W lo es) (hl : es.length ≤ maxLen) :
    Calls Tryd.prog 13 #[.int .i64 n, .slice lo es.length lc] W fun e w' => e = .returned (.int .i64 (efault n es)) ∧ W = w' := by
  unfold maxLen at hl
  have HX := Lib.hid hx; clear hx
  by_cases h1 : n < 1
  · have HF := Lib.hid (efault_n (es := es) (.inl h1))
    go_enter Tryd.func13, Tryd.ntmps13
    go_wp2_with fail
    go_ret
    exact ⟨by rw [← HF.out]; rfl, rfl⟩
  · by_cases h2 : 12 < n
    · have HF := Lib.hid (efault_n (es := es) (.inr h2))
      go_enter Tryd.func13, Tryd.ntmps13
      go_wp2_with fail
      go_ret
      exact ⟨by rw [← HF.out]; rfl, rfl⟩
    · by_cases h3 : 30 < es.length
      · have HF := Lib.hid (efault_full (by omega) h3 : 4 = efault n es)
        go_enter Tryd.func13, Tryd.ntmps13
        go_wp2_with fail
        go_ret
        exact ⟨by rw [← HF.out]; rfl, rfl⟩
      · go_enter Tryd.func13, Tryd.ntmps13
        go_wp2_with fail
        go_loop [5] (fun t => ∃ k : Nat, t = .int .i64 k ∧ k ≤ es.length ∧ ∀ j, j < k → 0 ≤ (es.getD j (0, 0)).1 ∧ (es.getD j (0, 0)).1 < n ∧ 0 ≤ (es.getD j (0, 0)).2 ∧ (es.getD j (0, 0)).2 < n) (fun t => es.length - (intOf t).toNat)
        case atStart => exact ⟨0, rfl, by omega, fun j hj => by omega⟩
        case round =>
          obtain ⟨k, rfl, hk, hall⟩ := hrel
          have HALL := Lib.hid hall; clear hall
          by_cases hlt : k < es.length
          · obtain ⟨b, o, rfl, hc1, hc2⟩ := HX.out k hlt
            have hmem : es.getD k (0, 0) ∈ es := by simp [hlt]
            obtain ⟨x, hx⟩ : ∃ x, x = (es.getD k (0, 0)).1 := ⟨_, rfl⟩
            obtain ⟨y, hy⟩ : ∃ y, y = (es.getD k (0, 0)).2 := ⟨_, rfl⟩
            rw [← hx] at hc1
            rw [← hy] at hc2
            have hbad : ¬ (0 ≤ x ∧ x < n ∧ 0 ≤ y ∧ y < n) → 1 = efault n es := fun hb => efault_range (by omega) h3 fun h => hb (by rw [hx, hy]; exact h _ hmem)
            have HBAD := Lib.hid hbad
            have HXX := Lib.hid hx
            have HYY := Lib.hid hy
            clear hbad hx hy hmem
            by_cases c1 : x < 0
            · have HF := Lib.hid (HBAD.out (by omega))
              go_wp2_with fail
              go_ret
              exact ⟨by rw [← HF.out]; rfl, rfl⟩
            · by_cases c2 : n ≤ x
              · have HF := Lib.hid (HBAD.out (by omega))
                go_wp2_with fail
                go_ret
                exact ⟨by rw [← HF.out]; rfl, rfl⟩
              · by_cases c3 : y < 0
                · have HF := Lib.hid (HBAD.out (by omega))
                  go_wp2_with fail
                  go_ret
                  exact ⟨by rw [← HF.out]; rfl, rfl⟩
                · by_cases c4 : n ≤ y
                  · have HF := Lib.hid (HBAD.out (by omega))
                    go_wp2_with fail
                    go_ret
                    exact ⟨by rw [← HF.out]; rfl, rfl⟩
                  · go_wp2_with fail
                    go_round
                    case rel =>
                      refine ⟨k + 1, by go_num, by omega, fun j hj => ?_⟩
                      by_cases e : j = k
                      · subst e
                        rw [← HXX.out, ← HYY.out]
                        omega
                      · exact HALL.out j (by omega)
                    case measure => simp [intOf]; omega
          · have HF := Lib.hid (efault_ok ⟨by omega, by omega, by omega, fun e he => by
              obtain ⟨j, hj, rfl⟩ := List.mem_iff_getElem.1 he
              have := HALL.out j (by omega)
              simpa [hj] using this⟩ : efault n es = 0)
            go_wp2_with fail
            go_ret
            exact ⟨by rw [HF.out]; rfl, rfl⟩
end Go.Proofs.YtppbaiilhaagdaaDoor
