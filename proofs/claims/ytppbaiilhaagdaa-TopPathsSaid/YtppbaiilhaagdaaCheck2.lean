/- flow.Check, with the number of what is wrong. No conditions. -/
import Derived.Test.YtppbaiilhaagdaaRows
import Derived.Test.YtppbaiilhaagdaaPairs
import Derived.Deep.QuietTactic
import Derived.BigQuiet
namespace Go.Proofs.Ytppbaiilhaagdaa
open Go.RowKit Go.Mine

/-- Edges that are right. -/
def ok (n : Int) (es : List (Int × Int)) : Prop := 1 ≤ n ∧ n ≤ 12 ∧ es.length ≤ 30 ∧ ∀ e ∈ es, 0 ≤ e.1 ∧ e.1 < n ∧ 0 ≤ e.2 ∧ e.2 < n
/-- What is wrong with edges, as a number. -/
def efault (n : Int) (es : List (Int × Int)) : Int := if n < 1 ∨ 12 < n then 1 else if 30 < es.length then 4 else if ∀ e ∈ es, 0 ≤ e.1 ∧ e.1 < n ∧ 0 ≤ e.2 ∧ e.2 < n then 0 else 1
theorem efault_ok {n : Int} {es : List (Int × Int)} (h : ok n es) : efault n es = 0 := by
  obtain ⟨h1, h2, h3, h4⟩ := h
  unfold efault
  rw [if_neg (by omega), if_neg (by omega), if_pos h4]
theorem efault_bad {n : Int} {es : List (Int × Int)} (h : ¬ ok n es) : efault n es = 1 ∨ efault n es = 4 := by
  unfold efault
  split
  · exact .inl rfl
  · split
    · exact .inr rfl
    · split
      · exact absurd ⟨by omega, by omega, by omega, by assumption⟩ h
      · exact .inl rfl
theorem efault_n {n : Int} {es : List (Int × Int)} (h : n < 1 ∨ 12 < n) : 1 = efault n es := by unfold efault; rw [if_pos h]
theorem efault_full {n : Int} {es : List (Int × Int)} (h : ¬ (n < 1 ∨ 12 < n)) (h2 : 30 < es.length) : 4 = efault n es := by unfold efault; rw [if_neg h, if_pos h2]
theorem efault_range {n : Int} {es : List (Int × Int)} (h : ¬ (n < 1 ∨ 12 < n)) (h2 : ¬ 30 < es.length) (h3 : ¬ ∀ e ∈ es, 0 ≤ e.1 ∧ e.1 < n ∧ 0 ≤ e.2 ∧ e.2 < n) : 1 = efault n es := by unfold efault; rw [if_neg h, if_neg h2, if_neg h3]
def CheckPost (n : Int) (es : List (Int × Int)) (e : Ending) : Prop := (ok n es ∧ e = .returned .nilIface) ∨ (¬ ok n es ∧ e = .returned (.iface 48 (.int .i64 (efault n es))))

set_option maxHeartbeats 400000 in
theorem check_any (n : Int) (es : List (Int × Int)) (lo : Option Addr) (lc : Nat) (W : World) (hx : PairsAt W lo es) (hl : es.length ≤ maxLen) :
    Calls Try.prog 16 #[.int .i64 n, .slice lo es.length lc] W fun e w' => CheckPost n es e ∧ Below W.heap.size W w' := by
  unfold maxLen at hl
  have HX := Lib.hid hx; clear hx
  by_cases h1 : n < 1
  · go_enter Try.func16, Try.ntmps16
    go_wp2_with fail
    go_ret
    exact ⟨.inr ⟨fun h => by have := h.1; omega, by rw [← efault_n (.inl h1)]; rfl⟩, Below.refl _ _⟩
  · by_cases h2 : 12 < n
    · go_enter Try.func16, Try.ntmps16
      go_wp2_with fail
      go_ret
      exact ⟨.inr ⟨fun h => by have := h.2.1; omega, by rw [← efault_n (.inr h2)]; rfl⟩, Below.refl _ _⟩
    · by_cases h3 : 30 < es.length
      · go_enter Try.func16, Try.ntmps16
        go_wp2_with fail
        go_ret
        exact ⟨.inr ⟨fun h => by have := h.2.2.1; omega, by rw [← efault_full (by omega) h3]; rfl⟩, Below.refl _ _⟩
      · go_enter Try.func16, Try.ntmps16
        go_wp2_with fail
        go_loopw [20] (fun t wr => ∃ k : Nat, t = .int .i64 k ∧ k ≤ es.length ∧ (∀ j, j < k → 0 ≤ (es.getD j (0, 0)).1 ∧ (es.getD j (0, 0)).1 < n ∧ 0 ≤ (es.getD j (0, 0)).2 ∧ (es.getD j (0, 0)).2 < n) ∧ Below W.heap.size W wr) (fun t _ => es.length - (intOf t).toNat)
        case atStart => exact ⟨0, rfl, by omega, fun j hj => by omega, Below.refl _ _⟩
        case round =>
          obtain ⟨k, rfl, hk, hall, hb⟩ := hrel
          have HALL := Lib.hid hall; clear hall
          by_cases hlt : k < es.length
          · obtain ⟨b, o, rfl, hc1, hc2⟩ := HX.out.below (Nat.le_refl _) hb k hlt
            have hmem : es.getD k (0, 0) ∈ es := by simp [hlt]
            obtain ⟨x, hx⟩ : ∃ x, x = (es.getD k (0, 0)).1 := ⟨_, rfl⟩
            obtain ⟨y, hy⟩ : ∃ y, y = (es.getD k (0, 0)).2 := ⟨_, rfl⟩
            rw [← hx] at hc1
            rw [← hy] at hc2
            have HXX := Lib.hid hx; clear hx
            have HYY := Lib.hid hy; clear hy
            have HMM := Lib.hid hmem; clear hmem
            have HB1 := Lib.hid (hb.alloc hb.size (.cells #[.int .i64 x, .int .i64 y] 32))
            clear hb
            have hmax : (if x < y then y else x) < n → x < n ∧ y < n := fun h => by split at h <;> omega
            have hmax2 : n ≤ (if x < y then y else x) → n ≤ x ∨ n ≤ y := fun h => by split at h <;> omega
            have HMAX := Lib.hid hmax; clear hmax
            have HMAX2 := Lib.hid hmax2; clear hmax2
            go_wp2_with fail
            all_goals first
              | (go_roundw
                 case rel =>
                   refine ⟨k + 1, by go_num, by omega, fun j hj => ?_, HB1.out⟩
                   by_cases e : j = k
                   · subst e
                     rw [← HXX.out, ← HYY.out]
                     first
                       | omega
                       | (have h9 : 0 ≤ x ∧ (if x < y then y else x) < n := by assumption
                          have := HMAX.out h9.2
                          omega)
                   · exact HALL.out j (by omega)
                 case measure => simp [intOf]; omega)
              | (go_ret
                 refine (fun (hno : ¬ ∀ e ∈ es, 0 ≤ e.1 ∧ e.1 < n ∧ 0 ≤ e.2 ∧ e.2 < n) => ⟨.inr ⟨fun h => hno h.2.2.2, by rw [← efault_range (by omega) h3 hno]; rfl⟩, HB1.out⟩) (fun h => ?_)
                 have h8 := h _ HMM.out
                 rw [← HXX.out, ← HYY.out] at h8
                 first
                   | omega
                   | (have h9 : x < 0 ∨ n ≤ (if x < y then y else x) := by assumption
                      have h10 := h9.imp_right HMAX2.out
                      omega))
          · have hok : ok n es := ⟨by omega, by omega, by omega, fun e he => by
              obtain ⟨j, hj, rfl⟩ := List.mem_iff_getElem.1 he
              have := HALL.out j (by omega)
              simpa [hj] using this⟩
            have HOK := Lib.hid hok; clear hok
            go_wp2_with fail
            go_ret
            exact ⟨.inl ⟨HOK.out, rfl⟩, hb⟩
end Go.Proofs.Ytppbaiilhaagdaa
