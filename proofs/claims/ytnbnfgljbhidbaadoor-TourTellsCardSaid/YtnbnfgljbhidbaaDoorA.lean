/- slices.ContainsFunc with 'is not 0', slices.Reverse, tour.Off. -/
import Derived.Test.YtnbnfgljbhidbaaDoorCheck2
import Derived.Test.YtnbnfgljbhidbaaDoorQ
import Derived.Deep.OwnRows
namespace Go.Proofs.YtnbnfgljbhidbaaDoor
open Go.RowKit Go.Mine Go.Mine.Tour Go.Deep

theorem run11 (v : Value) (w : World) : Sem.run Tryd.prog (callFunc 16 (#[v] ++ #[])) w = .ok (.enter 16 (#[v] ++ #[])) w := by kernel_rfl
theorem nonzero_any (z : Int) (w : World) : Calls Tryd.prog 16 #[.int .i64 z] w fun e w' => e = .returned (.bool (!(z == 0))) ∧ w = w' := by
  go_enter Tryd.func16, Tryd.ntmps16
  go_wp2_with fail
  go_ret
  exact ⟨rfl, rfl⟩

theorem zeros_succ {xs : List Int} {k : Nat} (hk : k < xs.length) (h : ∀ x ∈ xs.take k, x = 0) (hz : xs.getD k 0 = 0) : ∀ x ∈ xs.take (k + 1), x = 0 := by
  intro x hx
  rw [List.take_succ_eq_append_getElem hk, List.mem_append] at hx
  rcases hx with hx | hx
  · exact h x hx
  · simp at hx; subst hx; simpa [hk] using hz

theorem index_any (xs : List Int) (ao : Option Addr) (c : Nat) (w : World) (hx : IntsAt .i64 w ao xs) (hl : xs.length ≤ 1000) :
    Calls Tryd.prog 19 #[.slice ao xs.length c, .func (.func 16) #[] #[]] w fun e w' => (∃ z, e = .returned (.int .i64 z) ∧ ((z = -1 ∧ ∀ x ∈ xs, x = 0) ∨ (0 ≤ z ∧ ∃ x ∈ xs, x ≠ 0))) ∧ w = w' := by
  have HX := Lib.hid hx
  clear hx
  have hrun := run11
  go_enter Tryd.func19, Tryd.ntmps19
  go_wp2_with fail
  go_loop [8] (fun i => ∃ k : Nat, i = .int .i64 k ∧ k ≤ xs.length ∧ RowKit.Hid (∀ x ∈ xs.take k, x = 0)) (fun i => xs.length - (intOf i).toNat)
  case atStart => exact ⟨0, rfl, by omega, Lib.hid (by simp)⟩
  case round =>
    obtain ⟨k, rfl, hk, hall⟩ := hrel
    by_cases hlt : k < xs.length
    · obtain ⟨b, o, rfl, hc⟩ := HX.out k hlt
      have hmem : xs.getD k 0 ∈ xs := by simp [hlt]
      have hzs := fun h => zeros_succ hlt hall.out h
      obtain ⟨z, hz⟩ : ∃ z, z = xs.getD k 0 := ⟨_, rfl⟩
      rw [← hz] at hc hmem hzs
      have HM := Lib.hid hmem
      have HZS := Lib.hid hzs
      clear hz hmem hzs
      go_wp2_with fail
      refine (nonzero_any z w).mono ?_
      rintro e w' ⟨rfl, rfl⟩
      by_cases h0 : z = 0
      · subst h0
        go_wp2_with fail
        go_round
        case rel => exact ⟨k + 1, by go_num, by omega, Lib.hid (HZS.out (by first | trivial | rfl))⟩
        case measure => simp [intOf]; omega
      · have hd : (z == 0) = false := by simpa using h0
        have H0 := Lib.hid h0
        clear h0
        go_wp2_with fail
        go_ret
        exact ⟨⟨_, rfl, .inr ⟨by omega, z, HM.out, H0.out⟩⟩, rfl⟩
    · have hke : k = xs.length := by omega
      subst hke
      go_wp2_with fail
      go_ret
      exact ⟨⟨_, rfl, .inl ⟨rfl, by have := hall.out; rwa [List.take_length] at this⟩⟩, rfl⟩

theorem contains_any (xs : List Int) (ao : Option Addr) (c : Nat) (w : World) (hx : IntsAt .i64 w ao xs) (hl : xs.length ≤ 1000) :
    Calls Tryd.prog 15 #[.slice ao xs.length c, .func (.func 16) #[] #[]] w fun e w' => e = .returned (.bool (decide (∃ x ∈ xs, x ≠ 0))) ∧ w = w' := by
  have H := index_any xs ao c w hx hl
  go_enter Tryd.func15, Tryd.ntmps15
  go_wp2_with fail
  refine H.mono ?_
  rintro e w' ⟨⟨z, rfl, hz⟩, rfl⟩
  rcases hz with ⟨rfl, hz⟩ | ⟨hz, hx⟩
  · have HZ := Lib.hid hz
    clear hz H
    go_wp2_with fail
    go_ret
    refine ⟨?_, rfl⟩
    rw [decide_eq_false (fun ⟨x, hx, hne⟩ => hne (HZ.out x hx))]
    rfl
  · have HX := Lib.hid hx
    clear hx H
    have hd : decide (0 ≤ z) = true := by simpa using hz
    go_wp2_with fail
    go_ret
    refine ⟨?_, rfl⟩
    rw [decide_eq_true HX.out]
    simp [hz]
end Go.Proofs.YtnbnfgljbhidbaaDoor
