/- What fails, where some numbers must be there (fault with 1); and DdNeeds' own fact. -/
import Derived.Test.YtgkjmacdllibmaaQIn
import Derived.Test.YtgkjmacdllibmaaP
import Derived.Test.YtgkjmacdllibmaaB
namespace Go.Proofs.Ytgkjmacdllibmaa
open Go.RowKit Go.Mine Go.Mine.Dd

theorem allIn_take {need xs : List Int} {k : Nat} (hk : k < need.length) (h : allIn (need.take k) xs = true) (hx : decide (need.getD k 0 ∈ xs) = true) : allIn (need.take (k + 1)) xs = true := by
  rw [allIn_iff] at h ⊢
  intro x hx'
  rw [List.take_succ_eq_append_getElem hk, List.mem_append] at hx'
  rcases hx' with hx' | hx'
  · exact h x hx'
  · simp at hx'
    subst hx'
    simpa [hk] using hx
theorem allIn_not {need xs : List Int} {k : Nat} (hk : k < need.length) (hx : decide (need.getD k 0 ∈ xs) = false) : allIn need xs = false := by
  rw [← Bool.not_eq_true, allIn_iff]
  intro h
  have := h (need.getD k 0) (by simp [hk])
  simp only [decide_eq_false_iff_not] at hx
  exact hx this

set_option maxHeartbeats 400000 in
theorem fault_need (bh bl bn : Nat) (an : Option Addr) (cn : Nat) (need : List Int) (ao : Option Addr) (c : Nat) (xs : List Int) (w : World) (hh : w.cell? ⟨bh, 0, none⟩ = some (.int .i64 1)) (hc : w.cell? ⟨bn, 0, none⟩ = some (.slice an need.length cn))
    (hn : IntsAt .i64 w an need) (hx : IntsAt .i64 w ao xs) (hl : xs.length ≤ 12) (hln : need.length ≤ maxLen) :
    Calls Try.prog 10 #[.slice ao xs.length c, .pointer (some ⟨bh, 0, none⟩), .pointer (some ⟨bl, 0, none⟩), .pointer (some ⟨bn, 0, none⟩)] w fun e w' => e = .returned (.bool (allIn need xs)) ∧ w = w' := by
  unfold maxLen at hln
  have HX := Lib.hid hx
  have HN := Lib.hid hn
  have hxl : xs.length ≤ maxLen := by unfold maxLen; omega
  have HXL := Lib.hid hxl
  clear hx hn hxl
  go_enter Try.func10, Try.ntmps10
  go_wp2_with fail
  go_loop [6, 7] (fun s i => ∃ (k : Nat) (t : Int), i = .int .i64 k ∧ s = .int .i64 t ∧ k ≤ xs.length) (fun _ i => xs.length - (intOf i).toNat)
  case atStart => exact ⟨0, 0, rfl, rfl, by omega⟩
  case round =>
    obtain ⟨k, t, rfl, rfl, hk⟩ := hrel
    by_cases hlt : k < xs.length
    · obtain ⟨b, o, rfl, hcc⟩ := HX.out k hlt
      go_wp2_with fail
      go_round
      case rel => exact ⟨k + 1, _, by go_num, rfl, by omega⟩
      case measure => simp [intOf]; omega
    · have hke : k = xs.length := by omega
      subst hke
      go_wp2_with fail
      go_loop [8] (fun i => ∃ j : Nat, i = .int .i64 j ∧ j ≤ need.length ∧ allIn (need.take j) xs = true) (fun i => need.length - (intOf i).toNat)
      case atStart => exact ⟨0, rfl, by omega, rfl⟩
      case round =>
        obtain ⟨j, rfl, hj, hall⟩ := hrel
        have HALL := Lib.hid hall
        clear hall
        by_cases hjn : j < need.length
        · obtain ⟨b, o, rfl, hcc⟩ := HN.out j hjn
          have hin : ∀ v, decide (need.getD j 0 ∈ xs) = v → RowKit.Hid (decide (need.getD j 0 ∈ xs) = v) := fun _ h => Lib.hid h
          have HIN := In_any xs (need.getD j 0) ao c w HX.out HXL.out
          obtain ⟨d, hd⟩ : ∃ d, d = decide (need.getD j 0 ∈ xs) := ⟨_, rfl⟩
          have HD := hin d hd.symm
          rw [← hd] at HIN
          clear hin hd
          obtain ⟨z, hz⟩ : ∃ z, z = need.getD j 0 := ⟨_, rfl⟩
          rw [← hz] at hcc HIN
          clear hz
          go_wp2_with fail
          refine HIN.mono ?_
          rintro e w' ⟨rfl, rfl⟩
          cases d
          · go_wp2_with fail
            go_ret
            exact ⟨by rw [allIn_not hjn HD.out]; rfl, rfl⟩
          · go_wp2_with fail
            go_round
            case rel => exact ⟨j + 1, by go_num, by omega, allIn_take hjn HALL.out HD.out⟩
            case measure => simp [intOf]; omega
        · have hje : j = need.length := by omega
          subst hje
          go_wp2_with fail
          go_ret
          exact ⟨by have h := HALL.out; rw [List.take_length] at h; rw [h]; rfl, rfl⟩

theorem two_in (ao : Option Addr) (c : Nat) (xs : List Int) (w : World) (hx : IntsAt .i64 w ao xs) (hl : xs.length ≤ 12) :
    Calls Try.prog 6 #[.slice ao xs.length c] w fun e w' => e = .returned (.bool (decide (2 ∈ xs))) ∧ w = w' := by
  have H := In_any xs 2 ao c w hx (by unfold maxLen; omega)
  go_enter Try.func6, Try.ntmps6
  go_wp2_with fail
  refine H.mono ?_
  rintro e w' ⟨rfl, rfl⟩
  go_wp2_with fail
  go_ret
  exact ⟨rfl, rfl⟩
end Go.Proofs.Ytgkjmacdllibmaa
