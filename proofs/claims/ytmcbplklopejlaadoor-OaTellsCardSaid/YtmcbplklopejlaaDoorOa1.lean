/- oa.check; slices.Min, slices.Max at []int. No conditions. -/
import Derived.Test.YtmcbplklopejlaaDoorContains
import Derived.Test.YtmcbplklopejlaaDoorRows3
namespace Go.Proofs.YtmcbplklopejlaaDoor
open Go.RowKit Go.Mine

def qok (q : Int) : Prop := q = 2 ∨ q = 3 ∨ q = 5 ∨ q = 7
set_option maxHeartbeats 400000 in
theorem oacheck_any (q : Int) (w : World) :
    Calls Tryd.prog 8 #[.int .i64 q] w fun e w' => ((qok q ∧ e = .returned .nilIface) ∨ (¬ qok q ∧ e = .returned (.iface 23 (.int .i64 1)))) ∧ Below w.heap.size w w' := by
  have HC := Lib.hid (fun (w' : World) (h : IntsAt .i64 w' (some ⟨w.heap.size, 0, none⟩) [2, 3, 5, 7]) => contains_any [2, 3, 5, 7] q (some ⟨w.heap.size, 0, none⟩) 4 w' h (by decide))
  go_enter Tryd.func8, Tryd.ntmps8
  go_wp2_with fail
  refine (HC.out _ ?_).mono ?_
  · exact IntsAt.of_owns (base := w.heap.size) (World.ownsRow_lit (e := 3) (size := 1) w #[.int .i64 2, .int .i64 3, .int .i64 5, .int .i64 7] 4 (Nat.le_refl _) (by decide) (by simp))
  rintro e w1 ⟨rfl, rfl⟩
  by_cases hq : q ∈ [2, 3, 5, 7]
  · have hd : decide (q ∈ [2, 3, 5, 7]) = true := decide_eq_true hq
    rw [hd]
    have HQ := Lib.hid hq
    clear hq hd
    go_wp2_with fail
    go_ret
    exact ⟨.inl ⟨by have := HQ.out; simpa [qok] using this, rfl⟩, (Below.refl _ _).alloc (Nat.le_refl _) _⟩
  · have hd : decide (q ∈ [2, 3, 5, 7]) = false := decide_eq_false hq
    rw [hd]
    have HQ := Lib.hid hq
    clear hq hd
    go_wp2_with fail
    go_ret
    exact ⟨.inr ⟨by have := HQ.out; simpa [qok] using this, rfl⟩, (Below.refl _ _).alloc (Nat.le_refl _) _⟩

def MinOf (xs : List Int) (z : Int) : Prop := z ∈ xs ∧ ∀ y ∈ xs, z ≤ y
def MaxOf (xs : List Int) (z : Int) : Prop := z ∈ xs ∧ ∀ y ∈ xs, y ≤ z
set_option maxHeartbeats 400000 in
theorem min_any (xs : List Int) (ao : Option Addr) (c : Nat) (w : World) (hx : IntsAt .i64 w ao xs) (hl : xs.length ≤ maxLen) (h0 : 0 < xs.length) :
    Calls Tryd.prog 11 #[.slice ao xs.length c] w fun e w' => (∃ z, e = .returned (.int .i64 z) ∧ MinOf xs z) ∧ w = w' := by
  unfold maxLen at hl
  have HX := Lib.hid hx
  obtain ⟨b, o, rfl, hc⟩ := hx 0 h0
  obtain ⟨x0, hx0⟩ : ∃ x0, x0 = xs.getD 0 0 := ⟨_, rfl⟩
  rw [← hx0, Nat.add_zero] at hc
  have HX0 := Lib.hid (show ∀ j, j < 1 → x0 ≤ xs.getD j 0 from fun j hj => by
    have e : j = 0 := by omega
    rw [e, ← hx0]
    exact Int.le_refl _)
  have HM0 := Lib.hid (show x0 ∈ xs by rw [hx0]; simp [h0])
  clear hx hx0
  go_enter Tryd.func11, Tryd.ntmps11
  go_wp2_with fail
  go_loop [3, 4] (fun m i => ∃ (z : Int) (k : Nat), m = .int .i64 z ∧ i = .int .i64 k ∧ 1 ≤ k ∧ k ≤ xs.length ∧ RowKit.Hid (z ∈ xs ∧ ∀ j, j < k → z ≤ xs.getD j 0)) (fun _ i => xs.length - (intOf i).toNat)
  case atStart => exact ⟨x0, 1, rfl, rfl, Nat.le_refl _, h0, Lib.hid ⟨HM0.out, HX0.out⟩⟩
  case round =>
    obtain ⟨z, k, rfl, rfl, hk1, hk, hall⟩ := hrel
    by_cases hlt : k < xs.length
    · obtain ⟨b', o', he, hc'⟩ := HX.out k hlt
      cases he
      have hmem := Lib.hid (show xs.getD k 0 ∈ xs by simp [hlt])
      obtain ⟨y, hy⟩ : ∃ y, y = xs.getD k 0 := ⟨_, rfl⟩
      rw [← hy] at hc' hmem
      have HY := Lib.hid hy
      clear hy
      have HS : ∀ u : Int, u ≤ z → u ≤ y → RowKit.Hid (∀ j, j < k + 1 → u ≤ xs.getD j 0) := fun u h1 h2 => Lib.hid (fun j hj => by
        by_cases e : j = k
        · rw [e, ← HY.out]; exact h2
        · exact Int.le_trans h1 (hall.out.2 j (by omega)))
      by_cases hv : z < y
      · have H1 := HS z (Int.le_refl _) (by omega)
        clear HS
        go_wp2_with fail
        go_round
        case rel => exact ⟨z, k + 1, rfl, by go_num, by omega, by omega, Lib.hid ⟨hall.out.1, H1.out⟩⟩
        case measure => simp [intOf]; omega
      · have H1 := HS y (by omega) (Int.le_refl _)
        clear HS
        go_wp2_with fail
        go_round
        case rel => exact ⟨y, k + 1, by congr 1; split <;> omega, by go_num, by omega, by omega, Lib.hid ⟨hmem.out, H1.out⟩⟩
        case measure => simp [intOf]; omega
    · have hke : k = xs.length := by omega
      subst hke
      go_wp2_with fail
      go_ret
      refine ⟨⟨z, rfl, hall.out.1, fun y hy => ?_⟩, rfl⟩
      obtain ⟨j, hj, rfl⟩ := List.mem_iff_getElem.1 hy
      have := hall.out.2 j hj
      simpa [hj] using this
set_option maxHeartbeats 400000 in
theorem max_any (xs : List Int) (ao : Option Addr) (c : Nat) (w : World) (hx : IntsAt .i64 w ao xs) (hl : xs.length ≤ maxLen) (h0 : 0 < xs.length) :
    Calls Tryd.prog 12 #[.slice ao xs.length c] w fun e w' => (∃ z, e = .returned (.int .i64 z) ∧ MaxOf xs z) ∧ w = w' := by
  unfold maxLen at hl
  have HX := Lib.hid hx
  obtain ⟨b, o, rfl, hc⟩ := hx 0 h0
  obtain ⟨x0, hx0⟩ : ∃ x0, x0 = xs.getD 0 0 := ⟨_, rfl⟩
  rw [← hx0, Nat.add_zero] at hc
  have HX0 := Lib.hid (show ∀ j, j < 1 → xs.getD j 0 ≤ x0 from fun j hj => by
    have e : j = 0 := by omega
    rw [e, ← hx0]
    exact Int.le_refl _)
  have HM0 := Lib.hid (show x0 ∈ xs by rw [hx0]; simp [h0])
  clear hx hx0
  go_enter Tryd.func12, Tryd.ntmps12
  go_wp2_with fail
  go_loop [3, 4] (fun m i => ∃ (z : Int) (k : Nat), m = .int .i64 z ∧ i = .int .i64 k ∧ 1 ≤ k ∧ k ≤ xs.length ∧ RowKit.Hid (z ∈ xs ∧ ∀ j, j < k → xs.getD j 0 ≤ z)) (fun _ i => xs.length - (intOf i).toNat)
  case atStart => exact ⟨x0, 1, rfl, rfl, Nat.le_refl _, h0, Lib.hid ⟨HM0.out, HX0.out⟩⟩
  case round =>
    obtain ⟨z, k, rfl, rfl, hk1, hk, hall⟩ := hrel
    by_cases hlt : k < xs.length
    · obtain ⟨b', o', he, hc'⟩ := HX.out k hlt
      cases he
      have hmem := Lib.hid (show xs.getD k 0 ∈ xs by simp [hlt])
      obtain ⟨y, hy⟩ : ∃ y, y = xs.getD k 0 := ⟨_, rfl⟩
      rw [← hy] at hc' hmem
      have HY := Lib.hid hy
      clear hy
      have HS : ∀ u : Int, z ≤ u → y ≤ u → RowKit.Hid (∀ j, j < k + 1 → xs.getD j 0 ≤ u) := fun u h1 h2 => Lib.hid (fun j hj => by
        by_cases e : j = k
        · rw [e, ← HY.out]; exact h2
        · exact Int.le_trans (hall.out.2 j (by omega)) h1)
      by_cases hv : y < z
      · have H1 := HS z (Int.le_refl _) (by omega)
        clear HS
        go_wp2_with fail
        go_round
        case rel => exact ⟨z, k + 1, rfl, by go_num, by omega, by omega, Lib.hid ⟨hall.out.1, H1.out⟩⟩
        case measure => simp [intOf]; omega
      · have H1 := HS y (by omega) (Int.le_refl _)
        clear HS
        go_wp2_with fail
        go_round
        case rel => exact ⟨y, k + 1, by congr 1; split <;> omega, by go_num, by omega, by omega, Lib.hid ⟨hmem.out, H1.out⟩⟩
        case measure => simp [intOf]; omega
    · have hke : k = xs.length := by omega
      subst hke
      go_wp2_with fail
      go_ret
      refine ⟨⟨z, rfl, hall.out.1, fun y hy => ?_⟩, rfl⟩
      obtain ⟨j, hj, rfl⟩ := List.mem_iff_getElem.1 hy
      have := hall.out.2 j hj
      simpa [hj] using this
end Go.Proofs.YtmcbplklopejlaaDoor
