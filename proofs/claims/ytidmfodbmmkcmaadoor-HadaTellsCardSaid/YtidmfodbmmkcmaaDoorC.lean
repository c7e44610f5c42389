import Derived.Test.YtidmfodbmmkcmaaDoorB
namespace Go.Proofs.YtidmfodbmmkcmaaDoor
open Go.RowKit Go.Mine Go.Mine.Hada

/-- The first n numbers, as the machine has them. -/
def vals (h : Nat → Int) (n : Nat) : List Int := (List.range n).map fun j => wrap64 (h j)
theorem R_vals (h : Nat → Int) (n : Nat) : R h n = (vals h n).map (Value.int .i64) := by simp [R, vals]
theorem vals_len (h : Nat → Int) (n : Nat) : (vals h n).length = n := by simp [vals]
theorem vals_at (h : Nat → Int) (n j : Nat) : (vals h n).getD j 0 = if j < n then wrap64 (h j) else 0 := by
  unfold vals
  by_cases hj : j < n
  · simp [hj]
  · simp [hj]
theorem vals_wrap (h : Nat → Int) (n j : Nat) : wrap64 ((vals h n).getD j 0) = (vals h n).getD j 0 := by
  rw [vals_at]
  split
  · exact wrap_idem _
  · exact wrap_id 0 (by decide)
theorem vals_congr {h h' : Nat → Int} {n : Nat} (hh : ∀ j, j < n → wrap64 (h j) = wrap64 (h' j)) : vals h n = vals h' n := by
  unfold vals
  exact List.map_congr_left fun j hj => hh j (by simpa using hj)
/-- Effects of what effects told. -/
theorem G_vals (k : Nat) (h : Nat → Int) (n j : Nat) (hn : n = 2 ^ k) (hj : j < n) : wrap64 (G k (fun j => (vals h n).getD j 0) j) = wrap64 (G k h j) := by
  subst hn
  rw [G_congr k (g := fun j => wrap64 (h j)) (fun i hi => by rw [vals_at, if_pos hi]) j hj]
  exact G_wrap k _ _ (fun i => wrap_idem _) j
theorem list_vals (xs : List Int) (hw : ∀ j, wrap64 (xs.getD j 0) = xs.getD j 0) : vals (fun j => xs.getD j 0) xs.length = xs := by
  apply List.ext_getElem?
  intro j
  by_cases hj : j < xs.length
  · have := hw j
    simp [hj] at this
    simp [vals, hj, this]
  · rw [List.getElem?_eq_none (by rw [vals_len]; omega), List.getElem?_eq_none (by omega)]

/-- Where the numbers are small the way back tells the list. -/
theorem small_back (k : Nat) (xs : List Int) (n : Nat) (hn : n = 2 ^ k) (hk : k ≤ 6) (hl : xs.length = n) (hs : ∀ j, j < n → -1099511627776 ≤ xs.getD j 0 ∧ xs.getD j 0 ≤ 1099511627776) :
    (∀ j, j < n → good n ((vals (G k fun j => xs.getD j 0) n).getD j 0) (wrap64 (G k (fun j => (vals (G k fun j => xs.getD j 0) n).getD j 0) j))) ∧
    R (fun j => (wrap64 (G k (fun j => (vals (G k fun j => xs.getD j 0) n).getD j 0) j)).tdiv n) n = xs.map (Value.int .i64) := by
  have hs' : ∀ j, -1099511627776 ≤ xs.getD j 0 ∧ xs.getD j 0 ≤ 1099511627776 := fun j => by
    by_cases hj : j < n
    · exact hs j hj
    · have : xs.getD j 0 = 0 := by simp; rw [List.getElem?_eq_none (by omega)]; rfl
      rw [this]; decide
  have hb := G_bound k (fun j => xs.getD j 0) 1099511627776 hs'
  have hp : (2 : Int) ^ k ≤ 64 := by
    have := pow_le hk
    have e : (2 : Int) ^ k = ((2 ^ k : Nat) : Int) := by simp
    rw [e]; omega
  have hpn : (2 : Int) ^ k = (n : Int) := by rw [hn]; simp
  have hn1 : 0 < n := by rw [hn]; exact Nat.two_pow_pos k
  have e1 : ∀ j, j < n → (vals (G k fun j => xs.getD j 0) n).getD j 0 = G k (fun j => xs.getD j 0) j := fun j hj => by
    rw [vals_at, if_pos hj]
    have := hb j
    exact wrap_id _ (by omega)
  have e2 : ∀ j, j < n → wrap64 (G k (fun j => (vals (G k fun j => xs.getD j 0) n).getD j 0) j) = n * xs.getD j 0 := fun j hj => by
    rw [G_vals k _ n j hn hj, G_twice k _ j (by rw [← hn]; exact hj), hpn]
    have h1 := hs' j
    have h2 : (n : Int) * xs.getD j 0 ≤ n * 1099511627776 := Int.mul_le_mul_of_nonneg_left h1.2 (by omega)
    have h3 : (n : Int) * (-1099511627776) ≤ n * xs.getD j 0 := Int.mul_le_mul_of_nonneg_left h1.1 (by omega)
    exact wrap_id _ (by omega)
  have hz : (n : Int) ≠ 0 := by omega
  refine ⟨fun j hj => ?_, ?_⟩
  · rw [e1 j hj, e2 j hj]
    have := hb j
    have h1 := hs' j
    refine ⟨by omega, Int.mul_tmod_right _ _, ?_, ?_⟩
    · rw [Int.mul_tdiv_cancel_left _ hz]; exact h1.1
    · rw [Int.mul_tdiv_cancel_left _ hz]; exact h1.2
  · apply List.ext_getElem?
    intro j
    by_cases hj : j < n
    · rw [R_at _ hj, e2 j hj, Int.mul_tdiv_cancel_left _ hz, wrap_id _ (by have := hs' j; omega)]
      simp [show j < xs.length by omega]
    · rw [List.getElem?_eq_none (by rw [R_len]; omega), List.getElem?_eq_none (by simp; omega)]

theorem halved_any (W : World) : Calls Tryd.prog 4 #[] W fun e w' => e = .returned (.bool true) ∧ Below W.heap.size W w' := by
  have hx : IntsAt .i64 (W.alloc (.cells #[.int .i64 5, .int .i64 3] 3)) (some ⟨W.heap.size, 0, none⟩) [5, 3] := by
    intro j hj
    refine ⟨_, _, rfl, ?_⟩
    simp at hj
    rcases (show j = 0 ∨ j = 1 by omega) with rfl | rfl <;> simp [go_sem]
  have hb0 : Below W.heap.size W (W.alloc (.cells #[.int .i64 5, .int .i64 3] 3)) := (Below.refl _ _).alloc (Nat.le_refl _) _
  have HX := Lib.hid hx; clear hx
  have hR : R (G 1 fun j => ([5, 3] : List Int).getD j 0) 2 = ([8, 2] : List Int).map (Value.int .i64) := by
    rw [R_vals]; congr 1; decide +kernel
  have HR := Lib.hid hR; clear hR
  go_enter Tryd.func4, Tryd.ntmps4
  go_wp2_with fail
  refine (effects_ok 1 [5, 3] _ 2 _ HX.out (by omega) rfl (fun j => ?_)).mono ?_
  · match j with
    | 0 => exact wrap_id 5 (by decide)
    | 1 => exact wrap_id 3 (by decide)
    | j + 2 => exact wrap_id 0 (by decide)
  rintro e w1 ⟨g, cap, rfl, hown, hb⟩
  rw [show ([5, 3] : List Int).length = 2 from rfl, HR.out] at hown
  have hb1 := hb0.trans (hb.mono (by simp))
  have hx8 := (IntsAt.of_owns hown).below (Nat.le_refl _) ((Below.refl w1.heap.size w1).alloc (Nat.le_refl _) (.cells #[.int .i64 8, .int .i64 2] 3))
  have hy8 : IntsAt .i64 (w1.alloc (.cells #[.int .i64 8, .int .i64 2] 3)) (some ⟨w1.heap.size, 0, none⟩) [8, 2] := by
    intro j hj
    refine ⟨_, _, rfl, ?_⟩
    simp at hj
    rcases (show j = 0 ∨ j = 1 by omega) with rfl | rfl <;> simp [go_sem]
  have HX8 := Lib.hid hx8
  have HY8 := Lib.hid hy8
  have hsz := hb1.size
  clear hx8 hy8 hown hb
  go_wp2_with fail
  refine (Ints_any [8, 2] [8, 2] _ _ cap 2 _ HX8.out HY8.out (by decide)).mono ?_
  rintro e w2 ⟨rfl, nq, rfl⟩
  go_wp2_with fail
  go_ret
  exact ⟨by simp, below_drewN (hb1.alloc hsz _) _⟩
end Go.Proofs.YtidmfodbmmkcmaaDoor
