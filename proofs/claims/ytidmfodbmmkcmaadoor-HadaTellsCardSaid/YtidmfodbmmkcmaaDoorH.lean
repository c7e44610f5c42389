import Derived.Test.YtidmfodbmmkcmaaDoorG
namespace Go.Proofs.YtidmfodbmmkcmaaDoor
open Go.RowKit Go.Mine Go.Mine.Hada

/-! ### Half and half: plain numbers -/
def sgR : Nat → Nat → Nat → Int
  | 0, _, _ => 1
  | k + 1, i, x => (if i % 2 = 1 ∧ x % 2 = 1 then -1 else 1) * sgR k (i / 2) (x / 2)
theorem sg_sgR : ∀ k, k < 7 → ∀ i, i < 2 ^ k → ∀ x, x < 2 ^ k → sg i x = sgR k i x := by decide +kernel
theorem sg_one : ∀ i, i < 64 → ∀ x, x < 64 → sg i x = 1 ∨ sg i x = -1 := by decide +kernel
theorem sg_comm (i x : Nat) : sg i x = sg x i := by unfold sg; rw [Nat.and_comm]
def sumN (f : Nat → Int) : Nat → Int
  | 0 => 0
  | n + 1 => sumN f n + f n
theorem sumN_congr {f g : Nat → Int} : ∀ {n : Nat}, (∀ x, x < n → f x = g x) → sumN f n = sumN g n
  | 0, _ => rfl
  | n + 1, h => by rw [sumN, sumN, sumN_congr (fun x hx => h x (by omega)), h n (by omega)]
theorem sumN_double (f : Nat → Int) : ∀ n, sumN f (2 * n) = sumN (fun y => f (2 * y) + f (2 * y + 1)) n
  | 0 => rfl
  | n + 1 => by
    rw [show 2 * (n + 1) = 2 * n + 1 + 1 by omega, sumN, sumN, sumN, sumN_double f n]; omega
theorem sumN_mul (c : Int) (f : Nat → Int) : ∀ n, sumN (fun y => c * f y) n = c * sumN f n
  | 0 => by simp [sumN]
  | n + 1 => by rw [sumN, sumN, sumN_mul c f n, Int.mul_add]
theorem half (k : Nat) : ∀ i j, i < 2 ^ k → j < 2 ^ k → sumN (fun x => sgR k i x * sgR k j x) (2 ^ k) = if i = j then 2 ^ k else 0 := by
  induction k with
  | zero =>
    intro i j hi hj
    have e1 : i = 0 := by simpa using hi
    have e2 : j = 0 := by simpa using hj
    subst e1; subst e2
    rfl
  | succ k ih =>
    intro i j hi hj
    rw [Nat.pow_succ] at hi hj ⊢
    rw [Nat.mul_comm (2 ^ k) 2, sumN_double]
    have hstep : ∀ y, sgR (k + 1) i (2 * y) * sgR (k + 1) j (2 * y) + sgR (k + 1) i (2 * y + 1) * sgR (k + 1) j (2 * y + 1) = (if i % 2 = j % 2 then 2 else 0) * (sgR k (i / 2) y * sgR k (j / 2) y) := by
      intro y
      have a1 : 2 * y % 2 = 0 := by omega
      have a2 : (2 * y + 1) % 2 = 1 := by omega
      have a3 : 2 * y / 2 = y := by omega
      have a4 : (2 * y + 1) / 2 = y := by omega
      simp only [sgR, a1, a2, a3, a4]
      obtain ⟨p, hp⟩ : ∃ p, p = sgR k (i / 2) y := ⟨_, rfl⟩
      obtain ⟨q, hq⟩ : ∃ q, q = sgR k (j / 2) y := ⟨_, rfl⟩
      rw [← hp, ← hq]
      rcases Nat.mod_two_eq_zero_or_one i with h1 | h1 <;> rcases Nat.mod_two_eq_zero_or_one j with h2 | h2 <;> simp [h1, h2, Int.mul_neg, Int.neg_mul] <;> omega
    rw [sumN_congr (g := fun y => (if i % 2 = j % 2 then 2 else 0) * (sgR k (i / 2) y * sgR k (j / 2) y)) fun y _ => hstep y, sumN_mul, ih (i / 2) (j / 2) (by omega) (by omega)]
    have hp : (2 : Int) ^ (k + 1) = 2 * 2 ^ k := by rw [Int.pow_succ, Int.mul_comm]
    by_cases hij : i = j
    · subst hij
      simp [hp]
    · rw [if_neg hij]
      by_cases h1 : i % 2 = j % 2
      · rw [if_pos h1, if_neg (by omega)]; simp
      · rw [if_neg h1]; simp
theorem rows_sum (k n i j : Nat) (hk : k ≤ 6) (hn : n = 2 ^ k) (hi : i < n) (hj : j < n) : sumN (fun x => sg i x * sg j x) n = if i = j then (n : Int) else 0 := by
  subst hn
  rw [sumN_congr (g := fun x => sgR k i x * sgR k j x) fun x hx => by rw [sg_sgR k (by omega) i hi x hx, sg_sgR k (by omega) j hj x hx], half k i j hi hj]
  split <;> simp
theorem sg_zero (x : Nat) : sg 0 x = 1 := by unfold sg; simp [pc]
theorem own_sum (k n i : Nat) (hk : k ≤ 6) (hn : n = 2 ^ k) (hi : i < n) : sumN (sg i) n = if i = 0 then (n : Int) else 0 := by
  have := rows_sum k n i 0 hk hn hi (by rw [hn]; exact Nat.two_pow_pos k)
  rw [← this]
  exact sumN_congr fun x _ => by rw [sg_zero, Int.mul_one]
theorem sumN_le (f : Nat → Int) : ∀ n, (∀ x, x < n → -1 ≤ f x ∧ f x ≤ 1) → -(n : Int) ≤ sumN f n ∧ sumN f n ≤ n
  | 0, _ => by simp [sumN]
  | n + 1, h => by
    have h1 := sumN_le f n (fun x hx => h x (by omega))
    have h2 := h n (by omega)
    rw [sumN]; omega
end Go.Proofs.YtidmfodbmmkcmaaDoor
