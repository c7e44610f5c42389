/- Effects as sums of signs; who can be told back is small. Plain numbers. -/
import Derived.Test.YtidmfodbmmkcmaaDoorH
namespace Go.Proofs.YtidmfodbmmkcmaaDoor
open Go.RowKit Go.Mine Go.Mine.Hada

theorem sg_split : ∀ s, s < 6 → ∀ i, i < 2 ^ s → ∀ j, j < 2 ^ s → sg i (2 ^ s + j) = sg i j ∧ sg (2 ^ s + i) j = sg i j ∧ sg (2 ^ s + i) (2 ^ s + j) = - sg i j := by decide +kernel
theorem sumN_split (f : Nat → Int) (a : Nat) : ∀ b, sumN f (a + b) = sumN f a + sumN (fun j => f (a + j)) b
  | 0 => by simp [sumN]
  | b + 1 => by rw [← Nat.add_assoc, sumN, sumN_split f a b, sumN, Int.add_assoc]
theorem sumN_neg (f : Nat → Int) (n : Nat) : sumN (fun j => - f j) n = - sumN f n := by
  have h := sumN_mul (-1) f n
  simpa using h
theorem G_sum : ∀ k, k ≤ 6 → ∀ (f : Nat → Int) (i : Nat), i < 2 ^ k → G k f i = sumN (fun j => sg i j * f j) (2 ^ k)
  | 0, _, f, i, hi => by
    have : i = 0 := by simpa using hi
    subst this
    simp [G, sumN, sg_zero]
  | k + 1, hk, f, i, hi => by
    have ih := G_sum k (by omega)
    have e : 2 ^ (k + 1) = 2 ^ k + 2 ^ k := by rw [Nat.pow_succ]; omega
    rw [e, sumN_split]
    by_cases h : i < 2 ^ k
    · rw [G_left k f i h, ih f i h, ih _ i h]
      congr 1
      refine sumN_congr fun j hj => ?_
      rw [(sg_split k (by omega) i h j hj).1]
    · obtain ⟨i', rfl⟩ : ∃ i', i = 2 ^ k + i' := ⟨i - 2 ^ k, by omega⟩
      have h' : i' < 2 ^ k := by omega
      rw [G_right k f i' h', ih f i' h', ih _ i' h', Int.sub_eq_add_neg, ← sumN_neg]
      congr 1
      · refine sumN_congr fun j hj => ?_
        rw [(sg_split k (by omega) i' h' j hj).2.1]
      · refine sumN_congr fun j hj => ?_
        rw [(sg_split k (by omega) i' h' j hj).2.2, Int.neg_mul]
theorem G_mul (k : Nat) (hk : k ≤ 6) (c : Int) (f : Nat → Int) (i : Nat) (hi : i < 2 ^ k) : G k (fun j => c * f j) i = c * G k f i := by
  rw [G_sum k hk _ i hi, G_sum k hk _ i hi, ← sumN_mul]
  refine sumN_congr fun j _ => ?_
  rw [← Int.mul_assoc, ← Int.mul_assoc, Int.mul_comm (sg i j) c]

theorem good_small (k n : Nat) (xs : List Int) (hn : n = 2 ^ k) (hk : k ≤ 6) (hl : xs.length = n) (h : ∀ j, j < n → good n (xs.getD j 0) (wrap64 (G k (fun j => xs.getD j 0) j))) :
    ∀ j, j < n → -70368744177664 ≤ xs.getD j 0 ∧ xs.getD j 0 ≤ 70368744177664 := by
  obtain ⟨f, hf⟩ : ∃ f : Nat → Int, f = fun j => xs.getD j 0 := ⟨_, rfl⟩
  have hfj : ∀ j, xs.getD j 0 = f j := fun j => by rw [hf]
  simp only [hfj] at h ⊢
  have hz : ∀ j, n ≤ j → f j = 0 := fun j hj => by rw [hf]; simp; rw [List.getElem?_eq_none (by omega)]; rfl
  clear hfj hf hl xs
  have hp : (2 : Int) ^ k ≤ 64 := by
    have := pow_le hk
    have e : (2 : Int) ^ k = ((2 ^ k : Nat) : Int) := by simp
    rw [e]; omega
  have hpn : (2 : Int) ^ k = (n : Int) := by rw [hn]; simp
  have hn1 : 0 < n := by rw [hn]; exact Nat.two_pow_pos k
  have hs : ∀ j, -140737488355328 ≤ f j ∧ f j ≤ 140737488355328 := fun j => by
    by_cases hj : j < n
    · exact (h j hj).1
    · rw [hz j (by omega)]; decide
  have hb := G_bound k f 140737488355328 hs
  have hw : ∀ j, wrap64 (G k f j) = G k f j := fun j => wrap_id _ (by have := hb j; omega)
  obtain ⟨q, hq⟩ : ∃ q : Nat → Int, q = fun j => if j < n then (G k f j).tdiv n else 0 := ⟨_, rfl⟩
  have hqb : ∀ j, -1099511627776 ≤ q j ∧ q j ≤ 1099511627776 := fun j => by
    rw [hq]
    dsimp only
    split
    · next hj => have := (h j hj).2.2; rw [hw] at this; exact this
    · decide
  have hqe : ∀ j, j < n → G k f j = n * q j := fun j hj => by
    have := (h j hj).2.1
    rw [hw] at this
    rw [hq]
    dsimp only
    rw [if_pos hj]
    exact (Int.mul_tdiv_cancel_of_tmod_eq_zero this).symm
  have hQ := G_bound k q 1099511627776 hqb
  intro j hj
  have e1 := G_twice k f j (by rw [← hn]; exact hj)
  rw [G_congr k (g := fun j => (n : Int) * q j) (fun i hi => hqe i (by rw [hn]; exact hi)) j (by rw [← hn]; exact hj), G_mul k hk _ _ j (by rw [← hn]; exact hj), hpn] at e1
  have e2 : G k q j = f j := Int.eq_of_mul_eq_mul_left (by omega) e1
  have := hQ j
  rw [e2] at this
  omega
end Go.Proofs.YtidmfodbmmkcmaaDoor
