/- Which order is which number: plain numbers, no program. -/
import Derived.Test.YtkdfikjfbbnekaaDoorP
namespace Go.Mine.Inter
set_option linter.unusedSimpArgs false

/-- The terms from ahead. -/
def up (l : List Nat) : Nat → Nat
  | 0 => 0
  | k + 1 => up l k + term l k
def allUp (l : List Nat) : Nat → Nat
  | 0 => 0
  | k + 1 => allUp l k + l.getD k 0
theorem up_facs (l : List Nat) : ∀ k, k ≤ l.length → up l k * facs l = allUp l k * fac (l.sum - 1)
  | 0, _ => by simp [up, allUp]
  | k + 1, h => by rw [up, allUp, Nat.add_mul, Nat.add_mul, up_facs l k (by omega), term_facs l _ (by omega)]
theorem allUp_take (l : List Nat) : ∀ k, k ≤ l.length → allUp l k = (l.take k).sum
  | 0, _ => by simp [allUp]
  | k + 1, h => by
    rw [allUp, allUp_take l k (by omega), List.take_succ_eq_append_getElem (by omega), List.sum_append]
    simp [show k < l.length by omega]
theorem allUp_le (l : List Nat) (k : Nat) (h : k ≤ l.length) : allUp l k ≤ l.sum := by
  rw [allUp_take l k h]
  have : l.sum = (l.take k).sum + (l.drop k).sum := by rw [← List.sum_append, List.take_append_drop]
  omega
theorem up_full (l : List Nat) (h : 0 < l.sum) : up l l.length = mult l := by
  have h1 := up_facs l l.length (Nat.le_refl _)
  rw [allUp_take l _ (Nat.le_refl _), List.take_length] at h1
  apply Nat.eq_of_mul_eq_mul_right (facs_pos l)
  rw [h1, mult_facs]
  obtain ⟨s, hs⟩ : ∃ s, l.sum = s + 1 := ⟨l.sum - 1, by omega⟩
  rw [hs]; rfl
theorem up_le (l : List Nat) (k : Nat) (h : k ≤ l.length) : up l k ≤ mult l := by
  have h1 := up_facs l k h
  have h2 := mult_facs l
  have h3 := allUp_le l k h
  apply Nat.le_of_mul_le_mul_right _ (facs_pos l)
  rw [h1, h2]
  rcases Nat.eq_zero_or_pos l.sum with h0 | h0
  · rw [h0] at h3 ⊢
    have : allUp l k = 0 := by omega
    rw [this]; simp
  · obtain ⟨s, hs⟩ : ∃ s, l.sum = s + 1 := ⟨l.sum - 1, by omega⟩
    rw [hs] at h3 ⊢
    exact Nat.mul_le_mul_right _ h3
theorem up_mono (l : List Nat) {a : Nat} : ∀ {b : Nat}, a ≤ b → up l a ≤ up l b
  | 0, h => by rw [show a = 0 by omega]; exact Nat.le_refl _
  | b + 1, h => by
    by_cases e : a = b + 1
    · rw [e]; exact Nat.le_refl _
    · have := up_mono l (show a ≤ b by omega)
      rw [up]; omega
/-- One step less. -/
def less (l : List Nat) (x : Nat) : List Nat := l.set x (l.getD x 0 - 1)
theorem less_length (l : List Nat) (x : Nat) : (less l x).length = l.length := by simp [less]
theorem less_sum (l : List Nat) (x : Nat) (hx : x < l.length) (h : 0 < l.getD x 0) : (less l x).sum + 1 = l.sum := (facs_set l x hx h).2
theorem less_get (l : List Nat) (x i : Nat) (hi : i < l.length) (h : 0 < l.getD x 0) : (less l x).getD i 0 + (if i = x then 1 else 0) = l.getD i 0 := by
  unfold less
  by_cases e : i = x
  · subst e
    rw [if_pos rfl, List.getD_eq_getElem?_getD, List.getElem?_set_self hi]
    simp only [Option.getD_some]
    omega
  · rw [if_neg e, List.getD_eq_getElem?_getD, List.getElem?_set_ne (fun h => e h.symm), ← List.getD_eq_getElem?_getD]
    rfl
theorem term_pos (l : List Nat) (x : Nat) (h : 0 < l.getD x 0) : term l x = mult (less l x) := by unfold term less; rw [if_pos h]
theorem up_step (l : List Nat) (x : Nat) (hx : x < l.length) (h : 0 < l.getD x 0) : up l x + mult (less l x) ≤ mult l := by
  have := up_le l (x + 1) hx
  rw [up, term_pos l x h] at this
  exact this
def rankOf : List Nat → List Int → Option Nat
  | l, [] => if l.sum = 0 then some 0 else none
  | l, x :: o => if 0 ≤ x ∧ x < l.length ∧ 0 < l.getD x.toNat 0 then (rankOf (less l x.toNat) o).map (up l x.toNat + ·) else none
theorem rankOf_cons {l : List Nat} {x : Int} {o : List Int} {r : Nat} (h : rankOf l (x :: o) = some r) :
    ∃ k q : Nat, x = k ∧ k < l.length ∧ 0 < l.getD k 0 ∧ rankOf (less l k) o = some q ∧ r = up l k + q := by
  unfold rankOf at h
  split at h
  · next hc =>
    obtain ⟨h1, h2, h3⟩ := hc
    cases hq : rankOf (less l x.toNat) o with
    | none => rw [hq] at h; cases h
    | some q =>
      rw [hq] at h
      simp at h
      exact ⟨x.toNat, q, by omega, by omega, h3, hq, h.symm⟩
  · cases h
theorem rankOf_step {l : List Nat} {k : Nat} (o : List Int) (hk : k < l.length) (hp : 0 < l.getD k 0) : rankOf l ((k : Int) :: o) = (rankOf (less l k) o).map (up l k + ·) := by
  rw [rankOf, if_pos ⟨by omega, by omega, by simpa using hp⟩]
  simp
theorem rankOf_bad {l : List Nat} {x : Int} (o : List Int) (h : ¬ (0 ≤ x ∧ x < l.length ∧ 0 < l.getD x.toNat 0)) : rankOf l (x :: o) = none := by
  rw [rankOf, if_neg h]
theorem rankOf_lt : ∀ (o : List Int) (l : List Nat) (r : Nat), rankOf l o = some r → r < mult l
  | [], l, r, h => by
    unfold rankOf at h
    split at h
    · cases h; exact mult_pos l
    · cases h
  | x :: o, l, r, h => by
    obtain ⟨k, q, rfl, hk, hp, hq, rfl⟩ := rankOf_cons h
    have h1 := rankOf_lt o _ q hq
    have h2 := up_step l k hk hp
    omega
theorem rankOf_none_sum {l : List Nat} {r : Nat} (h : rankOf l [] = some r) : l.sum = 0 ∧ r = 0 := by
  unfold rankOf at h
  split at h
  · next hs => cases h; exact ⟨hs, rfl⟩
  · cases h
theorem get_le_sum (l : List Nat) (k : Nat) (hk : k < l.length) : l.getD k 0 ≤ l.sum := by
  have h := allUp_le l (k + 1) hk
  rw [allUp] at h
  omega
theorem rankOf_inj : ∀ (o o' : List Int) (l : List Nat) (r : Nat), rankOf l o = some r → rankOf l o' = some r → o = o'
  | [], [], _, _, _, _ => rfl
  | [], x :: o', l, r, h, h' => by
    obtain ⟨k, q, rfl, hk, hp, hq, rfl⟩ := rankOf_cons h'
    have h1 := (rankOf_none_sum h).1
    have h2 := get_le_sum l k hk
    omega
  | x :: o, [], l, r, h', h => by
    obtain ⟨k, q, rfl, hk, hp, hq, rfl⟩ := rankOf_cons h'
    have h1 := (rankOf_none_sum h).1
    have h2 := get_le_sum l k hk
    omega
  | x :: o, y :: o', l, r, h, h' => by
    obtain ⟨k, q, rfl, hk, hp, hq, rfl⟩ := rankOf_cons h
    obtain ⟨j, p, rfl, hj, hp', hq', e⟩ := rankOf_cons h'
    have l1 := rankOf_lt o _ q hq
    have l2 := rankOf_lt o' _ p hq'
    have e1 : up l (k + 1) = up l k + mult (less l k) := by rw [up, term_pos l k hp]
    have e2 : up l (j + 1) = up l j + mult (less l j) := by rw [up, term_pos l j hp']
    have hkj : k = j := by
      rcases Nat.lt_trichotomy k j with h | h | h
      · have := up_mono l (show k + 1 ≤ j by omega); omega
      · exact h
      · have := up_mono l (show j + 1 ≤ k by omega); omega
    subst hkj
    have : q = p := by omega
    subst this
    rw [rankOf_inj o o' _ q hq hq']
theorem rankOf_count : ∀ (o : List Int) (l : List Nat) (r : Nat), rankOf l o = some r → ∀ i, i < l.length → o.count (i : Int) = l.getD i 0
  | [], l, r, h, i, hi => by
    have h1 := (rankOf_none_sum h).1
    have h2 := get_le_sum l i hi
    rw [List.count_nil]; omega
  | x :: o, l, r, h, i, hi => by
    obtain ⟨k, q, rfl, hk, hp, hq, rfl⟩ := rankOf_cons h
    have h1 := rankOf_count o _ q hq i (by rw [less_length]; exact hi)
    have h2 := less_get l k i hi hp
    rw [List.count_cons, h1]
    by_cases e : i = k
    · subst e; simpa using h2
    · rw [if_neg e] at h2
      have : ((k : Int) == (i : Int)) = false := by simp; omega
      rw [this]
      simpa using h2
/-- where the rest stands, the whole stands. -/
theorem rankOf_app (l : List Nat) (k : Nat) (hk : k < l.length) (hp : 0 < l.getD k 0) {o : List Int} {q : Nat} (h : rankOf (less l k) o = some q) : rankOf l ((k : Int) :: o) = some (up l k + q) := by
  rw [rankOf_step o hk hp, h]; rfl
/-- the place of a number that is less than all. -/
theorem up_place (l : List Nat) (r : Nat) (h : r < mult l) (hs : 0 < l.sum) : ¬ up l l.length ≤ r := by rw [up_full l hs]; omega
theorem term_zero (l : List Nat) (x : Nat) (h : l.getD x 0 = 0) : term l x = 0 := by unfold term; rw [if_neg (by omega)]
theorem less_back (l : List Nat) (x : Nat) (hx : x < l.length) (h : 0 < l.getD x 0) : (less l x).set x ((less l x).getD x 0 + 1) = l := by
  have h1 := less_get l x x hx h
  rw [if_pos rfl] at h1
  rw [h1]
  unfold less
  rw [List.set_set]
  apply List.ext_getElem (by simp)
  intro i h1 h2
  by_cases e : x = i
  · subst e; simp [h2]
  · rw [List.getElem_set_ne e]
end Go.Mine.Inter
