/- Who is passed on the way: plain numbers, no program. -/
import Derived.Test.YtobhclmibmpffaaP
namespace Go.Mine.Flow

theorem R.weak {es : List (Nat × Nat)} {but : Int} {v : Nat} (h : R es but v) : R es (-1) v :=
  h (R es (-1)) (fun _ => R.start (by omega)) fun _ _ hu he _ => hu.step he (by omega)
/-- Who is passed is met. -/
theorem dom_met {es : List (Nat × Nat)} {v i : Nat} (h1 : ¬ R es v i) (h2 : R es (-1) i) : R es (-1) v := by
  rcases Classical.em (R es (-1) v) with h | h
  · exact h
  · refine absurd (h2 (R es v) (fun _ => R.start (fun e => ?_)) fun u w hu he _ => hu.step he (fun e => ?_)) h1
    · have e0 : v = 0 := by omega
      subst e0
      exact h (R.start (by omega))
    · have e0 : w = v := by omega
      subst e0
      exact h (hu.weak.step he (by omega))
/-- Who is passed on the way to one that is passed is passed. -/
theorem dom_trans {es : List (Nat × Nat)} {w v i : Nat} (h1 : ¬ R es w v) (h2 : ¬ R es v i) : ¬ R es w i := by
  intro h
  have := h (fun u => R es w u ∧ R es v u) (fun h0 => ⟨R.start h0, R.start (fun e => by
      have e0 : v = 0 := by omega
      subst e0
      exact h1 (R.start h0))⟩) fun u x hu he hx => ⟨hu.1.step he hx, hu.2.step he (fun e => by
      have e0 : x = v := by omega
      subst e0
      exact h1 (hu.1.step he hx))⟩
  exact h2 this.2
/-- Of two that are passed one is passed on the way to the other one. -/
theorem dom_two {es : List (Nat × Nat)} {a b i : Nat} (h0 : R es (-1) i) (h1 : ¬ R es a i) (h2 : ¬ R es b i) : ¬ R es b a ∨ ¬ R es a b := by
  rcases Classical.em (R es b a) with h3 | h3
  · rcases Classical.em (R es a b) with h4 | h4
    · have := h0 (fun u => R es a u ∨ R es b u) (fun _ => by
          by_cases e : a = 0
          · subst e; exact .inr (R.start (fun e => by
              have e0 : b = 0 := by omega
              subst e0
              exact h3.ne rfl))
          · exact .inl (R.start (by omega))) fun u x hu he _ => by
          rcases hu with hu | hu
          · by_cases e : x = a
            · subst e; exact .inr h3
            · exact .inl (hu.step he (by omega))
          · by_cases e : x = b
            · subst e; exact .inl h4
            · exact .inr (hu.step he (by omega))
      rcases this with h | h
      · exact absurd h h1
      · exact absurd h h2
    · exact .inr h4
  · exact .inl h3
/-- Any way there passes them. -/
theorem dom_way {es : List (Nat × Nat)} {v : Nat} {f : Nat → Nat} {m : Nat} (h0 : f 0 = 0) (hs : ∀ k, k < m → (f k, f (k + 1)) ∈ es) (h : ¬ R es v (f m)) : ∃ k, k ≤ m ∧ f k = v := by
  rcases Classical.em (∃ k, k ≤ m ∧ f k = v) with hk | hk
  · exact hk
  · refine absurd ?_ h
    have : ∀ k, k ≤ m → R es v (f k) := by
      intro k
      induction k with
      | zero =>
        intro _
        rw [h0]
        exact R.start (fun e => hk ⟨0, Nat.zero_le _, by rw [h0]; omega⟩)
      | succ k ih =>
        intro hkm
        exact (ih (by omega)).step (hs k (by omega)) (fun e => hk ⟨k + 1, hkm, by omega⟩)
    exact this m (Nat.le_refl _)
end Go.Mine.Flow
