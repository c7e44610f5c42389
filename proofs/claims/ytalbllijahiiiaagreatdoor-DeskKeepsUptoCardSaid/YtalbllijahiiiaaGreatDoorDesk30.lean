/- shrink.Walk, plainly. -/
import Derived.Test.YtalbllijahiiiaaGreatDoorDesk29
namespace Go.Proofs.YtalbllijahiiiaaGreatDoor
open Go.RowKit Go.Mine Go.Mine.Desk

theorem clamp_b {m x : Int} (h : 0 ≤ m) (h1 : m ≤ 1000) : 0 ≤ clamp m x ∧ clamp m x ≤ 1000 := by unfold clamp; omega
theorem mend_tape1 {g : G} (hr : g.right) (l : List Int) : tape1 (mend g l) := by
  cases g with
  | int a b =>
    obtain ⟨_, _, h1, h2⟩ := hr
    intro x hx
    simp only [mend, List.mem_singleton] at hx
    rw [hx]
    exact clamp_b (by omega) h2
  | many n a b =>
    obtain ⟨h0, h5, _, _, h1, h2⟩ := hr
    intro x hx
    simp only [mend, List.mem_cons, List.mem_map] at hx
    rcases hx with rfl | ⟨i, _, rfl⟩
    · exact clamp_b h0 (by omega)
    · exact clamp_b (by omega) h2
theorem less_mem {g : G} {l m : List Int} (h : m ∈ less g l) : ∃ t, m = mend g t ∧ tapeLt m l = true := by
  unfold less lessAt at h
  simp only [List.mem_flatMap, List.mem_filter, List.mem_map] at h
  obtain ⟨i, _, ⟨t, _, rfl⟩, h2⟩ := h
  exact ⟨t, rfl, h2⟩
theorem less_place {g : G} (hr : g.right) {l m : List Int} (hl : tape1 l) (h : m ∈ less g l) : tape1 m ∧ m.length ≤ 6 ∧ place m < place l := by
  obtain ⟨t, rfl, h2⟩ := less_mem h
  have h3 := mend_tape1 hr t
  have h4 := mend_len g hr t
  exact ⟨h3, h4, place_lt h3 hl h4 h2⟩
attribute [local irreducible] Go.Mine.Desk.place
theorem walkF_more {g : G} (hr : g.right) (n : Int) : ∀ (f : Nat) (l : List Int), tape1 l → l.length ≤ 6 → place l ≤ f → walkF g n f l = walkF g n (place l) l
  | 0, l, _, _, h => by rw [show place l = 0 by omega]
  | f + 1, l, h1, h2, h => by
    cases hp : place l with
    | zero =>
      rw [walkF, walkF]
      cases hf : (less g l).find? (bad g n) with
      | none => rfl
      | some m =>
        have := (less_place hr h1 (List.mem_of_find?_eq_some hf)).2.2
        omega
    | succ p =>
      rw [walkF, walkF]
      cases hf : (less g l).find? (bad g n) with
      | none => rfl
      | some m =>
        obtain ⟨m1, m2, m3⟩ := less_place hr h1 (List.mem_of_find?_eq_some hf)
        simp only
        rw [walkF_more hr n f m m1 m2 (by omega), walkF_more hr n p m m1 m2 (by omega)]
theorem walk_step {g : G} (hr : g.right) (n : Int) {l : List Int} (h1 : tape1 l) (h2 : l.length ≤ 6) : walk g n l = match (less g l).find? (bad g n) with
    | none => (l, 0)
    | some m => ((walk g n m).1, (walk g n m).2 + 1) := by
  have h := walkF_more hr n (place l + 1) l h1 h2 (by omega)
  rw [walk, ← h, walkF]
  cases hf : (less g l).find? (bad g n) with
  | none => rfl
  | some m =>
    obtain ⟨m1, m2, m3⟩ := less_place hr h1 (List.mem_of_find?_eq_some hf)
    simp only
    rw [walkF_more hr n (place l) m m1 m2 (by omega)]
    rfl
end Go.Proofs.YtalbllijahiiiaaGreatDoor
