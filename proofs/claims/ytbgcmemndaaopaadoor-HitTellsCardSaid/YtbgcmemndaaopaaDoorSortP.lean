/- Sorted, and none twice: plain lists, no program. -/
import Derived.Lib.SlicesCompact
import Derived.Lib.RowBridge
namespace Go.Mine
open Go.Lib

/-- They rise, none twice. -/
def Rise (ys : List Int) : Prop := ys.Pairwise (· < ·)

theorem compactUpTo_rise (d : Array Int) (hd : ∀ i j, i ≤ j → j < d.size → d[i]! ≤ d[j]!) : ∀ m, m ≤ d.size →
    Rise (compactUpTo d m) ∧ (∀ x, x ∈ compactUpTo d m ↔ ∃ j, j < m ∧ d[j]! = x)
  | 0, _ => ⟨by simp [compactUpTo, Rise], fun x => by simp [compactUpTo]⟩
  | m + 1, hm => by
    obtain ⟨h1, h2⟩ := compactUpTo_rise d hd m (by omega)
    rw [compactUpTo_succ]
    by_cases hk : keeps d m = true
    · rw [if_pos hk]
      have hlt : ∀ x ∈ compactUpTo d m, x < d[m]! := by
        intro x hx
        obtain ⟨j, hj, rfl⟩ := (h2 x).1 hx
        have a1 := hd j (m - 1) (by omega) (by omega)
        have a2 := hd (m - 1) m (by omega) (by omega)
        simp only [keeps, decide_eq_true_eq] at hk
        have := hk.resolve_left (by omega)
        omega
      refine ⟨?_, fun x => ?_⟩
      · unfold Rise
        rw [List.pairwise_append]
        exact ⟨h1, by simp, fun a ha b hb => by simp at hb; subst hb; exact hlt a ha⟩
      · rw [List.mem_append, h2, List.mem_singleton]
        constructor
        · rintro (⟨j, hj, rfl⟩ | rfl)
          · exact ⟨j, by omega, rfl⟩
          · exact ⟨m, by omega, rfl⟩
        · rintro ⟨j, hj, rfl⟩
          by_cases e : j = m
          · subst e; exact .inr rfl
          · exact .inl ⟨j, by omega, rfl⟩
    · rw [if_neg hk, List.append_nil]
      refine ⟨h1, fun x => ?_⟩
      rw [h2]
      simp only [keeps, decide_eq_true_eq, not_or, Decidable.not_not] at hk
      constructor
      · rintro ⟨j, hj, rfl⟩; exact ⟨j, by omega, rfl⟩
      · rintro ⟨j, hj, rfl⟩
        by_cases e : j = m
        · subst e; exact ⟨j - 1, by omega, hk.2.symm⟩
        · exact ⟨j, by omega, rfl⟩

/-- What sorting and compacting come to. -/
def sorted (zs : List Int) : List Int := compact (zs.mergeSort fun x y => decide (x ≤ y))
theorem sorted_rise (zs : List Int) : Rise (sorted zs) ∧ (∀ x, x ∈ sorted zs ↔ x ∈ zs) := by
  unfold sorted
  obtain ⟨l, hl⟩ : ∃ l, l = zs.mergeSort fun x y => decide (x ≤ y) := ⟨_, rfl⟩
  have hp : l.Pairwise (· ≤ ·) := by
    have := List.pairwise_mergeSort (le := fun (x y : Int) => decide (x ≤ y)) (fun a b c h1 h2 => by simp at *; omega) (fun a b => by simp; omega) zs
    rw [← hl] at this
    exact this.imp fun h => by simpa using h
  have hmem : ∀ x, x ∈ l ↔ x ∈ zs := fun x => by rw [hl]; exact List.mem_mergeSort
  rw [← hl]
  have hd : ∀ i j, i ≤ j → j < l.toArray.size → l.toArray[i]! ≤ l.toArray[j]! := by
    intro i j hij hj
    have hj' : j < l.length := by simpa using hj
    rw [getElem!_pos l.toArray i (by simpa using (show i < l.length by omega)), getElem!_pos l.toArray j hj]
    simp only [List.getElem_toArray]
    by_cases e : i = j
    · subst e; exact Int.le_refl _
    · exact List.pairwise_iff_getElem.1 hp i j (by omega) hj' (by omega)
  obtain ⟨h1, h2⟩ := compactUpTo_rise l.toArray hd l.length (by simp)
  refine ⟨h1, fun x => ?_⟩
  rw [← hmem]
  unfold compact
  rw [h2]
  constructor
  · rintro ⟨j, hj, rfl⟩
    rw [getElem!_pos l.toArray j (by simpa using hj)]
    simp
  · intro hx
    obtain ⟨j, hj, rfl⟩ := List.mem_iff_getElem.1 hx
    exact ⟨j, hj, by rw [getElem!_pos l.toArray j (by simpa using hj)]; simp⟩
theorem sorted_len (zs : List Int) : (sorted zs).length ≤ zs.length := by
  have := compact_length_le (zs.mergeSort fun x y => decide (x ≤ y))
  rwa [List.length_mergeSort] at this

/-- Two that rise and hold the same are the same. -/
theorem rise_ext : ∀ {a b : List Int}, Rise a → Rise b → (∀ x, x ∈ a ↔ x ∈ b) → a = b
  | [], [], _, _, _ => rfl
  | [], y :: b, _, _, h => absurd ((h y).2 List.mem_cons_self) (by simp)
  | x :: a, [], _, _, h => absurd ((h x).1 List.mem_cons_self) (by simp)
  | x :: a, y :: b, ha, hb, h => by
    obtain ⟨ha1, ha2⟩ := List.pairwise_cons.1 ha
    obtain ⟨hb1, hb2⟩ := List.pairwise_cons.1 hb
    have hxy : x = y := by
      have h1 := (h x).1 List.mem_cons_self
      have h2 := (h y).2 List.mem_cons_self
      rcases List.mem_cons.1 h1 with e | h1
      · exact e
      · rcases List.mem_cons.1 h2 with e | h2
        · exact e.symm
        · have := hb1 x h1
          have := ha1 y h2
          omega
    subst hxy
    congr 1
    refine rise_ext ha2 hb2 fun z => ?_
    constructor
    · intro hz
      rcases List.mem_cons.1 ((h z).1 (List.mem_cons_of_mem _ hz)) with e | h'
      · subst e; exact absurd (ha1 z hz) (by omega)
      · exact h'
    · intro hz
      rcases List.mem_cons.1 ((h z).2 (List.mem_cons_of_mem _ hz)) with e | h'
      · subst e; exact absurd (hb1 z hz) (by omega)
      · exact h'
end Go.Mine
