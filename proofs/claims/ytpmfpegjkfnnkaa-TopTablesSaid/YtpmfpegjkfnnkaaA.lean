/- TopTables: the plain law. -/
import Derived.Test.YtpmfpegjkfnnkaaCondT
namespace Go.Mine.Cond
open Go Go.RowKit Go.Mine

/-- Where all is alike anything covers. -/
theorem cov_flat {n : Nat} {fs : List Bool} {c : Bool} (hn : n ≤ 6) (hl : fs.length = 2 ^ n) (h : ∀ b ∈ fs, b = c) (xs : List Int) : Cov n fs xs := by
  have hat : ∀ t, t < fs.length → at' fs t = c := fun t ht => by
    have := h fs[t] (List.getElem_mem ht)
    simpa [at', ht] using this
  refine ⟨fun i hi hm => ?_, fun h1 h2 => ?_⟩
  · obtain ⟨t, ht, hp⟩ := hm
    simp only [pr, Bool.and_eq_true, Bool.not_eq_true'] at hp
    have h1 := (set_lt n (by omega) i hi t (by omega) hp.1).1
    have h2 := hp.2
    rw [hat t ht, hat _ (by omega)] at h2
    simp at h2
  · have e1 := h _ h1
    have e2 := h _ h2
    rw [← e1] at e2
    cases e2
theorem flat_nil {n : Nat} {fs : List Bool} {c : Bool} {L : List Int} (hn : n ≤ 6) (hl : fs.length = 2 ^ n) (h : ∀ b ∈ fs, b = c) (hp : Prune n fs 0 L) : L.length = 0 := by
  apply Classical.byContradiction
  intro h0
  exact hp.need 0 (Nat.le_refl _) (by omega) (cov_flat hn hl h _)
/-- What the whole says of a table. -/
theorem top_law {n : Nat} {fs : List Bool} {L : List Int} (hn : n ≤ 6) (hl : fs.length = 2 ^ n) (hp : Prune n fs 0 L) :
    (fs.count true = 0 ∧ L.length = 0) ∨ (0 < fs.count true ∧ fs.count true = fs.length ∧ L.length = 0) ∨ (0 < fs.count true ∧ fs.count true < fs.length ∧ L.any (fun x => at' fs x.toNat) = true ∧ L.any (fun x => !at' fs x.toNat) = true) := by
  by_cases h0 : fs.count true = 0
  · refine .inl ⟨h0, flat_nil (c := false) hn hl (fun b hb => ?_) hp⟩
    cases b
    · rfl
    · exact absurd hb (List.count_eq_zero.1 h0)
  · by_cases h1 : fs.count true = fs.length
    · refine .inr (.inl ⟨by omega, h1, flat_nil (c := true) hn hl (fun b hb => ?_) hp⟩)
      exact (List.count_eq_length.1 h1 b hb).symm
    · have hle := List.count_le_length (a := true) (l := fs)
      have ht : true ∈ fs := List.count_pos_iff.1 (by omega)
      have hf : false ∈ fs := by
        apply Classical.byContradiction
        intro hno
        refine h1 (List.count_eq_length.2 fun b hb => ?_)
        cases b
        · exact absurd hb hno
        · rfl
      have hc := hp.cov.2 hf ht
      refine .inr (.inr ⟨by omega, by omega, ?_, ?_⟩)
      · have := hc true
        simpa using this
      · have := hc false
        simpa using this
theorem any_take {L : List Int} {p : Int → Bool} {k : Nat} (hk : k < L.length) : (L.take (k + 1)).any p = ((L.take k).any p || p (L.getD k 0)) := by
  rw [List.take_add_one, List.any_append]
  simp [hk]
end Go.Mine.Cond
