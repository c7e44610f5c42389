/- Tests for conditions, none too many: plain lists, no program. -/
import Derived.Test.YtpmfpegjkfnnkaaCondP
import Derived.Test.YtpmfpegjkfnnkaaSortP
namespace Go.Mine.Cond
open Go Go.RowKit Go.Mine

/-- What is collected for the first k conditions. -/
structure Col (fs : List Bool) (k : Nat) (out : List Int) : Prop where
  pair : ∀ i, i < k → Mat fs i → ∃ t : Nat, First fs i t ∧ (t : Int) ∈ out ∧ ((t + 2 ^ i : Nat) : Int) ∈ out
  len : out.length ≤ 2 * k
  range : ∀ x ∈ out, 0 ≤ x ∧ x < fs.length
theorem Col.start (fs : List Bool) : Col fs 0 [] := ⟨fun i hi => by omega, by simp, by simp⟩
theorem Col.none {fs : List Bool} {k : Nat} {out : List Int} (h : Col fs k out) (hn : ¬ Mat fs k) : Col fs (k + 1) out := ⟨fun i hi hm => by
  by_cases e : i = k
  · subst e; exact absurd hm hn
  · exact h.pair i (by omega) hm, by have := h.len; omega, h.range⟩
theorem Col.two {fs : List Bool} {n k t : Nat} {out : List Int} (h : Col fs k out) (hn : n ≤ 6) (hl : fs.length = 2 ^ n) (hk : k < n) (ht : First fs k t) : Col fs (k + 1) (out ++ [(t : Int), ((t + 2 ^ k : Nat) : Int)]) := by
  have hp := ht.2.1
  simp only [pr, Bool.and_eq_true, Bool.not_eq_true'] at hp
  have hs := (set_lt n (by omega) k hk t (by rw [← hl]; exact ht.1) hp.1).1
  have ht1 := ht.1
  refine ⟨fun i hi hm => ?_, by have := h.len; simp; omega, fun x hx => ?_⟩
  · by_cases e : i = k
    · subst e; exact ⟨t, ht, by simp, by simp⟩
    · obtain ⟨u, h1, h2, h3⟩ := h.pair i (by omega) hm
      exact ⟨u, h1, List.mem_append_left _ h2, List.mem_append_left _ h3⟩
  · rcases List.mem_append.1 hx with hx | hx
    · exact h.range x hx
    · simp only [List.mem_cons, List.not_mem_nil, or_false] at hx
      rw [← hl] at hs
      obtain ⟨B, hB⟩ : ∃ B, B = 2 ^ k := ⟨_, rfl⟩
      rw [← hB] at hs hx
      rcases hx with rfl | rfl <;> omega

theorem has_bit : ∀ n, n < 7 → ∀ t, t < 2 ^ n → 0 < t → (List.range n).any (fun i => t.testBit i && decide (2 ^ i ≤ t) && !(t - 2 ^ i).testBit i) = true := by decide +kernel
theorem const_of {n : Nat} {fs : List Bool} (hn : n ≤ 6) (hl : fs.length = 2 ^ n) (h : ∀ i, i < n → ¬ Mat fs i) : ∀ t, t < 2 ^ n → at' fs t = at' fs 0 := by
  intro t
  induction t using Nat.strongRecOn with
  | _ t ih =>
    intro ht
    by_cases h0 : t = 0
    · rw [h0]
    · obtain ⟨i, hi, hb⟩ := List.any_eq_true.1 (has_bit n (by omega) t ht (by omega))
      simp only [Bool.and_eq_true, decide_eq_true_eq, Bool.not_eq_true'] at hb
      obtain ⟨⟨b1, b2⟩, b3⟩ := hb
      have hin : i < n := List.mem_range.1 hi
      have hp : 0 < 2 ^ i := Nat.two_pow_pos i
      rw [← ih (t - 2 ^ i) (by omega) (by omega)]
      have hno : pr fs i (t - 2 ^ i) = false := by
        cases hpr : pr fs i (t - 2 ^ i) with
        | false => rfl
        | true => exact absurd ⟨t - 2 ^ i, by omega, hpr⟩ (h i hin)
      simp only [pr, b3, Bool.not_false, Bool.true_and, bne_eq_false_iff_eq] at hno
      rw [hno]
      congr 1
      omega
theorem cov_of {n : Nat} {fs : List Bool} {out : List Int} (hn : n ≤ 6) (hl : fs.length = 2 ^ n) (h : ∀ i, i < n → Mat fs i → ∃ t : Nat, First fs i t ∧ (t : Int) ∈ out ∧ ((t + 2 ^ i : Nat) : Int) ∈ out) : Cov n fs out := by
  refine ⟨fun i hi hm => ?_, fun hf ht b => ?_⟩
  · obtain ⟨t, h1, h2, h3⟩ := h i hi hm
    have hp := h1.2.1
    simp only [pr, Bool.and_eq_true, Bool.not_eq_true'] at hp
    have hs := (set_lt n (by omega) i hi t (by rw [← hl]; exact h1.1) hp.1).2
    refine List.any_eq_true.2 ⟨t, h2, ?_⟩
    simp only [duo, Int.toNat_natCast, hs, Bool.and_eq_true, decide_eq_true_eq]
    exact ⟨hp.2, h3⟩
  · have hex : ∃ i, i < n ∧ Mat fs i := by
      apply Classical.byContradiction
      intro hno
      have hc := const_of hn hl (fun i hi hm => hno ⟨i, hi, hm⟩)
      obtain ⟨a, ha, ea⟩ := List.mem_iff_getElem.1 hf
      obtain ⟨c, hc', ec⟩ := List.mem_iff_getElem.1 ht
      have h1 := hc a (by omega)
      have h2 := hc c (by omega)
      have ea' : at' fs a = false := by simp [at', ha, ea]
      have ec' : at' fs c = true := by simp [at', hc', ec]
      rw [ea'] at h1
      rw [ec', ← h1] at h2
      exact absurd h2 (by decide)
    obtain ⟨i, hi, hm⟩ := hex
    obtain ⟨t, h1, h2, h3⟩ := h i hi hm
    have hp := h1.2.1
    simp only [pr, Bool.and_eq_true, Bool.not_eq_true'] at hp
    cases hb : (at' fs t == b) with
    | true => exact List.any_eq_true.2 ⟨t, h2, by rw [Int.toNat_natCast]; exact hb⟩
    | false =>
      refine List.any_eq_true.2 ⟨_, h3, ?_⟩
      rw [Int.toNat_natCast]
      have hp2 := hp.2
      cases h4 : at' fs t <;> cases h5 : at' fs (t + 2 ^ i) <;> cases b <;> simp_all

theorem erase_two : ∀ (l : List Int) (a j : Nat), a ≤ j → (l.eraseIdx a).eraseIdx j = (l.eraseIdx (j + 1)).eraseIdx a
  | [], a, j, _ => by simp
  | x :: l, 0, j, _ => by simp
  | x :: l, a + 1, j + 1, h => by simp [erase_two l a j (by omega)]
  | x :: l, a + 1, 0, h => by omega

/-- In the midst of the striking: places from i on are needed. -/
structure Prune (n : Nat) (fs : List Bool) (i : Nat) (out : List Int) : Prop where
  rise : Rise out
  range : ∀ x ∈ out, 0 ≤ x ∧ x < fs.length
  cov : Cov n fs out
  len : out.length ≤ 2 * n
  le : i ≤ out.length
  need : ∀ j, i ≤ j → j < out.length → ¬ Cov n fs (out.eraseIdx j)
theorem Prune.start {n : Nat} {fs : List Bool} {out : List Int} (hn : n ≤ 6) (hl : fs.length = 2 ^ n) (h : Col fs n out) : Prune n fs (sorted out).length (sorted out) := by
  obtain ⟨h1, h2⟩ := sorted_rise out
  refine ⟨h1, fun x hx => h.range x ((h2 x).1 hx), cov_of hn hl fun i hi hm => ?_, Nat.le_trans (sorted_len out) h.len, Nat.le_refl _, fun j h1 h2 => by omega⟩
  obtain ⟨t, e1, e2, e3⟩ := h.pair i hi hm
  exact ⟨t, e1, (h2 _).2 e2, (h2 _).2 e3⟩
theorem Prune.keep {n i : Nat} {fs : List Bool} {out : List Int} (h : Prune n fs (i + 1) out) (hno : ¬ Cov n fs (out.eraseIdx i)) : Prune n fs i out :=
  ⟨h.rise, h.range, h.cov, h.len, by have := h.le; omega, fun j h1 h2 => by
    by_cases e : j = i
    · subst e; exact hno
    · exact h.need j (by omega) h2⟩
theorem Prune.drop {n i : Nat} {fs : List Bool} {out : List Int} (h : Prune n fs (i + 1) out) (hc : Cov n fs (out.eraseIdx i)) : Prune n fs i (out.eraseIdx i) := by
  have hle := h.le
  have hlen : (out.eraseIdx i).length = out.length - 1 := List.length_eraseIdx_of_lt (by omega)
  refine ⟨h.rise.sublist (List.eraseIdx_sublist _ _), fun x hx => h.range x ((List.eraseIdx_sublist _ _).mem hx), hc, by have := h.len; omega, by omega, fun j h1 h2 hcov => ?_⟩
  rw [erase_two out i j h1] at hcov
  exact h.need (j + 1) (by omega) (by omega) (hcov.more fun x hx => (List.eraseIdx_sublist _ _).mem hx)
end Go.Mine.Cond
