/- Rules, tests: plain lists, no program. -/
import Derived.Test.YtpmfpegjkfnnkaaRules
namespace Go.Mine.Table
open Go Go.RowKit Go.Mine

/-- What is wrong with one rule, as a number. -/
def rf (m : Nat) (ws : List Int) : Int := if ws.length ≠ m then 3 else if ∀ w ∈ ws, -1 ≤ w ∧ w ≤ 1 then 0 else 1
/-- .. with the first one that is wrong. -/
def ff (m : Nat) : List (List Int) → Int
  | [] => 0
  | w :: ws => if rf m w = 0 then ff m ws else rf m w
theorem rf_len {m : Nat} {ws : List Int} (h : ws.length ≠ m) : rf m ws = 3 := by unfold rf; rw [if_pos h]
theorem rf_bad {m : Nat} {ws : List Int} (h : ws.length = m) (h2 : ¬ ∀ w ∈ ws, -1 ≤ w ∧ w ≤ 1) : rf m ws = 1 := by unfold rf; rw [if_neg (by omega), if_neg h2]
theorem rf_ok {m : Nat} {ws : List Int} (h : ws.length = m) (h2 : ∀ w ∈ ws, -1 ≤ w ∧ w ≤ 1) : rf m ws = 0 := by unfold rf; rw [if_neg (by omega), if_pos h2]
theorem rf_zero {m : Nat} {ws : List Int} (h : rf m ws = 0) : ws.length = m ∧ ∀ w ∈ ws, -1 ≤ w ∧ w ≤ 1 := by
  unfold rf at h
  by_cases h1 : ws.length ≠ m
  · rw [if_pos h1] at h; cases h
  · rw [if_neg h1] at h
    by_cases h2 : ∀ w ∈ ws, -1 ≤ w ∧ w ≤ 1
    · exact ⟨by omega, h2⟩
    · rw [if_neg h2] at h; cases h
theorem ff_at {m : Nat} : ∀ {ws : List (List Int)} {k : Nat}, k < ws.length → (∀ j, j < k → rf m (ws.getD j []) = 0) → rf m (ws.getD k []) ≠ 0 → ff m ws = rf m (ws.getD k [])
  | w :: ws, 0, _, _, h => by
    simp only [List.getD_cons_zero] at h ⊢
    rw [ff, if_neg h]
  | w :: ws, k + 1, hk, ha, h => by
    have h0 := ha 0 (by omega)
    simp only [List.getD_cons_zero] at h0
    simp only [List.getD_cons_succ] at h ⊢
    rw [ff, if_pos h0]
    exact ff_at (by simpa using hk) (fun j hj => by have := ha (j + 1) (by omega); simpa using this) h
theorem ff_all {m : Nat} : ∀ {ws : List (List Int)}, (∀ j, j < ws.length → rf m (ws.getD j []) = 0) → ff m ws = 0
  | [], _ => rfl
  | w :: ws, ha => by
    have h0 := ha 0 (by simp)
    simp only [List.getD_cons_zero] at h0
    rw [ff, if_pos h0]
    exact ff_all (fun j hj => by have := ha (j + 1) (by simpa using hj); simpa using this)
/-- Rules that are right. -/
def tok (n : Int) (ws : List (List Int)) : Prop := ∃ m : Nat, n = m ∧ 1 ≤ m ∧ m ≤ 6 ∧ ws.length ≤ 12 ∧ ∀ j, j < ws.length → rf m (ws.getD j []) = 0
def tfault (n : Int) (ws : List (List Int)) : Int := if n < 1 ∨ 6 < n then 1 else if 12 < ws.length then 4 else ff n.toNat ws
theorem tfault_ok {n : Int} {ws : List (List Int)} (h : tok n ws) : tfault n ws = 0 := by
  obtain ⟨m, rfl, h1, h2, h3, h4⟩ := h
  unfold tfault
  rw [if_neg (by omega), if_neg (by omega), Int.toNat_natCast]
  exact ff_all h4
theorem ff_val {m : Nat} : ∀ (ws : List (List Int)), ff m ws = 0 ∨ ff m ws = 1 ∨ ff m ws = 3
  | [] => .inl rfl
  | w :: ws => by
    unfold ff
    by_cases h : rf m w = 0
    · rw [if_pos h]; exact ff_val ws
    · rw [if_neg h]
      unfold rf at h ⊢
      split
      · exact .inr (.inr rfl)
      · split
        · exact .inl rfl
        · exact .inr (.inl rfl)
theorem ff_zero {m : Nat} : ∀ {ws : List (List Int)}, ff m ws = 0 → ∀ j, j < ws.length → rf m (ws.getD j []) = 0
  | [], _, j, hj => by simp at hj
  | w :: ws, h, j, hj => by
    unfold ff at h
    by_cases h0 : rf m w = 0
    · rw [if_pos h0] at h
      cases j with
      | zero => simpa using h0
      | succ j => have := ff_zero h j (by simpa using hj); simpa using this
    · rw [if_neg h0] at h; exact absurd h h0
theorem tfault_bad {n : Int} {ws : List (List Int)} (h : ¬ tok n ws) : tfault n ws = 1 ∨ tfault n ws = 3 ∨ tfault n ws = 4 := by
  unfold tfault
  by_cases h1 : n < 1 ∨ 6 < n
  · rw [if_pos h1]; exact .inl rfl
  · rw [if_neg h1]
    by_cases h2 : 12 < ws.length
    · rw [if_pos h2]; exact .inr (.inr rfl)
    · rw [if_neg h2]
      rcases ff_val (m := n.toNat) ws with h3 | h3 | h3
      · exact absurd ⟨n.toNat, by omega, by omega, by omega, by omega, ff_zero h3⟩ h
      · exact .inl h3
      · exact .inr (.inl h3)

/-- A rule fits a test. -/
def bit (t i : Nat) : Int := if t.testBit i then 1 else 0
def fits (ws : List Int) (t : Nat) : Bool := (List.range ws.length).all fun i => decide (ws.getD i 0 < 0) || decide (ws.getD i 0 = bit t i)
theorem fits_iff {ws : List Int} {t : Nat} : fits ws t = true ↔ ∀ i, i < ws.length → ws.getD i 0 < 0 ∨ ws.getD i 0 = bit t i := by
  unfold fits
  rw [List.all_eq_true]
  simp only [List.mem_range, Bool.or_eq_true, decide_eq_true_eq]
/-- Two rules meet: none of their places says otherwise. -/
def meets (as bs : List Int) : Bool := (List.range as.length).all fun i => decide (as.getD i 0 < 0) || decide (bs.getD i 0 < 0) || decide (as.getD i 0 = bs.getD i 0)
theorem meets_iff {as bs : List Int} : meets as bs = true ↔ ∀ i, i < as.length → as.getD i 0 < 0 ∨ bs.getD i 0 < 0 ∨ as.getD i 0 = bs.getD i 0 := by
  unfold meets
  rw [List.all_eq_true]
  simp only [List.mem_range, Bool.or_eq_true, decide_eq_true_eq, or_assoc]
/-- Of two that fit one test none says otherwise. -/
theorem fits_meets {as bs : List Int} {t : Nat} (hl : as.length = bs.length) (ha : fits as t = true) (hb : fits bs t = true) : meets as bs = true := by
  rw [fits_iff] at ha hb
  rw [meets_iff]
  intro i hi
  rcases ha i hi with h | h
  · exact .inl h
  · rcases hb i (by omega) with h' | h'
    · exact .inr (.inl h')
    · exact .inr (.inr (h.trans h'.symm))
/-- The test that both fit. -/
def both (as bs : List Int) : Nat → Nat
  | 0 => 0
  | m + 1 => both as bs m + (if as.getD m 0 = 1 ∨ bs.getD m 0 = 1 then 2 ^ m else 0)
theorem both_lt (as bs : List Int) : ∀ m, both as bs m < 2 ^ m
  | 0 => by simp [both]
  | m + 1 => by
    have := both_lt as bs m
    rw [both, Nat.pow_succ]
    split <;> omega
theorem both_bit (as bs : List Int) : ∀ m i, i < m → (both as bs m).testBit i = decide (as.getD i 0 = 1 ∨ bs.getD i 0 = 1)
  | 0, i, h => by omega
  | m + 1, i, h => by
    have hlt := both_lt as bs m
    rw [both]
    by_cases e : i = m
    · subst e
      by_cases hc : as.getD i 0 = 1 ∨ bs.getD i 0 = 1
      · rw [if_pos hc, decide_eq_true hc, Nat.add_comm, Nat.testBit_two_pow_add_eq, Nat.testBit_lt_two_pow hlt]; rfl
      · rw [if_neg hc, decide_eq_false hc, Nat.add_zero, Nat.testBit_lt_two_pow hlt]
    · by_cases hc : as.getD m 0 = 1 ∨ bs.getD m 0 = 1
      · rw [if_pos hc, Nat.add_comm, Nat.testBit_two_pow_add_gt (by omega)]
        exact both_bit as bs m i (by omega)
      · rw [if_neg hc, Nat.add_zero]
        exact both_bit as bs m i (by omega)
theorem meets_fits {m : Nat} {as bs : List Int} (ha : rf m as = 0) (hb : rf m bs = 0) (h : meets as bs = true) : both as bs m < 2 ^ m ∧ fits as (both as bs m) = true ∧ fits bs (both as bs m) = true := by
  obtain ⟨la, ra⟩ := rf_zero ha
  obtain ⟨lb, rb⟩ := rf_zero hb
  rw [meets_iff] at h
  refine ⟨both_lt _ _ _, fits_iff.2 fun i hi => ?_, fits_iff.2 fun i hi => ?_⟩
  · have h1 := ra (as.getD i 0) (by simp [hi])
    have h2 := rb (bs.getD i 0) (by simp [show i < bs.length by omega])
    have h3 := h i hi
    unfold bit
    rw [both_bit as bs m i (by omega)]
    by_cases hc : as.getD i 0 = 1 ∨ bs.getD i 0 = 1
    · rw [decide_eq_true hc, if_pos rfl]; omega
    · rw [decide_eq_false hc]; simp only [Bool.false_eq_true, if_false]; omega
  · have h1 := ra (as.getD i 0) (by simp [show i < as.length by omega])
    have h2 := rb (bs.getD i 0) (by simp [hi])
    have h3 := h i (by omega)
    unfold bit
    rw [both_bit as bs m i (by omega)]
    by_cases hc : as.getD i 0 = 1 ∨ bs.getD i 0 = 1
    · rw [decide_eq_true hc, if_pos rfl]; omega
    · rw [decide_eq_false hc]; simp only [Bool.false_eq_true, if_false]; omega
end Go.Mine.Table
