/- How many orders there are: plain numbers, no program. -/
namespace Go.Mine.Inter
set_option linter.unusedSimpArgs false

def psum (f : Nat → Nat) : Nat → Nat
  | 0 => f 0
  | i + 1 => psum f i + f (i + 1)
/-- The ways to put i things among s + i. -/
def c : Nat → Nat → Nat
  | 0, _ => 1
  | s + 1, i => psum (c s) i
def fac : Nat → Nat
  | 0 => 1
  | n + 1 => (n + 1) * fac n

theorem fac_pos : ∀ n, 0 < fac n
  | 0 => Nat.one_pos
  | n + 1 => Nat.mul_pos (Nat.succ_pos n) (fac_pos n)
theorem fac_mono {a : Nat} : ∀ {b : Nat}, a ≤ b → fac a ≤ fac b
  | 0, h => by
    have e : a = 0 := by omega
    rw [e]; exact Nat.le_refl _
  | b + 1, h => by
    by_cases h' : a = b + 1
    · rw [h']; exact Nat.le_refl _
    · have := fac_mono (show a ≤ b by omega)
      rw [fac]
      exact Nat.le_trans this (Nat.le_mul_of_pos_left _ (Nat.succ_pos b))
theorem c_zero : ∀ s, c s 0 = 1
  | 0 => rfl
  | s + 1 => c_zero s
theorem c_succ (s i : Nat) : c (s + 1) (i + 1) = c (s + 1) i + c s (i + 1) := rfl

theorem c_fac (s : Nat) : ∀ i, c s i * (fac s * fac i) = fac (s + i) := by
  induction s with
  | zero => intro i; simp [c, fac]
  | succ s ihs =>
    intro i
    induction i with
    | zero => rw [c_zero]; simp [fac]
    | succ i ihi =>
      have h2 := ihs (i + 1)
      rw [c_succ, Nat.add_mul]
      have e1 : c (s + 1) i * (fac (s + 1) * fac (i + 1)) = (c (s + 1) i * (fac (s + 1) * fac i)) * (i + 1) := by
        rw [show fac (i + 1) = (i + 1) * fac i from rfl]
        simp only [Nat.mul_assoc, Nat.mul_comm, Nat.mul_left_comm]
      have e2 : c s (i + 1) * (fac (s + 1) * fac (i + 1)) = (c s (i + 1) * (fac s * fac (i + 1))) * (s + 1) := by
        rw [show fac (s + 1) = (s + 1) * fac s from rfl]
        simp only [Nat.mul_assoc, Nat.mul_comm, Nat.mul_left_comm]
      rw [e1, e2, ihi, h2, show s + 1 + (i + 1) = (s + (i + 1)) + 1 by omega, show s + 1 + i = s + (i + 1) by omega, ← Nat.mul_add]
      rw [show fac (s + (i + 1) + 1) = (s + (i + 1) + 1) * fac (s + (i + 1)) from rfl, Nat.mul_comm]
      congr 1
      omega

theorem c_step (s i : Nat) : c s (i + 1) * (i + 1) = c s i * (s + i + 1) := by
  have h1 := c_fac s (i + 1)
  have h2 := c_fac s i
  have hp : 0 < fac s * fac i := Nat.mul_pos (fac_pos s) (fac_pos i)
  apply Nat.eq_of_mul_eq_mul_right hp
  have e1 : c s (i + 1) * (i + 1) * (fac s * fac i) = c s (i + 1) * (fac s * fac (i + 1)) := by
    rw [show fac (i + 1) = (i + 1) * fac i from rfl]
    simp only [Nat.mul_assoc, Nat.mul_comm, Nat.mul_left_comm]
  have e2 : c s i * (s + i + 1) * (fac s * fac i) = c s i * (fac s * fac i) * (s + i + 1) := by
    simp only [Nat.mul_assoc, Nat.mul_comm, Nat.mul_left_comm]
  rw [e1, e2, h1, h2, show s + (i + 1) = (s + i) + 1 by omega, show fac (s + i + 1) = (s + i + 1) * fac (s + i) from rfl, Nat.mul_comm]

def mulA : Nat → Nat → List Nat → Nat
  | _, out, [] => out
  | s, out, n :: l => mulA (s + n) (out * c s n) l
/-- how many orders. -/
def mult (l : List Nat) : Nat := mulA 0 1 l
def facs : List Nat → Nat
  | [] => 1
  | n :: l => fac n * facs l
theorem facs_pos : ∀ l, 0 < facs l
  | [] => Nat.one_pos
  | n :: l => Nat.mul_pos (fac_pos n) (facs_pos l)
theorem mulA_facs : ∀ (l : List Nat) (s out X : Nat), out * X = fac s → mulA s out l * (X * facs l) = fac (s + l.sum)
  | [], s, out, X, h => by simp [mulA, facs, h]
  | n :: l, s, out, X, h => by
    have h2 : (out * c s n) * (X * fac n) = fac (s + n) := by
      rw [← c_fac s n, ← h]
      simp only [Nat.mul_assoc, Nat.mul_comm, Nat.mul_left_comm]
    have := mulA_facs l (s + n) (out * c s n) (X * fac n) h2
    rw [mulA, facs, List.sum_cons, ← Nat.add_assoc, ← this, Nat.mul_assoc]
theorem mult_facs (l : List Nat) : mult l * facs l = fac l.sum := by
  have := mulA_facs l 0 1 1 (by rfl)
  simpa [mult] using this
theorem mult_le (l : List Nat) : mult l ≤ fac l.sum := by
  rw [← mult_facs]; exact Nat.le_mul_of_pos_right _ (facs_pos l)
theorem mult_pos (l : List Nat) : 0 < mult l := by
  have := mult_facs l
  have h := fac_pos l.sum
  rw [← this] at h
  exact Nat.pos_of_mul_pos_right h

/-- The inner loop's numbers: nothing passes 20!. -/
theorem inner (out X s i N : Nat) (h : out * X = fac s) (hN : s + (i + 1) ≤ N) : (out * c s i) * (s + i + 1) ≤ fac N ∧ (out * c s i) * (s + i + 1) / (i + 1) = out * c s (i + 1) := by
  have h2 : (out * c s i) * (X * fac i) = fac (s + i) := by
    rw [← c_fac s i, ← h]
    simp only [Nat.mul_assoc, Nat.mul_comm, Nat.mul_left_comm]
  have hX : 0 < X := by
    rcases Nat.eq_zero_or_pos X with h0 | h0
    · subst h0; have := fac_pos s; omega
    · exact h0
  have h3 : out * c s i ≤ fac (s + i) := by rw [← h2]; exact Nat.le_mul_of_pos_right _ (Nat.mul_pos hX (fac_pos i))
  constructor
  · refine Nat.le_trans (Nat.mul_le_mul_right _ h3) ?_
    rw [Nat.mul_comm]
    exact fac_mono (show s + i + 1 ≤ N by omega)
  · have := c_step s i
    rw [Nat.mul_assoc, ← this, ← Nat.mul_assoc]
    exact Nat.mul_div_cancel _ (Nat.succ_pos i)

/-! ### By who comes first -/
def term (l : List Nat) (i : Nat) : Nat := if 0 < l.getD i 0 then mult (l.set i (l.getD i 0 - 1)) else 0
/-- the terms from behind. -/
def down (l : List Nat) : Nat → Nat
  | 0 => 0
  | k + 1 => down l k + term l (l.length - 1 - k)
def allDown (l : List Nat) : Nat → Nat
  | 0 => 0
  | k + 1 => allDown l k + l.getD (l.length - 1 - k) 0

theorem facs_set : ∀ (l : List Nat) (i : Nat), i < l.length → 0 < l.getD i 0 → facs (l.set i (l.getD i 0 - 1)) * l.getD i 0 = facs l ∧ (l.set i (l.getD i 0 - 1)).sum + 1 = l.sum
  | n :: l, 0, _, h => by
    simp at h ⊢
    obtain ⟨m, rfl⟩ : ∃ m, n = m + 1 := ⟨n - 1, by omega⟩
    simp [facs, fac]
    refine ⟨?_, by omega⟩
    simp only [Nat.mul_assoc, Nat.mul_comm, Nat.mul_left_comm]
  | n :: l, i + 1, hl, h => by
    simp at hl h
    have := facs_set l i hl (by simpa using h)
    simp at this ⊢
    refine ⟨?_, by omega⟩
    rw [facs, facs, ← this.1, Nat.mul_assoc]

theorem term_facs (l : List Nat) (i : Nat) (hi : i < l.length) : term l i * facs l = l.getD i 0 * fac (l.sum - 1) := by
  unfold term
  split
  · next h =>
    obtain ⟨h1, h2⟩ := facs_set l i hi h
    have h3 := mult_facs (l.set i (l.getD i 0 - 1))
    rw [← h1, ← Nat.mul_assoc, h3, show (l.set i (l.getD i 0 - 1)).sum = l.sum - 1 by omega, Nat.mul_comm]
  · next h =>
    have : l.getD i 0 = 0 := by omega
    rw [this]; simp
theorem down_facs (l : List Nat) : ∀ k, k ≤ l.length → down l k * facs l = allDown l k * fac (l.sum - 1)
  | 0, _ => by simp [down, allDown]
  | k + 1, h => by
    rw [down, allDown, Nat.add_mul, Nat.add_mul, down_facs l k (by omega), term_facs l _ (by omega)]
theorem allDown_rev (l : List Nat) : ∀ k, k ≤ l.length → allDown l k = (l.reverse.take k).sum
  | 0, _ => by simp [allDown]
  | k + 1, h => by
    rw [allDown, allDown_rev l k (by omega), List.take_succ_eq_append_getElem (by simp; omega), List.sum_append]
    simp [show l.length - 1 - k < l.length by omega]
theorem sum_rev (l : List Nat) : l.reverse.sum = l.sum := by
  induction l with
  | nil => rfl
  | cons n l ih => rw [List.reverse_cons, List.sum_append, ih]; simp; omega
theorem allDown_full (l : List Nat) : allDown l l.length = l.sum := by
  rw [allDown_rev l _ (Nat.le_refl _), List.take_of_length_le (by simp)]
  exact sum_rev l
theorem down_full (l : List Nat) (h : 0 < l.sum) : down l l.length = mult l := by
  have h1 := down_facs l l.length (Nat.le_refl _)
  rw [allDown_full] at h1
  apply Nat.eq_of_mul_eq_mul_right (facs_pos l)
  rw [h1, mult_facs]
  obtain ⟨s, hs⟩ : ∃ s, l.sum = s + 1 := ⟨l.sum - 1, by omega⟩
  rw [hs]; rfl
theorem facs_append (l m : List Nat) : facs (l ++ m) = facs l * facs m := by
  induction l with
  | nil => simp [facs]
  | cons n l ih => rw [List.cons_append, facs, facs, ih, Nat.mul_assoc]
theorem facs_reverse (l : List Nat) : facs l.reverse = facs l := by
  induction l with
  | nil => rfl
  | cons n l ih => rw [List.reverse_cons, facs_append, ih, facs]; simp [facs, Nat.mul_comm]
theorem mult_reverse (l : List Nat) : mult l.reverse = mult l := by
  apply Nat.eq_of_mul_eq_mul_right (facs_pos l)
  rw [mult_facs, ← facs_reverse, mult_facs, sum_rev]
theorem mult_none (l : List Nat) (h : l.sum = 0) : mult l = 1 := by
  have h1 := mult_facs l
  rw [h] at h1
  have h2 := mult_pos l
  have h3 := facs_pos l
  have : fac 0 = 1 := rfl
  rw [this] at h1
  have := Nat.le_mul_of_pos_right (mult l) h3
  omega
theorem allDown_le (l : List Nat) (k : Nat) (h : k ≤ l.length) : allDown l k ≤ l.sum := by
  rw [allDown_rev l k h]
  have : l.sum = (l.reverse.take k).sum + (l.reverse.drop k).sum := by rw [← List.sum_append, List.take_append_drop, sum_rev]
  omega
theorem down_le (l : List Nat) (k : Nat) (h : k ≤ l.length) : down l k ≤ mult l := by
  have h1 := down_facs l k h
  have h2 := mult_facs l
  have h3 := allDown_le l k h
  apply Nat.le_of_mul_le_mul_right _ (facs_pos l)
  rw [h1, h2]
  rcases Nat.eq_zero_or_pos l.sum with h0 | h0
  · rw [h0] at h3 ⊢
    have : allDown l k = 0 := by omega
    rw [this]; simp
  · obtain ⟨s, hs⟩ : ∃ s, l.sum = s + 1 := ⟨l.sum - 1, by omega⟩
    rw [hs] at h3 ⊢
    exact Nat.mul_le_mul_right _ h3
end Go.Mine.Inter
