/- The sums by halves: plain numbers, no program. -/
import Derived.RowKit
namespace Go.Mine.Hada
set_option linter.unusedSimpArgs false
open Go.RowKit (wrap64)

/-- Is this bit of i not set? -/
def low (s i : Nat) : Prop := (i / 2 ^ s) % 2 = 0
instance (s i : Nat) : Decidable (low s i) := by unfold low; infer_instance
/-- One stage. -/
def B (s : Nat) (f : Nat → Int) (i : Nat) : Int := if low s i then f i + f (i + 2 ^ s) else f (i - 2 ^ s) - f i
/-- The stages below s, one after another. -/
def G : Nat → (Nat → Int) → Nat → Int
  | 0, f => f
  | s + 1, f => B s (G s f)

theorem high_ge {s i : Nat} (h : ¬ low s i) : 2 ^ s ≤ i := by
  unfold low at h
  rcases Nat.lt_or_ge i (2 ^ s) with h1 | h1
  · rw [Nat.div_eq_of_lt h1] at h; simp at h
  · exact h1
theorem low_lt {s i : Nat} (h : i < 2 ^ s) : low s i := by
  unfold low; rw [Nat.div_eq_of_lt h]
theorem low_add {s i m : Nat} : low s (m * 2 ^ (s + 1) + i) ↔ low s i := by
  unfold low
  rw [show m * 2 ^ (s + 1) + i = i + 2 ^ s * (2 * m) by rw [Nat.pow_succ, Nat.add_comm]; congr 1; simp only [Nat.mul_assoc, Nat.mul_comm, Nat.mul_left_comm]]
  rw [Nat.add_mul_div_left _ _ (Nat.two_pow_pos s), Nat.add_mul_mod_self_left]
theorem low_flip {s i : Nat} (h : low s i) : ¬ low s (i + 2 ^ s) := by
  unfold low at *
  rw [Nat.add_div_right _ (Nat.two_pow_pos s)]
  omega
theorem high_flip {s i : Nat} (h : ¬ low s i) : low s (i - 2 ^ s) := by
  have h1 := high_ge h
  obtain ⟨j, rfl⟩ : ∃ j, i = j + 2 ^ s := ⟨i - 2 ^ s, by omega⟩
  rw [Nat.add_sub_cancel]
  unfold low at *
  rw [Nat.add_div_right _ (Nat.two_pow_pos s)] at h
  omega

theorem B_shift (s m : Nat) (f : Nat → Int) (i : Nat) : B s f (m * 2 ^ (s + 1) + i) = B s (fun j => f (m * 2 ^ (s + 1) + j)) i := by
  unfold B
  by_cases h : low s i
  · rw [if_pos (low_add.2 h), if_pos h, Nat.add_assoc]
  · rw [if_neg (fun h' => h (low_add.1 h')), if_neg h]
    have := high_ge h
    rw [show m * 2 ^ (s + 1) + i - 2 ^ s = m * 2 ^ (s + 1) + (i - 2 ^ s) by omega]
theorem B_congr {s : Nat} {f g : Nat → Int} (h : ∀ i, f i = g i) : ∀ i, B s f i = B s g i := by
  intro i; unfold B; rw [h, h, h]
theorem G_shift : ∀ (s m : Nat) (f : Nat → Int) (i : Nat), G s f (m * 2 ^ s + i) = G s (fun j => f (m * 2 ^ s + j)) i
  | 0, m, f, i => rfl
  | s + 1, m, f, i => by
    rw [G, G, B_shift]
    refine B_congr (fun j => ?_) i
    have := G_shift s (2 * m) f j
    rw [show 2 * m * 2 ^ s = m * 2 ^ (s + 1) by rw [Nat.pow_succ]; simp only [Nat.mul_assoc, Nat.mul_comm, Nat.mul_left_comm]] at this
    exact this
/-- The next stage by halves. -/
theorem G_left (s : Nat) (f : Nat → Int) (i : Nat) (h : i < 2 ^ s) : G (s + 1) f i = G s f i + G s (fun j => f (2 ^ s + j)) i := by
  have := G_shift s 1 f i
  rw [Nat.one_mul] at this
  rw [G, B, if_pos (low_lt h), Nat.add_comm i, this]
theorem G_right (s : Nat) (f : Nat → Int) (i : Nat) (h : i < 2 ^ s) : G (s + 1) f (2 ^ s + i) = G s f i - G s (fun j => f (2 ^ s + j)) i := by
  have := G_shift s 1 f i
  rw [Nat.one_mul] at this
  have hn : ¬ low s (2 ^ s + i) := by rw [Nat.add_comm]; exact low_flip (low_lt h)
  rw [G, B, if_neg hn, Nat.add_sub_cancel_left, this]
/-- It hangs on the first 2^s numbers alone. -/
theorem G_congr : ∀ (s : Nat) {f g : Nat → Int}, (∀ i, i < 2 ^ s → f i = g i) → ∀ i, i < 2 ^ s → G s f i = G s g i
  | 0, f, g, h, i, hi => h i hi
  | s + 1, f, g, h, i, hi => by
    rw [Nat.pow_succ] at hi h
    have h1 : ∀ i, i < 2 ^ s → f i = g i := fun i hi => h i (by omega)
    have h2 : ∀ i, i < 2 ^ s → f (2 ^ s + i) = g (2 ^ s + i) := fun i hi => h _ (by omega)
    rcases Nat.lt_or_ge i (2 ^ s) with hl | hl
    · rw [G_left s f i hl, G_left s g i hl, G_congr s h1 i hl, G_congr s (f := fun j => f (2 ^ s + j)) (g := fun j => g (2 ^ s + j)) h2 i hl]
    · obtain ⟨j, rfl⟩ : ∃ j, i = 2 ^ s + j := ⟨i - 2 ^ s, by omega⟩
      have hj : j < 2 ^ s := by omega
      rw [G_right s f j hj, G_right s g j hj, G_congr s h1 j hj, G_congr s (f := fun j => f (2 ^ s + j)) (g := fun j => g (2 ^ s + j)) h2 j hj]
theorem G_add : ∀ (s : Nat) (f g : Nat → Int) (i : Nat), G s (fun j => f j + g j) i = G s f i + G s g i
  | 0, f, g, i => rfl
  | s + 1, f, g, i => by
    show B s (G s fun j => f j + g j) i = B s (G s f) i + B s (G s g) i
    unfold B
    rw [G_add s, G_add s, G_add s]
    split <;> omega
theorem G_sub : ∀ (s : Nat) (f g : Nat → Int) (i : Nat), G s (fun j => f j - g j) i = G s f i - G s g i
  | 0, f, g, i => rfl
  | s + 1, f, g, i => by
    show B s (G s fun j => f j - g j) i = B s (G s f) i - B s (G s g) i
    unfold B
    rw [G_sub s, G_sub s, G_sub s]
    split <;> omega
/-- There and back: so often the list. -/
theorem G_twice : ∀ (s : Nat) (f : Nat → Int) (i : Nat), i < 2 ^ s → G s (G s f) i = 2 ^ s * f i
  | 0, f, i, _ => by simp [G]
  | s + 1, f, i, hi => by
    rw [Nat.pow_succ] at hi
    have e1 : ∀ j, j < 2 ^ s → G (s + 1) f j = G s f j + G s (fun j => f (2 ^ s + j)) j := G_left s f
    have e2 : ∀ j, j < 2 ^ s → G (s + 1) f (2 ^ s + j) = G s f j - G s (fun j => f (2 ^ s + j)) j := G_right s f
    have t1 := G_twice s f
    have t2 := G_twice s (fun j => f (2 ^ s + j))
    have key : ∀ j, j < 2 ^ s → G s (G (s + 1) f) j = 2 ^ s * f j + 2 ^ s * f (2 ^ s + j) ∧ G s (fun j => G (s + 1) f (2 ^ s + j)) j = 2 ^ s * f j - 2 ^ s * f (2 ^ s + j) := fun j hj => by
      rw [G_congr s e1 j hj, G_congr s e2 j hj, G_add, G_sub, t1 j hj, t2 j hj]
      exact ⟨rfl, rfl⟩
    have p : (2 : Int) ^ (s + 1) = 2 * 2 ^ s := by rw [Int.pow_succ, Int.mul_comm]
    rcases Nat.lt_or_ge i (2 ^ s) with hl | hl
    · obtain ⟨k1, k2⟩ := key i hl
      rw [G_left s _ i hl, k1, k2, p, Int.mul_assoc]
      omega
    · obtain ⟨j, rfl⟩ : ∃ j, i = 2 ^ s + j := ⟨i - 2 ^ s, by omega⟩
      have hj : j < 2 ^ s := by omega
      obtain ⟨k1, k2⟩ := key j hj
      rw [G_right s _ j hj, k1, k2, p, Int.mul_assoc]
      omega

/-! ### The numbers of the machine -/
theorem wrap_mod (a b : Int) : wrap64 a = wrap64 b ↔ (a - b) % 18446744073709551616 = 0 := by
  simp only [wrap64]; omega
theorem wrap_wrap_add (a b : Int) : wrap64 (wrap64 a + wrap64 b) = wrap64 (a + b) := by simp only [wrap64]; omega
theorem wrap_wrap_sub (a b : Int) : wrap64 (wrap64 a - wrap64 b) = wrap64 (a - b) := by simp only [wrap64]; omega
theorem wrap_range (a : Int) : -9223372036854775808 ≤ wrap64 a ∧ wrap64 a ≤ 9223372036854775807 := by simp only [wrap64]; omega
theorem wrap_id (a : Int) (h : -9223372036854775808 ≤ a ∧ a ≤ 9223372036854775807) : wrap64 a = a := by simp only [wrap64]; omega
theorem wrap_idem (a : Int) : wrap64 (wrap64 a) = wrap64 a := wrap_id _ (wrap_range a)

theorem G_wrap : ∀ (s : Nat) (f g : Nat → Int), (∀ i, wrap64 (f i) = wrap64 (g i)) → ∀ i, wrap64 (G s f i) = wrap64 (G s g i)
  | 0, f, g, h, i => h i
  | s + 1, f, g, h, i => by
    have ih := G_wrap s f g h
    show wrap64 (B s (G s f) i) = wrap64 (B s (G s g) i)
    unfold B
    split
    · rw [← wrap_wrap_add, ih, ih, wrap_wrap_add]
    · rw [← wrap_wrap_sub, ih, ih, wrap_wrap_sub]
theorem G_bound : ∀ (s : Nat) (f : Nat → Int) (b : Int), (∀ i, -b ≤ f i ∧ f i ≤ b) → ∀ i, -(2 ^ s * b) ≤ G s f i ∧ G s f i ≤ 2 ^ s * b
  | 0, f, b, h, i => by simpa [G] using h i
  | s + 1, f, b, h, i => by
    have ih := G_bound s f b h
    have p : (2 : Int) ^ (s + 1) * b = 2 ^ s * b + 2 ^ s * b := by rw [Int.pow_succ, Int.mul_assoc, Int.mul_left_comm]; omega
    show -(2 ^ (s + 1) * b) ≤ B s (G s f) i ∧ B s (G s f) i ≤ 2 ^ (s + 1) * b
    rw [p]
    have h1 := ih i
    have h2 := ih (i + 2 ^ s)
    have h3 := ih (i - 2 ^ s)
    unfold B
    split <;> omega

/-! ### In place -/
def base (s j : Nat) : Nat := if low s j then j else j - 2 ^ s
/-- The row in the midst of a stage: the pairs whose lower one is ahead of i are done. -/
def cur (s : Nat) (f : Nat → Int) (i j : Nat) : Int := if base s j < i then B s f j else f j
theorem cur_zero (s : Nat) (f : Nat → Int) (j : Nat) : cur s f 0 j = f j := by simp [cur]
theorem cur_high (s : Nat) (f : Nat → Int) (i j : Nat) (h : ¬ low s i) : cur s f (i + 1) j = cur s f i j := by
  unfold cur
  have hne : base s j ≠ i := by
    unfold base
    split
    · intro e; subst e; contradiction
    · next h' => intro e; exact h (e ▸ high_flip h')
  by_cases hb : base s j < i
  · rw [if_pos hb, if_pos (by omega)]
  · rw [if_neg hb, if_neg (by omega)]
theorem cur_low (s : Nat) (f : Nat → Int) (i : Nat) (h : low s i) : cur s f i i = f i ∧ cur s f i (i + 2 ^ s) = f (i + 2 ^ s) ∧
    ∀ j, cur s f (i + 1) j = if j = i then f i + f (i + 2 ^ s) else if j = i + 2 ^ s then f i - f (i + 2 ^ s) else cur s f i j := by
  have hp := Nat.two_pow_pos s
  have b1 : base s i = i := by simp [base, h]
  have b2 : base s (i + 2 ^ s) = i := by simp [base, low_flip h]
  refine ⟨by simp [cur, b1], by simp [cur, b2], fun j => ?_⟩
  by_cases e1 : j = i
  · subst e1
    simp [cur, b1, B, h]
  · by_cases e2 : j = i + 2 ^ s
    · subst e2
      simp [cur, b2, B, low_flip h]
    · rw [if_neg e1, if_neg e2]
      have hne : base s j ≠ i := by
        unfold base
        split
        · exact e1
        · next h' => have := high_ge h'; omega
      unfold cur
      by_cases hb : base s j < i
      · rw [if_pos hb, if_pos (by omega)]
      · rw [if_neg hb, if_neg (by omega)]
theorem cur_all (s : Nat) (f : Nat → Int) (n j : Nat) (h : j < n) : cur s f n j = B s f j := by
  unfold cur base
  rw [if_pos]
  split
  · exact h
  · exact Nat.lt_of_le_of_lt (Nat.sub_le _ _) h

theorem set_range (n : Nat) (g : Nat → Value) (i : Nat) (v : Value) : ((List.range n).map g).set i v = (List.range n).map fun j => if j = i then v else g j := by
  apply List.ext_getElem?
  intro j
  rw [List.getElem?_set]
  simp only [List.length_map, List.length_range, List.getElem?_map]
  by_cases hj : j < n
  · rw [List.getElem?_range hj]
    by_cases e : i = j
    · subst e; simp [hj]
    · simp [e, Ne.symm e]
  · rw [List.getElem?_eq_none (by simp; omega)]
    simp
    omega
theorem low_top {k s i : Nat} (hs : s < k) (hi : i < 2 ^ k) (h : low s i) : i + 2 ^ s < 2 ^ k := by
  unfold low at h
  have h1 := Nat.div_add_mod i (2 ^ s)
  have h2 := Nat.mod_lt i (Nat.two_pow_pos s)
  obtain ⟨q, hq⟩ : ∃ q, i / 2 ^ s = 2 * q := ⟨i / 2 ^ s / 2, by omega⟩
  rw [hq] at h1
  have h3 : 2 ^ k = 2 ^ s * (2 * 2 ^ (k - s - 1)) := by
    rw [← Nat.pow_succ', ← Nat.pow_add]; congr 1; omega
  rw [h3] at hi ⊢
  have h4 : 2 * q < 2 * 2 ^ (k - s - 1) := by
    apply Nat.lt_of_mul_lt_mul_left (a := 2 ^ s)
    omega
  have h5 : 2 * q + 2 ≤ 2 * 2 ^ (k - s - 1) := by omega
  have h6 := Nat.mul_le_mul_left (2 ^ s) h5
  rw [Nat.mul_add] at h6
  omega
end Go.Mine.Hada
