/- A stable sort by insertion and by merging in place: plain law, no program. The list is a function on places. -/
namespace Go.Mine.Stab

/-- Places moved about within [a, b). -/
def Mv (a b : Nat) (c c' : Nat → Nat) : Prop := ∃ s : Nat → Nat, (∀ p, c' p = c (s p)) ∧ (∀ p q, s p = s q → p = q) ∧ (∀ p, a ≤ p → p < b → a ≤ s p ∧ s p < b) ∧ (∀ p, p < a ∨ b ≤ p → s p = p)
theorem Mv.refl (a b : Nat) (c : Nat → Nat) : Mv a b c c := ⟨id, fun _ => rfl, fun _ _ h => h, fun _ h1 h2 => ⟨h1, h2⟩, fun _ _ => rfl⟩
theorem Mv.wide {a b a' b' : Nat} {c c' : Nat → Nat} (h : Mv a b c c') (ha : a' ≤ a) (hb : b ≤ b') : Mv a' b' c c' := by
  obtain ⟨s, h1, h2, h3, h4⟩ := h
  refine ⟨s, h1, h2, fun p hp1 hp2 => ?_, fun p hp => h4 p (by omega)⟩
  by_cases hin : a ≤ p ∧ p < b
  · have := h3 p hin.1 hin.2; omega
  · rw [h4 p (by omega)]; exact ⟨hp1, hp2⟩
theorem Mv.trans {a b : Nat} {c d e : Nat → Nat} (h : Mv a b c d) (k : Mv a b d e) : Mv a b c e := by
  obtain ⟨s, h1, h2, h3, h4⟩ := h
  obtain ⟨t, k1, k2, k3, k4⟩ := k
  refine ⟨fun p => s (t p), fun p => by rw [k1, h1], fun p q e => k2 p q (h2 _ _ e), fun p hp1 hp2 => ?_, fun p hp => by show s (t p) = p; rw [k4 p hp, h4 p hp]⟩
  have := k3 p hp1 hp2
  exact h3 _ this.1 this.2
theorem Mv.out {a b : Nat} {c c' : Nat → Nat} (h : Mv a b c c') {p : Nat} (hp : p < a ∨ b ≤ p) : c' p = c p := by
  obtain ⟨s, h1, _, _, h4⟩ := h
  rw [h1, h4 p hp]
theorem Mv.from {a b : Nat} {c c' : Nat → Nat} (h : Mv a b c c') {p : Nat} (h1 : a ≤ p) (h2 : p < b) : ∃ q, a ≤ q ∧ q < b ∧ c' p = c q := by
  obtain ⟨s, e1, _, e3, _⟩ := h
  exact ⟨s p, (e3 p h1 h2).1, (e3 p h1 h2).2, e1 p⟩
theorem Mv.inj {a b : Nat} {c c' : Nat → Nat} (h : Mv a b c c') (hc : ∀ p q, c p = c q → p = q) : ∀ p q, c' p = c' q → p = q := by
  obtain ⟨s, e1, e2, _, _⟩ := h
  intro p q e
  rw [e1, e1] at e
  exact e2 p q (hc _ _ e)
/-- Two places changed. -/
def sw (c : Nat → Nat) (i j : Nat) : Nat → Nat := fun p => if p = i then c j else if p = j then c i else c p
theorem sw_mv (c : Nat → Nat) {a b i j : Nat} (hi : a ≤ i ∧ i < b) (hj : a ≤ j ∧ j < b) : Mv a b c (sw c i j) := by
  refine ⟨fun p => if p = i then j else if p = j then i else p, fun p => ?_, fun p q e => ?_, fun p h1 h2 => ?_, fun p hp => ?_⟩
  · simp only [sw]; split
    · rfl
    · split <;> rfl
  · simp only at e
    split at e <;> split at e <;> (try split at e) <;> (try split at e) <;> omega
  · show a ≤ (if p = i then j else if p = j then i else p) ∧ (if p = i then j else if p = j then i else p) < b
    split
    · exact hj
    · split
      · exact hi
      · exact ⟨h1, h2⟩
  · show (if p = i then j else if p = j then i else p) = p
    rw [if_neg (by omega), if_neg (by omega)]

structure Ord (L : Nat → Nat → Prop) : Prop where
  asymm : ∀ x y, L x y → ¬ L y x
  trans : ∀ x y z, L x y → L y z → L x z
  total : ∀ x y, x ≠ y → L x y ∨ L y x
def SortedR (L : Nat → Nat → Prop) (c : Nat → Nat) (a b : Nat) : Prop := ∀ p q, a ≤ p → p < q → q < b → L (c p) (c q)
def Asc (c : Nat → Nat) (a b : Nat) : Prop := ∀ p q, a ≤ p → p < q → q < b → c p < c q

/-- How the insertion stands: x is at place j. -/
structure Ins (L : Nat → Nat → Prop) (c : Nat → Nat) (a j i x : Nat) : Prop where
  at_ : c j = x
  rest : ∀ p q, a ≤ p → p < q → q ≤ i → p ≠ j → q ≠ j → L (c p) (c q)
  after : ∀ q, j < q → q ≤ i → L x (c q)
  less : ∀ p, a ≤ p → p ≤ i → p ≠ j → c p < x
theorem Ins.start {L : Nat → Nat → Prop} {c : Nat → Nat} {a i : Nat} (hs : SortedR L c a i) (hl : ∀ p, a ≤ p → p < i → c p < c i) : Ins L c a i i (c i) :=
  ⟨rfl, fun p q h1 h2 h3 _ h5 => hs p q h1 h2 (by omega), fun q h1 h2 => by omega, fun p h1 h2 h3 => hl p h1 (by omega)⟩
theorem Ins.step {L : Nat → Nat → Prop} {c : Nat → Nat} {a j i x : Nat} (h : Ins L c a (j + 1) i x) (ha : a ≤ j) (hj : j + 1 ≤ i) (hL : L x (c j)) : Ins L (sw c (j + 1) j) a j i x := by
  have e : ∀ p, sw c (j + 1) j p = if p = j + 1 then c j else if p = j then x else c p := fun p => by simp only [sw, h.at_]
  refine ⟨by rw [e, if_neg (by omega), if_pos rfl], fun p q h1 h2 h3 h4 h5 => ?_, fun q h1 h2 => ?_, fun p h1 h2 h3 => ?_⟩
  · rw [e, e]
    by_cases hp : p = j + 1
    · rw [if_pos hp, if_neg (by omega), if_neg (by omega)]
      exact h.rest j q ha (by omega) h3 (by omega) (by omega)
    · rw [if_neg hp, if_neg h4]
      by_cases hq : q = j + 1
      · rw [if_pos hq]
        exact h.rest p j h1 (by omega) (by omega) (by omega) (by omega)
      · rw [if_neg hq, if_neg h5]
        exact h.rest p q h1 h2 h3 hp hq
  · rw [e]
    by_cases hq : q = j + 1
    · rw [if_pos hq]; exact hL
    · rw [if_neg hq, if_neg (by omega)]
      exact h.after q (by omega) h2
  · rw [e]
    by_cases hp : p = j + 1
    · rw [if_pos hp]; exact h.less j ha (by omega) (by omega)
    · rw [if_neg hp, if_neg h3]; exact h.less p h1 h2 hp
theorem Ins.done {L : Nat → Nat → Prop} (hL : Ord L) {c : Nat → Nat} {a j i x : Nat} (h : Ins L c a j i x) (_ha : a ≤ j) (hj : j ≤ i) (hstop : j = a ∨ L (c (j - 1)) x) : SortedR L c a (i + 1) := by
  intro p q h1 h2 h3
  by_cases hp : p = j
  · rw [hp, h.at_]; exact h.after q (by omega) (by omega)
  · by_cases hq : q = j
    · rw [hq, h.at_]
      rcases hstop with hs | hs
      · omega
      · by_cases hpj : p = j - 1
        · rw [hpj]; exact hs
        · exact hL.trans _ _ _ (h.rest p (j - 1) h1 (by omega) (by omega) hp (by omega)) hs
    · exact h.rest p q h1 h2 (by omega) hp hq
theorem Ins.stop {L : Nat → Nat → Prop} (hL : Ord L) {c : Nat → Nat} {a j i x : Nat} (h : Ins L c a (j + 1) i x) (ha : a ≤ j) (hj : j + 1 ≤ i) (hn : ¬ L x (c j)) : L (c j) x := by
  have := h.less j ha (by omega) (by omega)
  rcases hL.total x (c j) (by omega) with h | h
  · exact absurd h hn
  · exact h

/-- Blocks of i and j places around m changed. -/
def rot (m i j : Nat) (c : Nat → Nat) : Nat → Nat := fun p => if m - i ≤ p ∧ p < m - i + j then c (p + i) else if m - i + j ≤ p ∧ p < m + j then c (p - j) else c p
/-- So many places from x on changed with those from y on. -/
def swr (x y k : Nat) (c : Nat → Nat) : Nat → Nat := fun p => if x ≤ p ∧ p < x + k then c (p - x + y) else if y ≤ p ∧ p < y + k then c (p - y + x) else c p
theorem swr_zero (x y : Nat) (c : Nat → Nat) : swr x y 0 c = c := by
  funext p; simp only [swr]; rw [if_neg (by omega), if_neg (by omega)]
theorem swr_succ {x y k : Nat} (hxy : x + k < y) (c : Nat → Nat) : sw (swr x y k c) (x + k) (y + k) = swr x y (k + 1) c := by
  funext p
  simp only [sw, swr]
  by_cases h1 : p = x + k
  · rw [if_pos h1, if_neg (by omega), if_neg (by omega), if_pos (by omega)]; congr 1; omega
  · rw [if_neg h1]
    by_cases h2 : p = y + k
    · rw [if_pos h2, if_neg (by omega), if_neg (by omega), if_neg (by omega), if_pos (by omega)]; congr 1; omega
    · rw [if_neg h2]
      by_cases h3 : x ≤ p ∧ p < x + k
      · rw [if_pos h3, if_pos (by omega)]
      · rw [if_neg h3]
        by_cases h4 : y ≤ p ∧ p < y + k
        · rw [if_pos h4, if_neg (by omega), if_pos (by omega)]
        · rw [if_neg h4, if_neg (by omega), if_neg (by omega)]
theorem rot_gt {m i j : Nat} (hij : j < i) (hm : i ≤ m) (c : Nat → Nat) : rot m i j c = rot m (i - j) j (swr (m - i) m j c) := by
  funext p
  simp only [rot, swr]
  by_cases h1 : m - i ≤ p ∧ p < m - i + j
  · rw [if_pos h1, if_neg (by omega), if_neg (by omega), if_pos (by omega)]; congr 1; omega
  · rw [if_neg h1]
    by_cases h2 : m - i + j ≤ p ∧ p < m - i + j + j ∧ p < m + j
    · rw [if_pos (by omega), if_pos (by omega)]
      by_cases h3 : p + (i - j) < m
      · omega
      · rw [if_neg (by omega), if_pos (by omega)]; congr 1; omega
    · by_cases h3 : m - i + j ≤ p ∧ p < m + j
      · rw [if_pos h3]
        by_cases h4 : p < m - (i - j) + j
        · rw [if_pos (by omega), if_neg (by omega)]
          by_cases h5 : p + (i - j) < m + j
          · rw [if_pos (by omega)]; congr 1; omega
          · omega
        · rw [if_neg (by omega), if_pos (by omega), if_neg (by omega)]
          rw [if_neg (by omega)]
      · rw [if_neg h3, if_neg (by omega), if_neg (by omega), if_neg (by omega), if_neg (by omega)]
theorem rot_lt {m i j : Nat} (hij : i < j) (hm : i ≤ m) (c : Nat → Nat) : rot m i j c = rot m i (j - i) (swr (m - i) (m + j - i) i c) := by
  funext p
  simp only [rot, swr]
  by_cases h1 : m - i ≤ p ∧ p < m - i + (j - i)
  · rw [if_pos (by omega), if_pos h1, if_neg (by omega)]
    rw [if_neg (by omega)]
  · by_cases h2 : m - i ≤ p ∧ p < m - i + j
    · rw [if_pos h2, if_neg h1, if_pos (by omega), if_pos (by omega)]; congr 1; omega
    · by_cases h3 : m - i + j ≤ p ∧ p < m + j
      · rw [if_neg h2, if_pos h3, if_neg h1, if_neg (by omega), if_neg (by omega), if_pos (by omega)]; congr 1; omega
      · rw [if_neg h2, if_neg h3, if_neg h1, if_neg (by omega), if_neg (by omega), if_neg (by omega)]
theorem rot_eq {m i : Nat} (hm : i ≤ m) (c : Nat → Nat) : rot m i i c = swr (m - i) m i c := by
  funext p
  simp only [rot, swr]
  by_cases h1 : m - i ≤ p ∧ p < m - i + i
  · rw [if_pos h1, if_pos h1]; congr 1; omega
  · rw [if_neg h1, if_neg h1]
    by_cases h2 : m - i + i ≤ p ∧ p < m + i
    · rw [if_pos h2, if_pos (by omega)]; congr 1; omega
    · rw [if_neg h2, if_neg (by omega)]
theorem rot_zero_left {m j : Nat} (c : Nat → Nat) : rot m 0 j c = c := by
  funext p
  simp only [rot, Nat.sub_zero, Nat.add_zero]
  split
  · rfl
  · rw [if_neg (by omega)]
theorem rot_zero_right {m i : Nat} (c : Nat → Nat) : rot m i 0 c = c := by
  funext p
  simp only [rot, Nat.sub_zero, Nat.add_zero]
  rw [if_neg (by omega)]
  split <;> rfl
theorem rot_mv {m i j : Nat} (hm : i ≤ m) (c : Nat → Nat) : Mv (m - i) (m + j) c (rot m i j c) := by
  refine ⟨fun p => if m - i ≤ p ∧ p < m - i + j then p + i else if m - i + j ≤ p ∧ p < m + j then p - j else p, fun p => ?_, fun p q e => ?_, fun p h1 h2 => ?_, fun p hp => ?_⟩
  · simp only [rot]; split
    · rfl
    · split <;> rfl
  · simp only at e
    split at e <;> split at e <;> (try split at e) <;> (try split at e) <;> omega
  · show m - i ≤ (if m - i ≤ p ∧ p < m - i + j then p + i else if m - i + j ≤ p ∧ p < m + j then p - j else p) ∧ (if m - i ≤ p ∧ p < m - i + j then p + i else if m - i + j ≤ p ∧ p < m + j then p - j else p) < m + j
    split
    · omega
    · split <;> omega
  · show (if m - i ≤ p ∧ p < m - i + j then p + i else if m - i + j ≤ p ∧ p < m + j then p - j else p) = p
    rw [if_neg (by omega), if_neg (by omega)]
/-- The first one pushed up to place k, the last one pulled down to it. -/
theorem up_succ {a k : Nat} (hak : a ≤ k) (c : Nat → Nat) : sw (rot (a + 1) 1 (k - a) c) k (k + 1) = rot (a + 1) 1 (k + 1 - a) c := by
  funext p
  simp only [sw, rot, Nat.add_sub_cancel]
  by_cases h1 : p = k
  · rw [if_pos h1, if_neg (by omega), if_neg (by omega), if_pos (by omega)]; congr 1; omega
  · rw [if_neg h1]
    by_cases h2 : p = k + 1
    · rw [if_pos h2, if_neg (by omega), if_pos (by omega), if_neg (by omega), if_pos (by omega)]; congr 1; omega
    · rw [if_neg h2]
      by_cases h3 : a ≤ p ∧ p < a + (k - a)
      · rw [if_pos h3, if_pos (by omega)]
      · rw [if_neg h3, if_neg (by omega), if_neg (by omega), if_neg (by omega)]
theorem down_succ {m k : Nat} (hk : k < m) (c : Nat → Nat) : sw (rot m (m - (k + 1)) 1 c) (k + 1) k = rot m (m - k) 1 c := by
  funext p
  have e1 : m - (m - (k + 1)) = k + 1 := by omega
  have e2 : m - (m - k) = k := by omega
  simp only [sw, rot, e1, e2]
  by_cases h1 : p = k + 1
  · rw [if_pos h1, if_neg (by omega), if_neg (by omega), if_neg (by omega), if_pos (by omega)]; congr 1; omega
  · rw [if_neg h1]
    by_cases h2 : p = k
    · rw [if_pos h2, if_pos (by omega), if_pos (by omega)]; congr 1; omega
    · rw [if_neg h2]
      by_cases h3 : k + 1 + 1 ≤ p ∧ p < m + 1
      · rw [if_neg (by omega), if_pos h3, if_neg (by omega), if_pos (by omega)]
      · rw [if_neg (by omega), if_neg h3, if_neg (by omega), if_neg (by omega)]

/-- What a merge is handed. -/
structure Runs (L : Nat → Nat → Prop) (c : Nat → Nat) (a m b : Nat) : Prop where
  left : SortedR L c a m
  right : SortedR L c m b
  cross : ∀ p q, a ≤ p → p < m → m ≤ q → q < b → c p < c q
/-- One on the left: to its place. -/
theorem Runs.one_left {L : Nat → Nat → Prop} (hL : Ord L) {c : Nat → Nat} {a b i : Nat} (h : Runs L c a (a + 1) b) (hi : a + 1 ≤ i) (hib : i ≤ b) (h1 : ∀ q, a + 1 ≤ q → q < i → L (c q) (c a)) (h2 : ∀ q, i ≤ q → q < b → ¬ L (c q) (c a)) : SortedR L (rot (a + 1) 1 (i - 1 - a) c) a b := by
  have e : ∀ p, rot (a + 1) 1 (i - 1 - a) c p = if a ≤ p ∧ p < i - 1 then c (p + 1) else if p = i - 1 then c a else c p := fun p => by
    simp only [rot, Nat.add_sub_cancel]
    by_cases k1 : a ≤ p ∧ p < i - 1
    · rw [if_pos (by omega), if_pos k1]
    · rw [if_neg (by omega), if_neg k1]
      by_cases k2 : p = i - 1
      · rw [if_pos (by omega), if_pos k2]; congr 1; omega
      · rw [if_neg (by omega), if_neg k2]
  have ha : ∀ q, i ≤ q → q < b → L (c a) (c q) := fun q k1 k2 => by
    have := h.cross a q (by omega) (by omega) (by omega) k2
    rcases hL.total (c a) (c q) (by omega) with h | h
    · exact h
    · exact absurd h (h2 q k1 k2)
  intro p q k1 k2 k3
  rw [e, e]
  by_cases hp : a ≤ p ∧ p < i - 1
  · rw [if_pos hp]
    by_cases hq : q < i - 1
    · rw [if_pos (by omega)]; exact h.right _ _ (by omega) (by omega) (by omega)
    · rw [if_neg (by omega)]
      by_cases hq2 : q = i - 1
      · rw [if_pos hq2]; exact h1 _ (by omega) (by omega)
      · rw [if_neg hq2]; exact h.right _ _ (by omega) (by omega) k3
  · rw [if_neg hp]
    by_cases hp2 : p = i - 1
    · rw [if_pos hp2, if_neg (by omega), if_neg (by omega)]; exact ha q (by omega) k3
    · rw [if_neg hp2, if_neg (by omega), if_neg (by omega)]; exact h.right _ _ (by omega) k2 k3
/-- One on the right: to its place. -/
theorem Runs.one_right {L : Nat → Nat → Prop} (hL : Ord L) {c : Nat → Nat} {a m i : Nat} (h : Runs L c a m (m + 1)) (hi : a ≤ i) (him : i ≤ m) (h1 : ∀ q, a ≤ q → q < i → ¬ L (c m) (c q)) (h2 : ∀ q, i ≤ q → q < m → L (c m) (c q)) : SortedR L (rot m (m - i) 1 c) a (m + 1) := by
  have e : ∀ p, rot m (m - i) 1 c p = if p = i then c m else if i < p ∧ p ≤ m then c (p - 1) else c p := fun p => by
    simp only [rot]
    by_cases k1 : p = i
    · rw [if_pos (by omega), if_pos k1]; congr 1; omega
    · rw [if_neg (by omega), if_neg k1]
      by_cases k2 : i < p ∧ p ≤ m
      · rw [if_pos (by omega), if_pos k2]
      · rw [if_neg (by omega), if_neg k2]
  have ha : ∀ q, a ≤ q → q < i → L (c q) (c m) := fun q k1 k2 => by
    have := h.cross q m k1 (by omega) (by omega) (by omega)
    rcases hL.total (c m) (c q) (by omega) with h | h
    · exact absurd h (h1 q k1 k2)
    · exact h
  intro p q k1 k2 k3
  rw [e, e]
  by_cases hp : p = i
  · rw [if_pos hp, if_neg (by omega), if_pos (by omega)]; exact h2 _ (by omega) (by omega)
  · rw [if_neg hp]
    by_cases hp2 : i < p ∧ p ≤ m
    · rw [if_pos hp2, if_neg (by omega), if_pos (by omega)]; exact h.left _ _ (by omega) (by omega) (by omega)
    · rw [if_neg hp2]
      by_cases hq : q = i
      · rw [if_pos hq]; exact ha p k1 (by omega)
      · rw [if_neg hq]
        by_cases hq2 : i < q ∧ q ≤ m
        · rw [if_pos hq2]; exact h.left _ _ k1 (by omega) (by omega)
        · rw [if_neg hq2]; exact h.left _ _ k1 k2 (by omega)
/-- The cut of a merge: n = mid + m places; from start0 to r0 one looks for it. -/
structure Cutp (L : Nat → Nat → Prop) (c : Nat → Nat) (a m b mid s : Nat) : Prop where
  lo : a ≤ s
  hi : s ≤ m
  mid1 : a ≤ mid
  mid2 : mid ≤ b
  end1 : m ≤ mid + m - s
  end2 : mid + m - s ≤ b
  sm : s ≤ mid
  before : a < s → mid + m - s < b → L (c (s - 1)) (c (mid + m - s))
  after : s < m → m < mid + m - s → L (c (mid + m - s - 1)) (c s)
theorem Cutp.runs1 {L : Nat → Nat → Prop} {c : Nat → Nat} {a m b mid s : Nat} (h : Cutp L c a m b mid s) (hr : Runs L c a m b) : Runs L (rot m (m - s) (mid - s) c) a s mid := by
  obtain ⟨h1, h2, h3, h4, h5, h6, h7, _, _⟩ := h
  have e1 : ∀ p, p < s → rot m (m - s) (mid - s) c p = c p := fun p hp => by simp only [rot]; rw [if_neg (by omega), if_neg (by omega)]
  have e2 : ∀ p, s ≤ p → p < mid → rot m (m - s) (mid - s) c p = c (p + (m - s)) := fun p hp hp2 => by simp only [rot]; rw [if_pos (by omega)]
  refine ⟨fun p q k1 k2 k3 => ?_, fun p q k1 k2 k3 => ?_, fun p q k1 k2 k3 k4 => ?_⟩
  · rw [e1 p (by omega), e1 q k3]; exact hr.left p q k1 k2 (by omega)
  · rw [e2 p k1 (by omega), e2 q (by omega) k3]; exact hr.right _ _ (by omega) (by omega) (by omega)
  · rw [e1 p k2, e2 q k3 k4]; exact hr.cross _ _ k1 (by omega) (by omega) (by omega)
theorem Cutp.runs2 {L : Nat → Nat → Prop} {c : Nat → Nat} {a m b mid s : Nat} (h : Cutp L c a m b mid s) (hr : Runs L c a m b) : Runs L (rot m (m - s) (mid - s) c) mid (mid + m - s) b := by
  obtain ⟨h1, h2, h3, h4, h5, h6, h7, _, _⟩ := h
  have e1 : ∀ p, mid ≤ p → p < mid + m - s → rot m (m - s) (mid - s) c p = c (p - (mid - s)) := fun p hp hp2 => by simp only [rot]; rw [if_neg (by omega), if_pos (by omega)]
  have e2 : ∀ p, mid + m - s ≤ p → rot m (m - s) (mid - s) c p = c p := fun p hp => by simp only [rot]; rw [if_neg (by omega), if_neg (by omega)]
  refine ⟨fun p q k1 k2 k3 => ?_, fun p q k1 k2 k3 => ?_, fun p q k1 k2 k3 k4 => ?_⟩
  · rw [e1 p k1 (by omega), e1 q (by omega) k3]; exact hr.left _ _ (by omega) (by omega) (by omega)
  · rw [e2 p k1, e2 q (by omega)]; exact hr.right _ _ (by omega) k2 k3
  · rw [e1 p k1 k2, e2 q k3]; exact hr.cross _ _ (by omega) (by omega) (by omega) k4
/-- What lies ahead of the middle is ahead of what lies behind it. -/
theorem Cutp.halves {L : Nat → Nat → Prop} (hL : Ord L) {c : Nat → Nat} {a m b mid s : Nat} (h : Cutp L c a m b mid s) (hr : Runs L c a m b) : ∀ p q, a ≤ p → p < mid → mid ≤ q → q < b → L (rot m (m - s) (mid - s) c p) (rot m (m - s) (mid - s) c q) := by
  obtain ⟨h1, h2, h3, h4, h5, h6, h7, hb, ha⟩ := h
  have e1 : ∀ p, p < s → rot m (m - s) (mid - s) c p = c p := fun p hp => by simp only [rot]; rw [if_neg (by omega), if_neg (by omega)]
  have e2 : ∀ p, s ≤ p → p < mid → rot m (m - s) (mid - s) c p = c (p + (m - s)) := fun p hp hp2 => by simp only [rot]; rw [if_pos (by omega)]
  have e3 : ∀ p, mid ≤ p → p < mid + m - s → rot m (m - s) (mid - s) c p = c (p - (mid - s)) := fun p hp hp2 => by simp only [rot]; rw [if_neg (by omega), if_pos (by omega)]
  have e4 : ∀ p, mid + m - s ≤ p → rot m (m - s) (mid - s) c p = c p := fun p hp => by simp only [rot]; rw [if_neg (by omega), if_neg (by omega)]
  have le1 : ∀ p q, a ≤ p → p ≤ q → q < m → p = q ∨ L (c p) (c q) := fun p q k1 k2 k3 => by
    by_cases e : p = q
    · exact .inl e
    · exact .inr (hr.left p q k1 (by omega) k3)
  have le2 : ∀ p q, m ≤ p → p ≤ q → q < b → p = q ∨ L (c p) (c q) := fun p q k1 k2 k3 => by
    by_cases e : p = q
    · exact .inl e
    · exact .inr (hr.right p q k1 (by omega) k3)
  intro p q k1 k2 k3 k4
  by_cases hp : p < s
  · rw [e1 p hp]
    by_cases hq : q < mid + m - s
    · rw [e3 q k3 hq]; exact hr.left _ _ k1 (by omega) (by omega)
    · rw [e4 q (by omega)]
      have h0 := hb (by omega) (by omega)
      have h9 : L (c p) (c (mid + m - s)) := by
        rcases le1 p (s - 1) k1 (by omega) (by omega) with e | h
        · rw [e]; exact h0
        · exact hL.trans _ _ _ h h0
      rcases le2 (mid + m - s) q (by omega) (by omega) k4 with e | h
      · rw [← e]; exact h9
      · exact hL.trans _ _ _ h9 h
  · rw [e2 p (by omega) k2]
    by_cases hq : q < mid + m - s
    · rw [e3 q k3 hq]
      have h0 := ha (by omega) (by omega)
      have h9 : L (c (p + (m - s))) (c s) := by
        rcases le2 (p + (m - s)) (mid + m - s - 1) (by omega) (by omega) (by omega) with e | h
        · rw [e]; exact h0
        · exact hL.trans _ _ _ h h0
      rcases le1 s (q - (mid - s)) (by omega) (by omega) (by omega) with e | h
      · rw [← e]; exact h9
      · exact hL.trans _ _ _ h9 h
    · rw [e4 q (by omega)]; exact hr.right _ _ (by omega) (by omega) k4
/-- Both halves sorted, the one ahead of the other one. -/
theorem halves_sorted {L : Nat → Nat → Prop} {c c1 c2 : Nat → Nat} {a mid b : Nat} (h1 : Mv a mid c c1) (h2 : Mv mid b c1 c2) (ham : a ≤ mid) (hmb : mid ≤ b) (s1 : SortedR L c1 a mid) (s2 : SortedR L c2 mid b) (hh : ∀ p q, a ≤ p → p < mid → mid ≤ q → q < b → L (c p) (c q)) : SortedR L c2 a b := by
  intro p q k1 k2 k3
  by_cases hq : q < mid
  · rw [h2.out (.inl (by omega)), h2.out (.inl hq)]; exact s1 p q k1 k2 hq
  · by_cases hp : mid ≤ p
    · exact s2 p q hp k2 k3
    · rw [h2.out (.inl (by omega))]
      obtain ⟨p', a1, a2, a3⟩ := h1.from k1 (by omega)
      obtain ⟨q', b1, b2, b3⟩ := h2.from (show mid ≤ q by omega) k3
      rw [a3, b3, h1.out (.inr b1)]
      exact hh p' q' a1 a2 b1 b2
/-- The search's outcome is a cut. -/
theorem cut_of {L : Nat → Nat → Prop} (hL : Ord L) {c : Nat → Nat} {a m b mid s s0 r0 : Nat} (hr : Runs L c a m b) (hmid : mid = (a + b) / 2) (h0 : (mid < m ∧ s0 = mid + m - b ∧ r0 = mid) ∨ (m ≤ mid ∧ s0 = a ∧ r0 = m)) (hs0 : s0 ≤ s) (hs1 : s ≤ r0)
    (hlo : ∀ q, s0 ≤ q → q < s → ¬ L (c (mid + m - 1 - q)) (c q)) (hhi : ∀ q, s ≤ q → q < r0 → L (c (mid + m - 1 - q)) (c q)) : Cutp L c a m b mid s := by
  have hd : 2 * mid ≤ a + b ∧ a + b < 2 * mid + 2 := by omega
  refine ⟨by omega, by omega, by omega, by omega, by omega, by omega, by omega, fun k1 k2 => ?_, fun k1 k2 => ?_⟩
  · have hs : s0 < s := by omega
    have hn := hlo (s - 1) (by omega) (by omega)
    rw [show mid + m - 1 - (s - 1) = mid + m - s by omega] at hn
    have hc := hr.cross (s - 1) (mid + m - s) (by omega) (by omega) (by omega) k2
    rcases hL.total (c (mid + m - s)) (c (s - 1)) (by omega) with h | h
    · exact absurd h hn
    · exact h
  · have hs : s < r0 := by omega
    have hh := hhi s (Nat.le_refl _) hs
    rwa [show mid + m - 1 - s = mid + m - s - 1 by omega] at hh
theorem find1_lo {L : Nat → Nat → Prop} (hL : Ord L) {c : Nat → Nat} {a b h : Nat} (hr : Runs L c a (a + 1) b) (hb : h < b) (hh : L (c h) (c a)) : ∀ q, a + 1 ≤ q → q < h + 1 → L (c q) (c a) := fun q k1 k2 => by
  by_cases e : q = h
  · rw [e]; exact hh
  · exact hL.trans _ _ _ (hr.right q h k1 (by omega) hb) hh
theorem find1_hi {L : Nat → Nat → Prop} (hL : Ord L) {c : Nat → Nat} {a b h : Nat} (hr : Runs L c a (a + 1) b) (ha : a + 1 ≤ h) (hh : ¬ L (c h) (c a)) : ∀ q, h ≤ q → q < b → ¬ L (c q) (c a) := fun q k1 k2 hq => by
  by_cases e : q = h
  · rw [e] at hq; exact hh hq
  · exact hh (hL.trans _ _ _ (hr.right h q ha (by omega) k2) hq)
theorem find2_lo {L : Nat → Nat → Prop} (hL : Ord L) {c : Nat → Nat} {a m b h : Nat} (hr : Runs L c a m b) (hm : h < m) (hh : ¬ L (c m) (c h)) : ∀ q, a ≤ q → q < h + 1 → ¬ L (c m) (c q) := fun q k1 k2 hq => by
  by_cases e : q = h
  · rw [e] at hq; exact hh hq
  · exact hh (hL.trans _ _ _ hq (hr.left q h k1 (by omega) hm))
theorem find2_hi {L : Nat → Nat → Prop} (hL : Ord L) {c : Nat → Nat} {a m b h : Nat} (hr : Runs L c a m b) (ha : a ≤ h) (hh : L (c m) (c h)) : ∀ q, h ≤ q → q < m → L (c m) (c q) := fun q k1 k2 => by
  by_cases e : q = h
  · rw [e]; exact hh
  · exact hL.trans _ _ _ hh (hr.left h q ha (by omega) k2)
theorem find3 {L : Nat → Nat → Prop} (hL : Ord L) {c : Nat → Nat} {a m b p q q' : Nat} (hr : Runs L c a m b) (hq : a ≤ q) (hqq : q ≤ q') (hm : q' < m) (h1 : m ≤ p - q') (h2 : p - q < b) (hh : L (c (p - q)) (c q)) : L (c (p - q')) (c q') := by
  by_cases e : q = q'
  · rw [← e]; exact hh
  · refine hL.trans _ _ _ ?_ (hL.trans _ _ _ hh (hr.left q q' hq (by omega) hm))
    exact hr.right _ _ h1 (by omega) h2
theorem Runs.congr {L : Nat → Nat → Prop} {c d : Nat → Nat} {a m b : Nat} (h : Runs L c a m b) (ham : a ≤ m) (hd : ∀ p, a ≤ p → d p = c p) : Runs L d a m b :=
  ⟨fun p q h1 h2 h3 => by rw [hd p h1, hd q (by omega)]; exact h.left p q h1 h2 h3, fun p q h1 h2 h3 => by rw [hd p (by omega), hd q (by omega)]; exact h.right p q h1 h2 h3, fun p q h1 h2 h3 h4 => by rw [hd p h1, hd q (by omega)]; exact h.cross p q h1 h2 h3 h4⟩
end Go.Mine.Stab
