/- Conditions, pairs, covering: plain numbers, no program. -/
import Derived.Test.YtpmfpegjkfnnkaaBools
namespace Go.Mine.Cond
open Go Go.RowKit

def at' (fs : List Bool) (t : Nat) : Bool := fs.getD t false
/-- t and the test with bit i set are a pair. -/
def pr (fs : List Bool) (i t : Nat) : Bool := !t.testBit i && (at' fs t != at' fs (t + 2 ^ i))
/-- The condition matters. -/
def Mat (fs : List Bool) (i : Nat) : Prop := ∃ t, t < fs.length ∧ pr fs i t = true
/-- The first pair is at t. -/
def First (fs : List Bool) (i t : Nat) : Prop := t < fs.length ∧ pr fs i t = true ∧ ∀ s, s < t → pr fs i s = false
/-- What is asked of a test for condition i. -/
def duo (fs : List Bool) (xs : List Int) (i : Nat) (x : Int) : Bool := (at' fs x.toNat != at' fs (x.toNat ^^^ 2 ^ i)) && decide (((x.toNat ^^^ 2 ^ i : Nat) : Int) ∈ xs)
/-- The tests cover. -/
def Cov (n : Nat) (fs : List Bool) (xs : List Int) : Prop :=
  (∀ i, i < n → Mat fs i → xs.any (duo fs xs i) = true) ∧ (false ∈ fs → true ∈ fs → ∀ b : Bool, xs.any (fun x => at' fs x.toNat == b) = true)

/-- A decision that is right. -/
def cok (n : Int) (len : Nat) : Prop := ∃ m : Nat, n = m ∧ 1 ≤ m ∧ m ≤ 6 ∧ len = 2 ^ m
/-- What is wrong with one, as a number. -/
def cfault (n : Int) (len : Nat) : Int := if n < 1 ∨ 6 < n then 1 else if len = 2 ^ n.toNat then 0 else 3
theorem cfault_ok {n : Int} {len : Nat} (h : cok n len) : cfault n len = 0 := by
  obtain ⟨m, rfl, h1, h2, h3⟩ := h
  unfold cfault
  rw [if_neg (by omega), if_pos (by simpa using h3)]
theorem cfault_bad {n : Int} {len : Nat} (h : ¬ cok n len) : cfault n len = 1 ∨ cfault n len = 3 := by
  unfold cfault
  split
  · exact .inl rfl
  · split
    · exact absurd ⟨n.toNat, by omega, by omega, by omega, by assumption⟩ h
    · exact .inr rfl
theorem pow_wrap : ∀ k, k ≤ 6 → wrap64 (2 ^ k) = ((2 ^ k : Nat) : Int) := by
  intro k hk
  rcases (show k = 0 ∨ k = 1 ∨ k = 2 ∨ k = 3 ∨ k = 4 ∨ k = 5 ∨ k = 6 by omega) with rfl | rfl | rfl | rfl | rfl | rfl | rfl <;> decide +kernel
theorem pow_le {k : Nat} (hk : k ≤ 6) : 2 ^ k ≤ 64 := by
  have := Nat.pow_le_pow_right (show 0 < 2 by omega) hk
  omega
theorem and_bit : ∀ k, k < 6 → ∀ t, t < 64 → bits BinOp.and IntKind.i64 ((t : Nat) : Int) ((2 ^ k : Nat) : Int) = if t.testBit k then ((2 ^ k : Nat) : Int) else 0 := by decide +kernel
theorem or_bit : ∀ k, k < 6 → ∀ t, t < 64 → t.testBit k = false → bits BinOp.or IntKind.i64 ((t : Nat) : Int) ((2 ^ k : Nat) : Int) = ((t + 2 ^ k : Nat) : Int) := by decide +kernel
theorem xor_bit : ∀ k, k < 6 → ∀ t, t < 64 → bits BinOp.xor IntKind.i64 ((t : Nat) : Int) ((2 ^ k : Nat) : Int) = ((t ^^^ 2 ^ k : Nat) : Int) := by decide +kernel
theorem set_lt : ∀ n, n < 7 → ∀ k, k < n → ∀ t, t < 2 ^ n → t.testBit k = false → t + 2 ^ k < 2 ^ n ∧ t ^^^ 2 ^ k = t + 2 ^ k := by decide +kernel
theorem xor_lt : ∀ n, n < 7 → ∀ k, k < n → ∀ t, t < 2 ^ n → t ^^^ 2 ^ k < 2 ^ n := by decide +kernel

theorem First.mat {fs : List Bool} {i t : Nat} (h : First fs i t) : Mat fs i := ⟨t, h.1, h.2.1⟩
theorem first_of {fs : List Bool} {i : Nat} (h : Mat fs i) : ∃ t, First fs i t := by
  obtain ⟨t, ht⟩ := h
  induction t using Nat.strongRecOn with
  | _ t ih =>
    by_cases hs : ∃ s, s < t ∧ pr fs i s = true
    · obtain ⟨s, hs, hp⟩ := hs
      exact ih s hs ⟨by omega, hp⟩
    · exact ⟨t, ht.1, ht.2, fun s hst => by
        cases hp : pr fs i s with
        | false => rfl
        | true => exact absurd ⟨s, hst, hp⟩ hs⟩
theorem First.uniq {fs : List Bool} {i t u : Nat} (h : First fs i t) (h' : First fs i u) : t = u := by
  rcases Nat.lt_trichotomy t u with e | e | e
  · have := h'.2.2 t e; rw [h.2.1] at this; cases this
  · exact e
  · have := h.2.2 u e; rw [h'.2.1] at this; cases this

theorem Cov.more {n : Nat} {fs : List Bool} {xs ys : List Int} (h : Cov n fs xs) (hs : ∀ x ∈ xs, x ∈ ys) : Cov n fs ys := by
  refine ⟨fun i hi hm => ?_, fun hf ht b => ?_⟩
  · obtain ⟨x, hx, hd⟩ := List.any_eq_true.1 (h.1 i hi hm)
    refine List.any_eq_true.2 ⟨x, hs x hx, ?_⟩
    simp only [duo, Bool.and_eq_true, decide_eq_true_eq] at hd ⊢
    exact ⟨hd.1, hs _ hd.2⟩
  · obtain ⟨x, hx, hd⟩ := List.any_eq_true.1 (h.2 hf ht b)
    exact List.any_eq_true.2 ⟨x, hs x hx, hd⟩
/-- All tests cover. -/
theorem Cov.all {n : Nat} {fs : List Bool} {xs : List Int} (hn : n ≤ 6) (hl : fs.length = 2 ^ n) (hx : ∀ t : Nat, t < 2 ^ n → (t : Int) ∈ xs) : Cov n fs xs := by
  refine ⟨fun i hi hm => ?_, fun hf ht b => ?_⟩
  · obtain ⟨t, ht, hp⟩ := hm
    simp only [pr, Bool.and_eq_true, Bool.not_eq_true'] at hp
    obtain ⟨h1, h2⟩ := set_lt n (by omega) i hi t (by omega) hp.1
    refine List.any_eq_true.2 ⟨t, hx t (by omega), ?_⟩
    simp only [duo, Int.toNat_natCast, Bool.and_eq_true, decide_eq_true_eq]
    rw [h2]
    exact ⟨hp.2, hx _ h1⟩
  · have hb : b ∈ fs := by cases b <;> assumption
    obtain ⟨t, ht, e⟩ := List.mem_iff_getElem.1 hb
    refine List.any_eq_true.2 ⟨t, hx t (by omega), ?_⟩
    simp [at', ht, e]

/-! ### Turned round -/
theorem at_not {fs : List Bool} {t : Nat} (h : t < fs.length) : at' (fs.map fun b => !b) t = !at' fs t := by simp [at', h]
theorem pr_not {n : Nat} {fs : List Bool} {i t : Nat} (hn : n ≤ 6) (hl : fs.length = 2 ^ n) (hi : i < n) (ht : t < fs.length) : pr (fs.map fun b => !b) i t = pr fs i t := by
  unfold pr
  cases hb : t.testBit i with
  | true => rfl
  | false =>
    have := (set_lt n (by omega) i hi t (by omega) hb).1
    rw [at_not ht, at_not (by omega)]
    cases at' fs t <;> cases at' fs (t + 2 ^ i) <;> rfl
theorem mat_not {n : Nat} {fs : List Bool} {i : Nat} (hn : n ≤ 6) (hl : fs.length = 2 ^ n) (hi : i < n) : Mat (fs.map fun b => !b) i ↔ Mat fs i := by
  unfold Mat
  rw [List.length_map]
  constructor
  · rintro ⟨t, ht, h⟩; exact ⟨t, ht, by rwa [pr_not hn hl hi ht] at h⟩
  · rintro ⟨t, ht, h⟩; exact ⟨t, ht, by rwa [pr_not hn hl hi ht]⟩
theorem first_not {n : Nat} {fs : List Bool} {i t : Nat} (hn : n ≤ 6) (hl : fs.length = 2 ^ n) (hi : i < n) : First (fs.map fun b => !b) i t ↔ First fs i t := by
  unfold First
  rw [List.length_map]
  constructor
  · rintro ⟨h1, h2, h3⟩
    exact ⟨h1, by rwa [pr_not hn hl hi h1] at h2, fun s hs => by have := h3 s hs; rwa [pr_not hn hl hi (by omega)] at this⟩
  · rintro ⟨h1, h2, h3⟩
    exact ⟨h1, by rwa [pr_not hn hl hi h1], fun s hs => by rw [pr_not hn hl hi (by omega)]; exact h3 s hs⟩
theorem any_congr' {xs : List Int} {p q : Int → Bool} (h : ∀ x ∈ xs, p x = q x) : xs.any p = xs.any q := by
  induction xs with
  | nil => rfl
  | cons x xs ih => rw [List.any_cons, List.any_cons, h x List.mem_cons_self, ih fun y hy => h y (List.mem_cons_of_mem _ hy)]
theorem cov_not {n : Nat} {fs : List Bool} {xs : List Int} (hn : n ≤ 6) (hl : fs.length = 2 ^ n) (hx : ∀ x ∈ xs, 0 ≤ x ∧ x < fs.length) : Cov n (fs.map fun b => !b) xs ↔ Cov n fs xs := by
  have hd : ∀ i, i < n → xs.any (duo (fs.map fun b => !b) xs i) = xs.any (duo fs xs i) := fun i hi => any_congr' fun x hxx => by
    have hr := hx x hxx
    have h1 : x.toNat < fs.length := by omega
    have h2 := xor_lt n (by omega) i hi x.toNat (by omega)
    unfold duo
    rw [at_not h1, at_not (by omega)]
    cases at' fs x.toNat <;> cases at' fs (x.toNat ^^^ 2 ^ i) <;> rfl
  have hb : ∀ b : Bool, xs.any (fun x => at' (fs.map fun b => !b) x.toNat == b) = xs.any (fun x => at' fs x.toNat == !b) := fun b => any_congr' fun x hxx => by
    have hr := hx x hxx
    rw [at_not (by omega)]
    cases at' fs x.toNat <;> cases b <;> rfl
  have hf : false ∈ (fs.map fun b => !b) ↔ true ∈ fs := by simp
  have ht : true ∈ (fs.map fun b => !b) ↔ false ∈ fs := by simp
  unfold Cov
  constructor
  · rintro ⟨h1, h2⟩
    refine ⟨fun i hi hm => by rw [← hd i hi]; exact h1 i hi ((mat_not hn hl hi).2 hm), fun h3 h4 b => ?_⟩
    have := h2 (hf.2 h4) (ht.2 h3) (!b)
    rw [hb, Bool.not_not] at this
    exact this
  · rintro ⟨h1, h2⟩
    refine ⟨fun i hi hm => by rw [hd i hi]; exact h1 i hi ((mat_not hn hl hi).1 hm), fun h3 h4 b => ?_⟩
    rw [hb]
    exact h2 (ht.1 h4) (hf.1 h3) (!b)
end Go.Mine.Cond
