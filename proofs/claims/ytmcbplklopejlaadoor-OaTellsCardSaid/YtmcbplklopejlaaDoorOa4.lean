/- Rows of numbers by Bose: any two share just one place. Plain lists, no program. -/
import Derived.Test.YtmcbplklopejlaaDoorOa3
namespace Go.Mine
open Go

/-- What stands at a place of the i-th row. -/
def oaCell (q i k : Nat) : Nat := if k = 0 then i / q else ((k - 1) * (i / q) + i % q) % q
def oaSame (q i j : Nat) : Nat := (List.range (q + 1)).countP fun k => oaCell q i k == oaCell q j k
def oaCheck (q : Nat) : Bool := (List.range (q * q)).all fun i => (List.range (q * q)).all fun j => i == j || oaSame q i j == 1
theorem oaCheck2 : oaCheck 2 = true := by decide +kernel
theorem oaCheck3 : oaCheck 3 = true := by decide +kernel
theorem oaCheck5 : oaCheck 5 = true := by decide +kernel
theorem oaCheck7 : oaCheck 7 = true := by decide +kernel
theorem oa_same {q : Nat} (hq : q = 2 ∨ q = 3 ∨ q = 5 ∨ q = 7) {i j : Nat} (hi : i < q * q) (hj : j < q * q) (hne : i ≠ j) : oaSame q i j = 1 := by
  have h : oaCheck q = true := by
    rcases hq with rfl | rfl | rfl | rfl
    · exact oaCheck2
    · exact oaCheck3
    · exact oaCheck5
    · exact oaCheck7
  unfold oaCheck at h
  rw [List.all_eq_true] at h
  have h1 := h i (List.mem_range.2 hi)
  rw [List.all_eq_true] at h1
  have h2 := h1 j (List.mem_range.2 hj)
  simpa [hne] using h2
theorem oaRow_get {q i k : Nat} (hk : k < q + 1) : (oaRow q (i / q) (i % q)).getD k 0 = (oaCell q i k : Int) := by
  unfold oaRow oaRowK oaCell
  cases k with
  | zero => simp
  | succ k =>
    have : k < q := by omega
    simp [this]
theorem oaRows_get {q i : Nat} (hi : i < q * q) : (oaRows q).getD i [] = oaRow q (i / q) (i % q) := by
  unfold oaRows oaRowsK
  simp [hi]
theorem oaRow_len (q x y : Nat) : (oaRow q x y).length = q + 1 := oaRowK_len q x y q
theorem oaRows_len (q : Nat) : (oaRows q).length = q * q := oaRowsK_len q (q * q)
/-- Two rows that share two places at most once. -/
def Far (r s : List Int) : Prop := ∀ a b, b < a → a < r.length → a < s.length → r.getD a 0 = s.getD a 0 → r.getD b 0 = s.getD b 0 → False
theorem Far.symm {r s : List Int} (h : Far r s) : Far s r := fun a b hb ha ha' h1 h2 => h a b hb ha' ha h1.symm h2.symm
theorem mem_keys {r : List Int} {x : OaKey} (h : x ∈ keysR r r.length 0) : x.1 < r.length ∧ x.2.1 < x.1 ∧ x = keyAt r x.1 x.2.1 := by
  unfold keysR at h
  simp only [List.range_zero, List.map_nil, List.append_nil, List.mem_flatMap, List.mem_map, List.mem_range] at h
  obtain ⟨a, h1, b, h2, rfl⟩ := h
  exact ⟨h1, h2, rfl⟩
theorem once_of_far {rows : List (List Int)} (h : rows.Pairwise Far) : oaOnce rows := by
  unfold oaOnce keysOf List.Nodup
  rw [List.pairwise_flatMap]
  refine ⟨fun r _ => keysR_nodup r _ _, h.imp fun {r s} hf x hx y hy e => ?_⟩
  subst e
  obtain ⟨h1, h2, h3⟩ := mem_keys hx
  obtain ⟨h4, h5, h6⟩ := mem_keys hy
  have h7 := h3.symm.trans h6
  unfold keyAt at h7
  simp only [Prod.mk.injEq, true_and] at h7
  exact hf x.1 x.2.1 h2 h1 h4 h7.1 h7.2
theorem two_of_count {p : Nat → Bool} {n a b : Nat} (ha : a < n) (hb : b < a) (h1 : p a = true) (h2 : p b = true) : 2 ≤ (List.range n).countP p := by
  have hsub : List.Sublist [b, a] (List.range n) := by
    obtain ⟨m, rfl⟩ : ∃ m, n = a + 1 + m := ⟨n - (a + 1), by omega⟩
    rw [List.range_add, List.range_succ]
    refine List.Sublist.trans ?_ (List.sublist_append_left _ _)
    have : List.Sublist [b] (List.range a) := List.singleton_sublist.2 (List.mem_range.2 hb)
    exact this.append (List.Sublist.refl [a])
  have := hsub.countP_le (p := p)
  simpa [List.countP_cons, h1, h2] using this
theorem oaRows_far {q : Nat} (hq : q = 2 ∨ q = 3 ∨ q = 5 ∨ q = 7) : (oaRows q).Pairwise Far := by
  rw [List.pairwise_iff_getElem]
  intro i j hi hj hij
  rw [oaRows_len] at hi hj
  intro a b hb ha _ h1 h2
  have e1 : (oaRows q)[i]'(by rw [oaRows_len]; exact hi) = oaRow q (i / q) (i % q) := by
    have := oaRows_get hi
    rw [List.getD, List.getElem?_eq_getElem (by rw [oaRows_len]; exact hi)] at this
    exact this
  have e2 : (oaRows q)[j]'(by rw [oaRows_len]; exact hj) = oaRow q (j / q) (j % q) := by
    have := oaRows_get hj
    rw [List.getD, List.getElem?_eq_getElem (by rw [oaRows_len]; exact hj)] at this
    exact this
  rw [e1, oaRow_len] at ha
  rw [e1, e2, oaRow_get ha, oaRow_get ha] at h1
  rw [e1, e2, oaRow_get (by omega), oaRow_get (by omega)] at h2
  have h := oa_same hq hi hj (by omega)
  have h3 := two_of_count (p := fun k => oaCell q i k == oaCell q j k) ha hb (by simp; omega) (by simp; omega)
  unfold oaSame at h
  omega
theorem oaRows_once {q : Nat} (hq : q = 2 ∨ q = 3 ∨ q = 5 ∨ q = 7) : oaOnce (oaRows q) := once_of_far (oaRows_far hq)
theorem oaBack_once {q : Nat} (hq : q = 2 ∨ q = 3 ∨ q = 5 ∨ q = 7) : oaOnce (oaRows q).reverse := once_of_far (List.pairwise_reverse.2 ((oaRows_far hq).imp Far.symm))
theorem oaRows_form {q : Nat} (h0 : 0 < q) : oaForm q (oaRows q) := by
  intro r hr
  unfold oaRows oaRowsK at hr
  simp only [List.mem_map, List.mem_range] at hr
  obtain ⟨i, hi, rfl⟩ := hr
  refine ⟨oaRow_len _ _ _, fun z hz => ?_⟩
  unfold oaRow oaRowK at hz
  simp only [List.mem_cons, List.mem_map, List.mem_range] at hz
  rcases hz with rfl | ⟨m, _, rfl⟩
  · have := Nat.div_lt_of_lt_mul hi
    exact ⟨Int.natCast_nonneg _, by exact_mod_cast this⟩
  · have := Nat.mod_lt (m * (i / q) + i % q) h0
    exact ⟨Int.natCast_nonneg _, by exact_mod_cast this⟩
end Go.Mine
