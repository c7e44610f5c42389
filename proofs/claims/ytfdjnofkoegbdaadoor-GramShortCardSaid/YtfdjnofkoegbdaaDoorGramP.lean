/- Grammars: what names make of a word's pieces. Plain lists, no program. -/
import Derived.Test.YtfdjnofkoegbdaaDoorInts
namespace Go.Mine.Gram
open Go Go.RowKit Go.Mine

/-- What one thing makes, by what names make. -/
def One (S : Nat → Nat → Nat → Prop) (w : List Int) (x : Int) (a c : Nat) : Prop :=
  (0 ≤ x ∧ c = a + 1 ∧ a < w.length ∧ w.getD a 0 = x) ∨ (x < 0 ∧ a ≤ c ∧ c ≤ w.length ∧ S (-1 - x).toNat a c)
/-- What things make. -/
def Spn (S : Nat → Nat → Nat → Prop) (w : List Int) : List Int → Nat → Nat → Prop
  | [], a, b => a = b
  | x :: xs, a, b => ∃ c, One S w x a c ∧ Spn S w xs c b
theorem One.mono {S T : Nat → Nat → Nat → Prop} {w : List Int} {x : Int} {a c : Nat} (hST : ∀ i a b, a ≤ b → b ≤ w.length → S i a b → T i a b) (h : One S w x a c) : One T w x a c := by
  rcases h with h | ⟨h1, h2, h3, h4⟩
  · exact .inl h
  · exact .inr ⟨h1, h2, h3, hST _ _ _ h2 h3 h4⟩
theorem Spn.mono {S T : Nat → Nat → Nat → Prop} {w : List Int} (hST : ∀ i a b, a ≤ b → b ≤ w.length → S i a b → T i a b) : ∀ {xs : List Int} {a b : Nat}, Spn S w xs a b → Spn T w xs a b
  | [], _, _, h => h
  | _ :: _, _, _, ⟨c, h1, h2⟩ => ⟨c, h1.mono hST, Spn.mono hST h2⟩
theorem One.range {S : Nat → Nat → Nat → Prop} {w : List Int} {x : Int} {a c : Nat} (h : One S w x a c) : a ≤ c ∧ c ≤ w.length := by
  rcases h with ⟨_, h1, h2, _⟩ | ⟨_, h1, h2, _⟩ <;> omega
theorem Spn.range {S : Nat → Nat → Nat → Prop} {w : List Int} : ∀ {xs : List Int} {a b : Nat}, a ≤ w.length → Spn S w xs a b → a ≤ b ∧ b ≤ w.length
  | [], a, b, ha, h => by
    have e : a = b := h
    omega
  | _ :: _, a, b, ha, ⟨c, h1, h2⟩ => by
    have h3 := h1.range
    have h4 := Spn.range h3.2 h2
    omega
theorem Spn.snoc {S : Nat → Nat → Nat → Prop} {w : List Int} {x : Int} : ∀ {xs : List Int} {a b : Nat}, Spn S w (xs ++ [x]) a b ↔ ∃ c, Spn S w xs a c ∧ One S w x c b
  | [], a, b => by
    constructor
    · rintro ⟨c, h1, h2⟩
      have e : c = b := h2
      subst e
      exact ⟨a, rfl, h1⟩
    · rintro ⟨c, h1, h2⟩
      have e : a = c := h1
      subst e
      exact ⟨b, h2, rfl⟩
  | y :: ys, a, b => by
    constructor
    · rintro ⟨c, h1, h2⟩
      obtain ⟨d, h3, h4⟩ := Spn.snoc.1 h2
      exact ⟨d, ⟨c, h1, h3⟩, h4⟩
    · rintro ⟨d, ⟨c, h1, h3⟩, h4⟩
      exact ⟨c, h1, Spn.snoc.2 ⟨d, h3, h4⟩⟩
theorem Spn.app {S : Nat → Nat → Nat → Prop} {w : List Int} : ∀ {xs ys : List Int} {a b : Nat}, Spn S w (xs ++ ys) a b ↔ ∃ c, Spn S w xs a c ∧ Spn S w ys c b
  | [], ys, a, b => ⟨fun h => ⟨a, rfl, h⟩, by rintro ⟨c, h1, h2⟩; have e : a = c := h1; subst e; exact h2⟩
  | x :: xs, ys, a, b => by
    constructor
    · rintro ⟨c, h1, h2⟩
      obtain ⟨d, h3, h4⟩ := Spn.app.1 h2
      exact ⟨d, ⟨c, h1, h3⟩, h4⟩
    · rintro ⟨d, ⟨c, h1, h3⟩, h4⟩
      exact ⟨c, h1, Spn.app.2 ⟨d, h3, h4⟩⟩

/-- What names make is closed under the rules. -/
def Closed (g : List (List (List Int))) (w : List Int) (S : Nat → Nat → Nat → Prop) : Prop :=
  ∀ i, i < g.length → ∀ r ∈ g.getD i [], ∀ a b, a ≤ w.length → Spn S w r a b → S i a b
/-- What names make: the least that is closed. -/
def Mk (g : List (List (List Int))) (w : List Int) (i a b : Nat) : Prop := ∀ S : Nat → Nat → Nat → Prop, Closed g w S → S i a b
theorem Mk.closed (g : List (List (List Int))) (w : List Int) : Closed g w (Mk g w) := fun i hi r hr a b ha h S hS =>
  hS i hi r hr a b ha (h.mono fun _ _ _ _ _ hm => hm S hS)
/-- A grammar's word. -/
def Word (g : List (List (List Int))) (w : List Int) : Prop := Mk g w 0 0 w.length

/-- One rule more makes no fewer words. -/
theorem Word.more {g : List (List (List Int))} {w rule : List Int} (r0 : List (List Int)) (gs : List (List (List Int))) (hg : g = r0 :: gs) (h : Word g w) : Word ((r0 ++ [rule]) :: gs) w := by
  intro S hS
  refine h S fun i hi r hr a b ha he => ?_
  subst hg
  refine hS i (by simpa using hi) r ?_ a b ha he
  cases i with
  | zero => simp at hr ⊢; exact .inl hr
  | succ i => simpa using hr
theorem ends_own {S : Nat → Nat → Nat → Prop} {w : List Int} : ∀ {n a : Nat}, a + n = w.length → (∀ x ∈ w, 0 ≤ x) → Spn S w (w.drop a) a w.length
  | 0, a, hn, _ => by
    rw [List.drop_eq_nil_of_le (by omega)]
    show a = w.length
    omega
  | n + 1, a, hn, hw => by
    have hlt : a < w.length := by omega
    rw [List.drop_eq_getElem_cons hlt]
    refine ⟨a + 1, .inl ⟨hw _ (List.getElem_mem hlt), rfl, hlt, by simp [hlt]⟩, ends_own (n := n) (by omega) hw⟩
/-- A rule of letters alone makes its word. -/
theorem Word.own {rule : List Int} (r0 : List (List Int)) (gs : List (List (List Int))) (hr : ∀ x ∈ rule, 0 ≤ x) : Word ((r0 ++ [rule]) :: gs) rule := by
  intro S hS
  exact hS 0 (by simp) rule (by simp) 0 _ (Nat.zero_le _) (by have := ends_own (S := S) (w := rule) (n := rule.length) (a := 0) (by omega) hr; simpa using this)

/-! ### What is wrong with a grammar -/
/-- What is wrong with one rule, as a number; n names. -/
def rf (n : Nat) (r : List Int) : Int := if 4 < r.length then 4 else if ∀ x ∈ r, -(n : Int) ≤ x ∧ x ≤ 2 then 0 else 1
/-- .. with the first one that is wrong. -/
def ff (n : Nat) : List (List Int) → Int
  | [] => 0
  | r :: rs => if rf n r = 0 then ff n rs else rf n r
/-- .. with a name's rules. -/
def nf (n : Nat) (rs : List (List Int)) : Int := if 6 < rs.length then 4 else ff n rs
def sf (n : Nat) : List (List (List Int)) → Int
  | [] => 0
  | rs :: g => if nf n rs = 0 then sf n g else nf n rs
def gfault (g : List (List (List Int))) : Int := if g.length < 1 ∨ 5 < g.length then 1 else sf g.length g
def gok (g : List (List (List Int))) : Prop := 1 ≤ g.length ∧ g.length ≤ 5 ∧ ∀ i, i < g.length → (g.getD i []).length ≤ 6 ∧ ∀ j, j < (g.getD i []).length → ((g.getD i []).getD j []).length ≤ 4 ∧ ∀ x ∈ (g.getD i []).getD j [], -(g.length : Int) ≤ x ∧ x ≤ 2

theorem rf_zero {n : Nat} {r : List Int} : rf n r = 0 ↔ r.length ≤ 4 ∧ ∀ x ∈ r, -(n : Int) ≤ x ∧ x ≤ 2 := by
  unfold rf
  by_cases h : 4 < r.length
  · rw [if_pos h]; exact ⟨fun h => (by cases h), fun h' => by omega⟩
  · rw [if_neg h]
    by_cases h2 : ∀ x ∈ r, -(n : Int) ≤ x ∧ x ≤ 2
    · rw [if_pos h2]; exact ⟨fun _ => ⟨by omega, h2⟩, fun _ => rfl⟩
    · rw [if_neg h2]; exact ⟨fun h => (by cases h), fun h' => absurd h'.2 h2⟩
theorem ff_at {n : Nat} : ∀ {rs : List (List Int)} {k : Nat}, k < rs.length → (∀ j, j < k → rf n (rs.getD j []) = 0) → rf n (rs.getD k []) ≠ 0 → ff n rs = rf n (rs.getD k [])
  | r :: rs, 0, _, _, h => by
    simp only [List.getD_cons_zero] at h ⊢
    rw [ff, if_neg h]
  | r :: rs, k + 1, hk, ha, h => by
    have h0 := ha 0 (by omega)
    simp only [List.getD_cons_zero] at h0
    simp only [List.getD_cons_succ] at h ⊢
    rw [ff, if_pos h0]
    exact ff_at (by simpa using hk) (fun j hj => by have := ha (j + 1) (by omega); simpa using this) h
theorem ff_zero {n : Nat} : ∀ {rs : List (List Int)}, ff n rs = 0 ↔ ∀ j, j < rs.length → rf n (rs.getD j []) = 0
  | [] => ⟨fun _ j hj => by simp at hj, fun _ => rfl⟩
  | r :: rs => by
    unfold ff
    by_cases h0 : rf n r = 0
    · rw [if_pos h0, ff_zero]
      constructor
      · intro h j hj
        cases j with
        | zero => simpa using h0
        | succ j => have := h j (by simpa using hj); simpa using this
      · intro h j hj
        have := h (j + 1) (by simpa using hj); simpa using this
    · rw [if_neg h0]
      exact ⟨fun h => absurd h h0, fun h => by have := h 0 (by simp); simpa using this⟩
theorem sf_at {n : Nat} : ∀ {g : List (List (List Int))} {k : Nat}, k < g.length → (∀ j, j < k → nf n (g.getD j []) = 0) → nf n (g.getD k []) ≠ 0 → sf n g = nf n (g.getD k [])
  | r :: rs, 0, _, _, h => by
    simp only [List.getD_cons_zero] at h ⊢
    rw [sf, if_neg h]
  | r :: rs, k + 1, hk, ha, h => by
    have h0 := ha 0 (by omega)
    simp only [List.getD_cons_zero] at h0
    simp only [List.getD_cons_succ] at h ⊢
    rw [sf, if_pos h0]
    exact sf_at (by simpa using hk) (fun j hj => by have := ha (j + 1) (by omega); simpa using this) h
theorem sf_zero {n : Nat} : ∀ {g : List (List (List Int))}, sf n g = 0 ↔ ∀ j, j < g.length → nf n (g.getD j []) = 0
  | [] => ⟨fun _ j hj => by simp at hj, fun _ => rfl⟩
  | r :: rs => by
    unfold sf
    by_cases h0 : nf n r = 0
    · rw [if_pos h0, sf_zero]
      constructor
      · intro h j hj
        cases j with
        | zero => simpa using h0
        | succ j => have := h j (by simpa using hj); simpa using this
      · intro h j hj
        have := h (j + 1) (by simpa using hj); simpa using this
    · rw [if_neg h0]
      exact ⟨fun h => absurd h h0, fun h => by have := h 0 (by simp); simpa using this⟩
theorem nf_zero {n : Nat} {rs : List (List Int)} : nf n rs = 0 ↔ rs.length ≤ 6 ∧ ∀ j, j < rs.length → (rs.getD j []).length ≤ 4 ∧ ∀ x ∈ rs.getD j [], -(n : Int) ≤ x ∧ x ≤ 2 := by
  unfold nf
  by_cases h : 6 < rs.length
  · rw [if_pos h]; exact ⟨fun h => (by cases h), fun h' => by omega⟩
  · rw [if_neg h, ff_zero]
    exact ⟨fun h' => ⟨by omega, fun j hj => rf_zero.1 (h' j hj)⟩, fun h' j hj => rf_zero.2 (h'.2 j hj)⟩
theorem gfault_zero {g : List (List (List Int))} : gfault g = 0 ↔ gok g := by
  unfold gfault gok
  by_cases h : g.length < 1 ∨ 5 < g.length
  · rw [if_pos h]; exact ⟨fun h => (by cases h), fun h' => by omega⟩
  · rw [if_neg h, sf_zero]
    exact ⟨fun h' => ⟨by omega, by omega, fun i hi => nf_zero.1 (h' i hi)⟩, fun h' i hi => nf_zero.2 (h'.2.2 i hi)⟩
theorem rf_val {n : Nat} (r : List Int) : rf n r = 0 ∨ rf n r = 1 ∨ rf n r = 4 := by
  unfold rf
  split
  · exact .inr (.inr rfl)
  · split
    · exact .inl rfl
    · exact .inr (.inl rfl)
theorem ff_val {n : Nat} : ∀ rs : List (List Int), ff n rs = 0 ∨ ff n rs = 1 ∨ ff n rs = 4
  | [] => .inl rfl
  | r :: rs => by
    unfold ff
    by_cases h : rf n r = 0
    · rw [if_pos h]; exact ff_val rs
    · rw [if_neg h]; exact rf_val r
theorem nf_val {n : Nat} (rs : List (List Int)) : nf n rs = 0 ∨ nf n rs = 1 ∨ nf n rs = 4 := by
  unfold nf
  split
  · exact .inr (.inr rfl)
  · exact ff_val rs
theorem sf_val {n : Nat} : ∀ g : List (List (List Int)), sf n g = 0 ∨ sf n g = 1 ∨ sf n g = 4
  | [] => .inl rfl
  | r :: rs => by
    unfold sf
    by_cases h : nf n r = 0
    · rw [if_pos h]; exact sf_val rs
    · rw [if_neg h]; exact nf_val r
theorem gfault_val (g : List (List (List Int))) : gfault g = 0 ∨ gfault g = 1 ∨ gfault g = 4 := by
  unfold gfault
  split
  · exact .inr (.inl rfl)
  · exact sf_val g

/-! ### The table -/
/-- Cells of a table of spans, as what names make. -/
def Sb (c : List Bool) (i a b : Nat) : Prop := a ≤ 8 ∧ b ≤ 8 ∧ c.getD (i * 81 + a * 9 + b) false = true
theorem idx_inj {i a b i' a' b' : Nat} (ha : a ≤ 8) (hb : b ≤ 8) (ha' : a' ≤ 8) (hb' : b' ≤ 8) (h : i * 81 + a * 9 + b = i' * 81 + a' * 9 + b') : i = i' ∧ a = a' ∧ b = b' := by omega
theorem getD_set {c : List Bool} {p q : Nat} : (c.set p true).getD q false = if p = q ∧ q < c.length then true else c.getD q false := by
  by_cases h : p = q
  · subst h
    by_cases h2 : p < c.length
    · rw [if_pos ⟨rfl, h2⟩]; simp [h2]
    · rw [if_neg (by omega)]; simp [h2]
  · rw [if_neg (by omega)]; simp [List.getElem?_set_ne h]
theorem Sb.set {c : List Bool} {i a b i' a' b' : Nat} (ha : a ≤ 8) (hb : b ≤ 8) (h : Sb (c.set (i * 81 + a * 9 + b) true) i' a' b') : Sb c i' a' b' ∨ (i' = i ∧ a' = a ∧ b' = b) := by
  obtain ⟨h1, h2, h3⟩ := h
  rw [getD_set] at h3
  by_cases hc : i * 81 + a * 9 + b = i' * 81 + a' * 9 + b' ∧ i' * 81 + a' * 9 + b' < c.length
  · obtain ⟨e1, e2, e3⟩ := idx_inj ha hb h1 h2 hc.1
    exact .inr ⟨e1.symm, e2.symm, e3.symm⟩
  · rw [if_neg hc] at h3
    exact .inl ⟨h1, h2, h3⟩
theorem set_same {c : List Bool} {p : Nat} (h : c.getD p false = true) : c.set p true = c := by
  apply List.ext_getElem?
  intro q
  by_cases hq : p = q
  · subst hq
    by_cases hl : p < c.length
    · simp [hl] at h ⊢; exact h
    · simp [hl]
  · rw [List.getElem?_set_ne hq]
/-- How many are not told yet. -/
def left (c : List Bool) : Nat := c.count false
theorem left_set : ∀ {c : List Bool} {p : Nat}, p < c.length → c.getD p false = false → left (c.set p true) + 1 = left c
  | b :: c, 0, _, h => by
    have e : b = false := by simpa using h
    subst e
    simp [left]
  | b :: c, p + 1, hp, h => by
    have := left_set (c := c) (p := p) (by simpa using hp) (by simpa using h)
    unfold left at this ⊢
    simp only [List.set_cons_succ, List.count_cons]
    omega
theorem left_set_lt {c : List Bool} {p : Nat} (hp : p < c.length) (h : c.getD p false = false) : left (c.set p true) < left c := by
  have := left_set hp h
  omega
/-! ### What is collected -/
theorem nodup_le : ∀ {s l : List Int}, s.Nodup → (∀ i ∈ s, i ∈ l) → s.length ≤ l.length
  | [], _, _, _ => Nat.zero_le _
  | a :: s, l, hn, h => by
    rw [List.nodup_cons] at hn
    have ha := h a List.mem_cons_self
    have := nodup_le (s := s) (l := l.erase a) hn.2 (fun i hi => by
      have hne : i ≠ a := fun e => by subst e; exact hn.1 hi
      exact (List.mem_erase_of_ne hne).2 (h i (List.mem_cons_of_mem _ hi)))
    rw [List.length_erase_of_mem ha] at this
    have := List.length_pos_of_mem ha
    simp only [List.length_cons]
    omega
/-- The list has just those places, each once. -/
structure Got (w : List Int) (L : List Int) (p : Nat → Prop) : Prop where
  range : ∀ z ∈ L, ∃ k : Nat, z = (k : Int) ∧ k ≤ w.length
  nodup : L.Nodup
  mem : ∀ k : Nat, (k : Int) ∈ L ↔ p k
theorem Got.len {w L : List Int} {p : Nat → Prop} (h : Got w L p) : L.length ≤ w.length + 1 := by
  have := nodup_le (l := (List.range (w.length + 1)).map (fun k : Nat => (k : Int))) h.nodup (fun z hz => by
    obtain ⟨k, rfl, hk⟩ := h.range z hz
    exact List.mem_map.2 ⟨k, List.mem_range.2 (by omega), rfl⟩)
  simpa using this
theorem Got.congr {w L : List Int} {p q : Nat → Prop} (h : Got w L p) (e : ∀ k, p k ↔ q k) : Got w L q := ⟨h.range, h.nodup, fun k => (h.mem k).trans (e k)⟩
theorem Got.nil {w : List Int} {p : Nat → Prop} (h : ∀ k, ¬ p k) : Got w [] p := ⟨by simp, List.nodup_nil, fun k => by simp [h k]⟩
theorem Got.push {w L : List Int} {p : Nat → Prop} {k : Nat} (h : Got w L p) (hk : k ≤ w.length) (hn : (k : Int) ∉ L) : Got w (L ++ [(k : Int)]) (fun j => p j ∨ j = k) := by
  refine ⟨fun z hz => ?_, ?_, fun j => ?_⟩
  · rcases List.mem_append.1 hz with hz | hz
    · exact h.range z hz
    · exact ⟨k, by simpa using hz, hk⟩
  · rw [List.nodup_append]
    refine ⟨h.nodup, by simp, fun a ha b hb => ?_⟩
    simp only [List.mem_singleton] at hb
    subst hb
    intro e
    exact hn (e ▸ ha)
  · rw [List.mem_append, h.mem j, List.mem_singleton]
    constructor
    · rintro (h1 | h1)
      · exact .inl h1
      · exact .inr (by omega)
    · rintro (h1 | h1)
      · exact .inl h1
      · exact .inr (by omega)
/-- One thing more: of the first p places all ends, of place p those ahead of k. -/
def Mid (S : Nat → Nat → Nat → Prop) (w : List Int) (x : Int) (A : List Int) (p k : Nat) (j : Nat) : Prop :=
  (∃ q, q < p ∧ One S w x (A.getD q 0).toNat j) ∨ (j < k ∧ One S w x (A.getD p 0).toNat j)
theorem Mid.start {S : Nat → Nat → Nat → Prop} {w : List Int} {x : Int} {A : List Int} {p : Nat} {j : Nat} : Mid S w x A p (A.getD p 0).toNat j ↔ ∃ q, q < p ∧ One S w x (A.getD q 0).toNat j := by
  constructor
  · rintro (h | ⟨h1, h2⟩)
    · exact h
    · have := h2.range; omega
  · exact .inl
theorem Mid.no {S : Nat → Nat → Nat → Prop} {w : List Int} {x : Int} {A : List Int} {p k : Nat} (h : ¬ One S w x (A.getD p 0).toNat k) (j : Nat) : Mid S w x A p k j ↔ Mid S w x A p (k + 1) j := by
  constructor
  · rintro (h1 | ⟨h1, h2⟩)
    · exact .inl h1
    · exact .inr ⟨by omega, h2⟩
  · rintro (h1 | ⟨h1, h2⟩)
    · exact .inl h1
    · by_cases e : j = k
      · subst e; exact absurd h2 h
      · exact .inr ⟨by omega, h2⟩
theorem Mid.yes {S : Nat → Nat → Nat → Prop} {w : List Int} {x : Int} {A : List Int} {p k : Nat} (h : One S w x (A.getD p 0).toNat k) (j : Nat) : (Mid S w x A p k j ∨ j = k) ↔ Mid S w x A p (k + 1) j := by
  constructor
  · rintro ((h1 | ⟨h1, h2⟩) | rfl)
    · exact .inl h1
    · exact .inr ⟨by omega, h2⟩
    · exact .inr ⟨by omega, h⟩
  · rintro (h1 | ⟨h1, h2⟩)
    · exact .inl (.inl h1)
    · by_cases e : j = k
      · exact .inr e
      · exact .inl (.inr ⟨by omega, h2⟩)
theorem Mid.done {S : Nat → Nat → Nat → Prop} {w : List Int} {x : Int} {A : List Int} {p k : Nat} (hk : w.length < k) (j : Nat) : Mid S w x A p k j ↔ ∃ q, q < p + 1 ∧ One S w x (A.getD q 0).toNat j := by
  constructor
  · rintro (⟨q, h1, h2⟩ | ⟨h1, h2⟩)
    · exact ⟨q, by omega, h2⟩
    · exact ⟨p, by omega, h2⟩
  · rintro ⟨q, h1, h2⟩
    by_cases e : q = p
    · subst e
      have := h2.range
      exact .inr ⟨by omega, h2⟩
    · exact .inl ⟨q, by omega, h2⟩
/-- All places: one thing more. -/
theorem Got.next {S : Nat → Nat → Nat → Prop} {w : List Int} {x : Int} {xs A N : List Int} {a : Nat} (hA : Got w A (Spn S w xs a)) (hN : Got w N (fun j => ∃ q, q < A.length ∧ One S w x (A.getD q 0).toNat j)) : Got w N (Spn S w (xs ++ [x]) a) := by
  refine hN.congr fun j => ?_
  rw [Spn.snoc]
  constructor
  · rintro ⟨q, hq, h⟩
    have hm : A.getD q 0 ∈ A := by simp [hq]
    obtain ⟨c, hc, _⟩ := hA.range _ hm
    rw [hc] at hm h
    rw [Int.toNat_natCast] at h
    exact ⟨c, (hA.mem c).1 hm, h⟩
  · rintro ⟨c, h1, h2⟩
    obtain ⟨q, hq, e⟩ := List.mem_iff_getElem.1 ((hA.mem c).2 h1)
    refine ⟨q, hq, ?_⟩
    have : A.getD q 0 = (c : Int) := by simp [hq, e]
    rw [this, Int.toNat_natCast]
    exact h2
/-! ### A round -/
/-- Closed so far: of the names ahead of i, the rules ahead of k, the places ahead of f. -/
def Done (g : List (List (List Int))) (ws : List Int) (S : Nat → Nat → Nat → Prop) (i k f : Nat) : Prop :=
  ∀ i' k' a, (i' < i ∨ (i' = i ∧ (k' < k ∨ (k' = k ∧ a < f)))) → i' < g.length → k' < (g.getD i' []).length → a ≤ ws.length → ∀ b, Spn S ws ((g.getD i' []).getD k' []) a b → S i' a b
/-- In a round: how the table stands. -/
structure Rnd (g : List (List (List Int))) (ws : List Int) (c0 c : List Bool) (ch : Bool) (D : Prop) : Prop where
  len : c.length = g.length * 81
  sound : ∀ i a b, Sb c i a b → Mk g ws i a b
  quiet : ch = false → c = c0 ∧ D
  loud : ch = true → left c < left c0
theorem Rnd.mono {g : List (List (List Int))} {ws : List Int} {c0 c : List Bool} {ch : Bool} {D E : Prop} (h : Rnd g ws c0 c ch D) (e : ch = false → D → E) : Rnd g ws c0 c ch E :=
  ⟨h.len, h.sound, fun hc => ⟨(h.quiet hc).1, e hc (h.quiet hc).2⟩, h.loud⟩
theorem Rnd.put {g : List (List (List Int))} {ws : List Int} {c0 c : List Bool} {ch : Bool} {D : Prop} {i a b : Nat} {y : Bool} (h : Rnd g ws c0 c ch D) (hi : i < g.length) (ha : a ≤ 8) (hb : b ≤ 8) (hm : Mk g ws i a b) (hy : c.getD (i * 81 + a * 9 + b) false = y) :
    Rnd g ws c0 (c.set (i * 81 + a * 9 + b) true) (ch || !y) (D ∧ Sb c0 i a b) := by
  have hl := h.len
  have hidx : i * 81 + a * 9 + b < c.length := by omega
  refine ⟨by rw [List.length_set]; exact hl, fun i' a' b' hs => ?_, fun hc => ?_, fun hc => ?_⟩
  · rcases Sb.set ha hb hs with hs | ⟨rfl, rfl, rfl⟩
    · exact h.sound _ _ _ hs
    · exact hm
  · simp only [Bool.or_eq_false_iff, Bool.not_eq_false'] at hc
    obtain ⟨h1, h2⟩ := hc
    subst h2
    rw [set_same hy]
    obtain ⟨e, hd⟩ := h.quiet h1
    exact ⟨e, hd, ha, hb, e ▸ hy⟩
  · cases y with
    | true =>
      rw [set_same hy]
      exact h.loud (by simpa using hc)
    | false =>
      have h1 := left_set_lt hidx hy
      cases ch with
      | true => have := h.loud rfl; omega
      | false => rw [← (h.quiet rfl).1]; exact h1
theorem Done.start (g : List (List (List Int))) (ws : List Int) (S : Nat → Nat → Nat → Prop) : Done g ws S 0 0 0 := fun i' k' a h => by omega
theorem Done.place {g : List (List (List Int))} {ws : List Int} {S : Nat → Nat → Nat → Prop} {i k f : Nat} (h : Done g ws S i k f) (hn : ∀ b, Spn S ws ((g.getD i []).getD k []) f b → S i f b) : Done g ws S i k (f + 1) := fun i' k' a hc h1 h2 h3 b hs => by
  by_cases e : i' = i ∧ k' = k ∧ a = f
  · obtain ⟨rfl, rfl, rfl⟩ := e
    exact hn b hs
  · exact h i' k' a (by omega) h1 h2 h3 b hs
theorem Done.rule {g : List (List (List Int))} {ws : List Int} {S : Nat → Nat → Nat → Prop} {i k f : Nat} (h : Done g ws S i k f) (hf : ws.length < f) : Done g ws S i (k + 1) 0 := fun i' k' a hc h1 h2 h3 b hs =>
  h i' k' a (by omega) h1 h2 h3 b hs
theorem Done.name {g : List (List (List Int))} {ws : List Int} {S : Nat → Nat → Nat → Prop} {i k : Nat} (h : Done g ws S i k 0) (hk : (g.getD i []).length ≤ k) : Done g ws S (i + 1) 0 0 := fun i' k' a hc h1 h2 h3 b hs =>
  h i' k' a (by
    by_cases e : i' = i
    · subst e; omega
    · omega) h1 h2 h3 b hs
theorem Done.closed {g : List (List (List Int))} {ws : List Int} {S : Nat → Nat → Nat → Prop} (h : Done g ws S g.length 0 0) : Closed g ws S := fun i hi r hr a b ha hs => by
  obtain ⟨k, hk, rfl⟩ := List.mem_iff_getElem.1 hr
  have e : (g.getD i []).getD k [] = (g.getD i [])[k] := by rw [List.getD, List.getElem?_eq_getElem hk]; rfl
  exact h i k a (by omega) hi hk ha b (by rw [e]; exact hs)
/-- Where all is closed the table tells what names make. -/
theorem word_iff {g : List (List (List Int))} {ws : List Int} {c : List Bool} (hs : ∀ i a b, Sb c i a b → Mk g ws i a b) (hc : Closed g ws (Sb c)) (hw : ws.length ≤ 8) : c.getD ws.length false = true ↔ Word g ws := by
  constructor
  · intro h
    exact hs 0 0 ws.length ⟨by omega, hw, by simpa using h⟩
  · intro h
    have := (h (Sb c) hc).2.2
    simpa using this
theorem sb_none {n i a b : Nat} (h : Sb (List.replicate n false) i a b) : False := by
  obtain ⟨_, _, h⟩ := h
  by_cases hp : i * 81 + a * 9 + b < n
  · simp [hp] at h
  · simp [hp] at h
end Go.Mine.Gram
