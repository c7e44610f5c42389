/- Each edge once: going on edges that are taken away, plain lists, no program. -/
namespace Go.Mine.Tour

/-- How often b comes just behind a. -/
def cnt (a b : Int) : List Int → Nat
  | [] => 0
  | [_] => 0
  | x :: y :: t => (if x = a ∧ y = b then 1 else 0) + cnt a b (y :: t)
theorem cnt_snoc (a b x y : Int) : ∀ l : List Int, cnt a b (l ++ [x, y]) = cnt a b (l ++ [x]) + (if x = a ∧ y = b then 1 else 0)
  | [] => by simp [cnt]
  | [z] => by simp [cnt]
  | z :: z' :: l => by
    have := cnt_snoc a b x y (z' :: l)
    simp only [List.cons_append] at this ⊢
    simp only [cnt]
    omega
theorem cnt_mem (a b : Int) : ∀ l : List Int, 0 < cnt a b l → a ∈ l ∧ b ∈ l
  | [], h => by simp [cnt] at h
  | [_], h => by simp [cnt] at h
  | x :: y :: t, h => by
    simp only [cnt] at h
    by_cases hx : x = a ∧ y = b
    · obtain ⟨rfl, rfl⟩ := hx; simp
    · rw [if_neg hx, Nat.zero_add] at h
      have := cnt_mem a b (y :: t) h
      exact ⟨List.mem_cons_of_mem _ this.1, List.mem_cons_of_mem _ this.2⟩

/-- A row's last one is taken. -/
theorem flat_count (v b : Int) (row : List Int) : ∀ (next : List (List Int)) (i : Nat), i < next.length → next.getD i [] = row ++ [b] →
    next.flatten.count v = (next.set i row).flatten.count v + (if b = v then 1 else 0)
  | r :: next, 0, _, h => by
    simp at h
    subst h
    simp only [List.flatten_cons, List.set_cons_zero, List.count_append, List.count_singleton]
    by_cases e : b = v
    · simp [e]; omega
    · simp [e]
  | r :: next, i + 1, hi, h => by
    have ih := flat_count v b row next i (by simpa using hi) (by simpa using h)
    simp only [List.flatten_cons, List.set_cons_succ, List.count_append]
    omega
theorem flat_length (b : Int) (row : List Int) : ∀ (next : List (List Int)) (i : Nat), i < next.length → next.getD i [] = row ++ [b] →
    next.flatten.length = (next.set i row).flatten.length + 1
  | r :: next, 0, _, h => by
    simp at h
    subst h
    simp only [List.flatten_cons, List.set_cons_zero, List.length_append, List.length_singleton]
    omega
  | r :: next, i + 1, hi, h => by
    have ih := flat_length b row next i (by simpa using hi) (by simpa using h)
    simp only [List.flatten_cons, List.set_cons_succ, List.length_append]
    omega
theorem flat_empty (next : List (List Int)) (h : ∀ i, i < next.length → next.getD i [] = []) : next.flatten.length = 0 := by
  induction next with
  | nil => rfl
  | cons r next ih =>
    have h0 := h 0 (by simp)
    simp at h0
    subst h0
    rw [List.flatten_cons, List.length_append, ih (fun i hi => by have := h (i + 1) (by simpa using hi); simpa using this)]
    rfl
theorem getD_set (next : List (List Int)) (i j : Nat) (r : List Int) (hi : i < next.length) : (next.set i r).getD j [] = if j = i then r else next.getD j [] := by
  by_cases h : j = i
  · subst h; simp [hi]
  · simp [h, Ne.symm h]

/-- The edges that are still there, from a to b. -/
def rem (next : List (List Int)) (a b : Int) : Nat := (next.getD a.toNat []).count b
def one (p : Prop) [Decidable p] : Nat := if p then 1 else 0

/-- In the midst: s is the way from 0 to where one stands (the last is the top), out what is told so far (the first told is the tour's last); p: from where the last that is told was gone to. -/
structure Mid (es : List (Int × Int)) (n : Nat) (next : List (List Int)) (s out : List Int) (p top : Int) : Prop where
  len : next.length = n
  in_s : ∀ x ∈ s, 0 ≤ x ∧ x < n
  in_next : ∀ r ∈ next, ∀ x ∈ r, 0 ≤ x ∧ x < n
  head : s.head? = some 0
  last : s.getLast? = some top
  first : out = [] ∨ out.head? = some 0
  pin : 0 ≤ p
  bal : ∀ v : Int, 0 ≤ v → v < n → (next.getD v.toNat []).length + one (v = p) = next.flatten.count v + one (v = top)
  all : ∀ a b : Int, 0 ≤ a → a < n → es.count (a, b) = cnt a b s + one (out ≠ [] ∧ p = a ∧ out.getLast? = some b) + cnt a b out.reverse + rem next a b
  many : es.length + 1 = next.flatten.length + s.length + out.length
  gone : ∀ x ∈ out, next.getD x.toNat [] = []
  p0 : out = [] → p = 0
  in_out : ∀ x ∈ out, 0 ≤ x ∧ x < n

/-- At the end. -/
structure End (es : List (Int × Int)) (n : Nat) (next : List (List Int)) (out : List Int) : Prop where
  len : next.length = n
  in_next : ∀ r ∈ next, ∀ x ∈ r, 0 ≤ x ∧ x < n
  first : out.head? = some 0
  last : out.getLast? = some 0
  all : ∀ a b : Int, 0 ≤ a → a < n → es.count (a, b) = cnt a b out.reverse + rem next a b
  many : es.length + 1 = next.flatten.length + out.length
  gone : ∀ x ∈ out, next.getD x.toNat [] = []
  in_out : ∀ x ∈ out, 0 ≤ x ∧ x < n

theorem Mid.top_in {es : List (Int × Int)} {n : Nat} {next : List (List Int)} {s out : List Int} {p top : Int} (h : Mid es n next s out p top) : 0 ≤ top ∧ top < n :=
  h.in_s top (List.mem_of_getLast? h.last)
theorem one_le (p : Prop) [Decidable p] : one p ≤ 1 := by unfold one; split <;> omega

/-- On to another one. -/
theorem Mid.push {es : List (Int × Int)} {n : Nat} {next : List (List Int)} {s out : List Int} {p top b : Int} {row : List Int} (h : Mid es n next s out p top) (hr : next.getD top.toNat [] = row ++ [b]) :
    Mid es n (next.set top.toNat row) (s ++ [b]) out p b := by
  have ht := h.top_in
  have hi : top.toNat < next.length := by rw [h.len]; omega
  have hmem : row ++ [b] ∈ next := by
    rw [← hr]; simp [List.getD, hi]
  have hb := h.in_next _ hmem b (by simp)
  have hs : s ≠ [] := by intro e; have := h.head; rw [e] at this; cases this
  refine ⟨by simp [h.len], ?_, ?_, ?_, by simp, h.first, h.pin, ?_, ?_, ?_, ?_, h.p0, h.in_out⟩
  · intro x hx
    rcases List.mem_append.1 hx with hx | hx
    · exact h.in_s x hx
    · simp at hx; subst hx; exact hb
  · intro r hrm x hx
    rcases List.mem_or_eq_of_mem_set hrm with hm | rfl
    · exact h.in_next r hm x hx
    · exact h.in_next _ hmem x (by simp [hx])
  · cases s with
    | nil => exact absurd rfl hs
    | cons z s => simpa using h.head
  · intro v hv0 hvn
    have h1 := h.bal v hv0 hvn
    have h2 := flat_count v b row next top.toNat hi hr
    rw [getD_set _ _ _ _ hi]
    unfold one at h1 ⊢
    have hbv : (if v = b then 1 else 0 : Nat) = (if b = v then 1 else 0) := by
      by_cases e : b = v
      · rw [if_pos e, if_pos e.symm]
      · rw [if_neg e, if_neg (Ne.symm e)]
    rw [hbv]
    by_cases e : v = top
    · subst e
      rw [hr, List.length_append, List.length_singleton, if_pos rfl] at h1
      rw [if_pos rfl]
      omega
    · have e' : v.toNat ≠ top.toNat := by omega
      rw [if_neg e] at h1
      rw [if_neg e']
      omega
  · intro a c ha0 han
    have h1 := h.all a c ha0 han
    obtain ⟨s', hs'⟩ : ∃ s', s = s' ++ [top] := by
      have := List.getLast?_eq_some_iff.1 h.last
      exact this
    have e1 : cnt a c (s ++ [b]) = cnt a c s + one (top = a ∧ b = c) := by
      rw [hs', List.append_assoc]
      exact cnt_snoc a c top b s'
    rw [e1]
    unfold rem at h1 ⊢
    rw [getD_set _ _ _ _ hi]
    by_cases e : a = top
    · subst e
      rw [hr, List.count_append, List.count_singleton] at h1
      rw [if_pos rfl]
      unfold one at h1 ⊢
      by_cases e2 : b = c
      · rw [if_pos (c := a = a ∧ b = c) ⟨rfl, e2⟩]
        rw [if_pos (c := (b == c) = true) (by simp [e2])] at h1
        omega
      · rw [if_neg (c := a = a ∧ b = c) (fun h => e2 h.2)]
        rw [if_neg (c := (b == c) = true) (by simp [e2])] at h1
        omega
    · have e' : a.toNat ≠ top.toNat := by omega
      rw [if_neg e']
      unfold one at h1 ⊢
      rw [if_neg (c := top = a ∧ b = c) (fun h => e h.1.symm)]
      omega
  · have h1 := h.many
    have h2 := flat_length b row next top.toNat hi hr
    simp only [List.length_append, List.length_singleton]
    omega
  · intro x hx
    rw [getD_set _ _ _ _ hi]
    have h1 := h.gone x hx
    by_cases e : x.toNat = top.toNat
    · rw [e, hr] at h1; simp at h1
    · rw [if_neg e]; exact h1

theorem Mid.top_eq {es : List (Int × Int)} {n : Nat} {next : List (List Int)} {s out : List Int} {p top : Int} (h : Mid es n next s out p top) (hr : next.getD top.toNat [] = []) : top = p := by
  have ht := h.top_in
  have h1 := h.bal top ht.1 ht.2
  rw [hr] at h1
  unfold one at h1
  by_cases e : top = p
  · exact e
  · simp [e] at h1
/-- Where one stands there is nothing more: it is told. -/
theorem Mid.pop {es : List (Int × Int)} {n : Nat} {next : List (List Int)} {s out : List Int} {p top q : Int} (h : Mid es n next (s ++ [q, top]) out p top) (hr : next.getD top.toNat [] = []) :
    Mid es n next (s ++ [q]) (out ++ [top]) q q := by
  have hp := h.top_eq hr
  subst hp
  have hq := h.in_s q (by simp)
  refine ⟨h.len, fun x hx => h.in_s x (by simp at hx ⊢; rcases hx with hx | hx <;> simp [hx]), h.in_next, ?_, by simp, ?_, hq.1, ?_, ?_, ?_, ?_, (fun h => by simp at h), fun x hx => by
    rcases List.mem_append.1 hx with hx | hx
    · exact h.in_out x hx
    · simp at hx; subst hx; exact h.in_s _ (by simp)⟩
  · have := h.head
    cases s with
    | nil => simpa using this
    | cons z s => simpa using this
  · right
    rcases h.first with rfl | h1
    · simp [h.p0 rfl]
    · cases out with
      | nil => cases h1
      | cons z out => simpa using h1
  · intro v hv0 hvn
    have h1 := h.bal v hv0 hvn
    omega
  · intro a c ha0 han
    have h1 := h.all a c ha0 han
    rw [cnt_snoc] at h1
    have e1 : cnt a c (out ++ [top]).reverse = cnt a c out.reverse + one (out ≠ [] ∧ top = a ∧ out.getLast? = some c) := by
      rw [List.reverse_append]
      cases hout : out.reverse with
      | nil =>
        have : out = [] := by simpa using hout
        subst this
        simp [cnt, one]
      | cons z t =>
        have hl : out.getLast? = some z := by rw [← List.head?_reverse, hout]; rfl
        have hne : out ≠ [] := by intro e; subst e; simp at hout
        simp only [List.reverse_singleton, List.cons_append, List.nil_append, cnt, hl, hne, ne_eq, not_false_eq_true, true_and, Option.some.injEq]
        unfold one
        omega
    have e2 : one (out ++ [top] ≠ [] ∧ q = a ∧ (out ++ [top]).getLast? = some c) = if q = a ∧ top = c then 1 else 0 := by
      unfold one
      simp
    rw [e1, e2]
    omega
  · have h1 := h.many
    simp only [List.length_append, List.length_cons, List.length_nil] at h1 ⊢
    omega
  · intro x hx
    rcases List.mem_append.1 hx with hx | hx
    · exact h.gone x hx
    · simp at hx; subst hx; exact hr
theorem Mid.stop {es : List (Int × Int)} {n : Nat} {next : List (List Int)} {out : List Int} {p top : Int} (h : Mid es n next [top] out p top) (hr : next.getD top.toNat [] = []) :
    End es n next (out ++ [top]) := by
  have hp := h.top_eq hr
  subst hp
  have ht : top = 0 := by simpa using h.head
  subst ht
  refine ⟨h.len, h.in_next, ?_, by simp, ?_, ?_, ?_, fun x hx => by
    rcases List.mem_append.1 hx with hx | hx
    · exact h.in_out x hx
    · simp at hx; subst hx; exact h.in_s _ (by simp)⟩
  · rcases h.first with rfl | h1
    · rfl
    · cases out with
      | nil => cases h1
      | cons z out => simpa using h1
  · intro a c ha0 han
    have h1 := h.all a c ha0 han
    have e1 : cnt a c (out ++ [0]).reverse = cnt a c out.reverse + one (out ≠ [] ∧ (0 : Int) = a ∧ out.getLast? = some c) := by
      rw [List.reverse_append]
      cases hout : out.reverse with
      | nil =>
        have : out = [] := by simpa using hout
        subst this
        simp [cnt, one]
      | cons z t =>
        have hl : out.getLast? = some z := by rw [← List.head?_reverse, hout]; rfl
        have hne : out ≠ [] := by intro e; subst e; simp at hout
        simp only [List.reverse_singleton, List.cons_append, List.nil_append, cnt, hl, hne, ne_eq, not_false_eq_true, true_and, Option.some.injEq]
        unfold one
        omega
    rw [e1]
    simp only [cnt] at h1
    omega
  · have h1 := h.many
    simp only [List.length_append, List.length_cons, List.length_nil] at h1 ⊢
    omega
  · intro x hx
    rcases List.mem_append.1 hx with hx | hx
    · exact h.gone x hx
    · simp at hx; subst hx; exact hr
end Go.Mine.Tour
