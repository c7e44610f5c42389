/- Tests as sets of lines: plain numbers, no program. -/
namespace Go.Mine.Suite

/-- a without b. -/
def dif (a b : Nat) : Nat := a &&& (4294967295 - b)
theorem dif_bit {a b : Nat} (hb : b < 4294967296) (i : Nat) : (dif a b).testBit i = (a.testBit i && (decide (i < 32) && !b.testBit i)) := by
  unfold dif
  rw [Nat.testBit_and]
  have : (4294967295 - b) = 2 ^ 32 - (b + 1) := by omega
  rw [this, Nat.testBit_two_pow_sub_succ (show b < 2 ^ 32 by omega)]
theorem bit_lt {a i : Nat} (ha : a < 4294967296) (h : a.testBit i = true) : i < 32 := by
  rcases Nat.lt_or_ge i 32 with h' | h'
  · exact h'
  · have := Nat.testBit_lt_two_pow (show a < 2 ^ i from Nat.lt_of_lt_of_le (show a < 2 ^ 32 by omega) (Nat.pow_le_pow_right (by omega) h'))
    rw [this] at h; cases h
theorem dif_bit' {a b : Nat} (ha : a < 4294967296) (hb : b < 4294967296) (i : Nat) : (dif a b).testBit i = (a.testBit i && !b.testBit i) := by
  rw [dif_bit hb]
  cases h : a.testBit i
  · rfl
  · rw [decide_eq_true (bit_lt ha h)]; rfl
theorem dif_le (a b : Nat) : dif a b ≤ a := Nat.and_le_left
theorem dif_lt {a b : Nat} (ha : a < 4294967296) : dif a b < 4294967296 := Nat.lt_of_le_of_lt (dif_le a b) ha

/-- How many bits are 1. -/
def ones (x : Nat) : Nat := (List.range 32).countP fun k => x.testBit k
theorem ones_le (x : Nat) : ones x ≤ 32 := by
  have := List.countP_le_length (p := fun k => x.testBit k) (l := List.range 32)
  simpa [ones] using this
theorem ones_mono {x y : Nat} (h : ∀ i, x.testBit i = true → y.testBit i = true) : ones x ≤ ones y :=
  List.countP_mono_left fun k _ hk => h k hk
theorem ones_pos {x : Nat} (hx : x < 4294967296) (h : x ≠ 0) : 0 < ones x := by
  obtain ⟨i, hi⟩ := Nat.exists_testBit_of_ne_zero h
  exact List.countP_pos_iff.2 ⟨i, List.mem_range.2 (bit_lt hx hi), hi⟩
theorem ones_zero_bit {x : Nat} (h : ones x = 0) {i : Nat} (hi : i < 32) : x.testBit i = false := by
  have := List.countP_eq_zero.1 h i (List.mem_range.2 hi)
  simpa using this
theorem countP_split (p q r : Nat → Bool) (h : ∀ k, p k = (q k || r k)) (hd : ∀ k, (q k && r k) = false) : ∀ l : List Nat, l.countP p = l.countP q + l.countP r
  | [] => rfl
  | k :: l => by
    rw [List.countP_cons, List.countP_cons, List.countP_cons, countP_split p q r h hd l, h k]
    have := hd k
    cases hq : q k <;> cases hr : r k <;> simp [hq, hr] at this ⊢ <;> omega
/-- What a test passes of what is open, is what it passes behind another one and what both do. -/
theorem ones_split {t o b : Nat} (hb : b < 4294967296) (ho : o < 4294967296) : ones (t &&& o) = ones (t &&& dif o b) + ones (t &&& (o &&& b)) := by
  unfold ones
  refine countP_split _ _ _ (fun k => ?_) (fun k => ?_) _
  · simp only [Nat.testBit_and, dif_bit' ho hb]
    cases t.testBit k <;> cases o.testBit k <;> cases b.testBit k <;> rfl
  · simp only [Nat.testBit_and, dif_bit' ho hb]
    cases t.testBit k <;> cases o.testBit k <;> cases b.testBit k <;> rfl

/-- The lines that some tests pass together. -/
def orAll : List Nat → Nat
  | [] => 0
  | t :: ts => t ||| orAll ts
theorem orAll_bit (i : Nat) : ∀ ts, (orAll ts).testBit i = ts.any fun t => t.testBit i
  | [] => by simp [orAll]
  | t :: ts => by rw [orAll, Nat.testBit_or, orAll_bit i ts]; rfl
theorem orAll_lt : ∀ {ts : List Nat}, (∀ t ∈ ts, t < 4294967296) → orAll ts < 4294967296
  | [], _ => by simp [orAll]
  | t :: ts, h => by
    have h1 := h t (by simp)
    have h2 := orAll_lt (ts := ts) (fun t ht => h t (by simp [ht]))
    rw [orAll]
    exact Nat.or_lt_two_pow (n := 32) h1 h2
theorem orAll_append (as bs : List Nat) : orAll (as ++ bs) = orAll as ||| orAll bs := by
  refine Nat.eq_of_testBit_eq fun i => ?_
  rw [Nat.testBit_or, orAll_bit, orAll_bit, orAll_bit, List.any_append]
/-- .. of those at some places. -/
def orAt (ts : List Nat) (l : List Nat) : Nat := orAll (l.map fun i => ts.getD i 0)
theorem orAt_bit (ts l : List Nat) (i : Nat) : (orAt ts l).testBit i = l.any fun k => (ts.getD k 0).testBit i := by
  unfold orAt; rw [orAll_bit, List.any_map]; rfl
theorem get_lt {ts : List Nat} (h : ∀ t ∈ ts, t < 4294967296) (k : Nat) : ts.getD k 0 < 4294967296 := by
  by_cases hk : k < ts.length
  · have : ts.getD k 0 = ts[k] := by simp [hk]
    rw [this]; exact h _ (List.getElem_mem hk)
  · have : ts.getD k 0 = 0 := by simp [List.getElem?_eq_none (show ts.length ≤ k by omega)]
    rw [this]; omega
theorem orAt_sub {ts l : List Nat} {i : Nat} (h : (orAt ts l).testBit i = true) : (orAll ts).testBit i = true := by
  rw [orAt_bit, List.any_eq_true] at h
  obtain ⟨k, _, hk⟩ := h
  rw [orAll_bit, List.any_eq_true]
  by_cases hl : k < ts.length
  · have e : ts.getD k 0 = ts[k] := by simp [hl]
    exact ⟨ts[k], List.getElem_mem hl, by rw [← e]; exact hk⟩
  · have : ts.getD k 0 = 0 := by simp [List.getElem?_eq_none (show ts.length ≤ k by omega)]
    rw [this] at hk; simp at hk

/-- Taken greedily: the first one of those that pass most of what is open. -/
inductive Gr (ts : List Nat) : Nat → List Nat → Prop
  | nil : Gr ts 0 []
  | cons {o b : Nat} {l : List Nat} (h0 : o ≠ 0) (hb : b < ts.length) (hm : ∀ i, i < ts.length → ones (ts.getD i 0 &&& o) ≤ ones (ts.getD b 0 &&& o)) (hf : ∀ i, i < b → ones (ts.getD i 0 &&& o) < ones (ts.getD b 0 &&& o)) (h : Gr ts (dif o (ts.getD b 0)) l) : Gr ts o (b :: l)

/-- What is open lies in what all pass. -/
def Sub (o p : Nat) : Prop := ∀ i, o.testBit i = true → p.testBit i = true
theorem Sub.dif {o p b : Nat} (h : Sub o p) (hb : b < 4294967296) : Sub (dif o b) p := fun i hi => by
  rw [dif_bit hb, Bool.and_eq_true] at hi
  exact h i hi.1
/-- Of what is open the best one passes some. -/
theorem best_pos {ts : List Nat} {o b : Nat} (h0 : o ≠ 0) (ho : o < 4294967296) (hs : Sub o (orAll ts)) (hm : ∀ i, i < ts.length → ones (ts.getD i 0 &&& o) ≤ ones (ts.getD b 0 &&& o)) : 0 < ones (ts.getD b 0 &&& o) := by
  obtain ⟨i, hi⟩ := Nat.exists_testBit_of_ne_zero h0
  have h1 := hs i hi
  rw [orAll_bit, List.any_eq_true] at h1
  obtain ⟨t, ht, hti⟩ := h1
  obtain ⟨k, hk, rfl⟩ := List.mem_iff_getElem.1 ht
  have h2 := hm k hk
  have e : ts.getD k 0 = ts[k] := by simp [hk]
  rw [e] at h2
  have h3 : 0 < ones (ts[k] &&& o) := List.countP_pos_iff.2 ⟨i, List.mem_range.2 (bit_lt ho hi), by simp [hti, hi]⟩
  omega
/-- Each that is taken leaves fewer open. -/
theorem dif_less {o b : Nat} (ho : o < 4294967296) (hb : b < 4294967296) (h : 0 < ones (b &&& o)) : ones (dif o b) < ones o := by
  have h1 := ones_split (t := o) (o := o) hb ho
  rw [Nat.and_self] at h1
  have h2 : ones (o &&& (o &&& b)) = ones (b &&& o) := by rw [← Nat.and_assoc, Nat.and_self, Nat.and_comm]
  have h3 : ones (o &&& dif o b) = ones (dif o b) := by
    congr 1
    unfold dif
    rw [← Nat.and_assoc, Nat.and_self]
  omega
theorem Gr.covers {ts : List Nat} (hts : ∀ t ∈ ts, t < 4294967296) {o : Nat} {l : List Nat} (h : Gr ts o l) (ho : o < 4294967296) : Sub o (orAt ts l) := by
  induction h with
  | nil => intro i hi; simp at hi
  | @cons o b l h0 hb hm hf h ih =>
    intro i hi
    rw [orAt_bit, List.any_cons]
    cases hbi : (ts.getD b 0).testBit i
    · have := ih (dif_lt ho) i (by rw [dif_bit' ho (get_lt hts b), hi, hbi]; rfl)
      rw [orAt_bit] at this
      rw [this]; rfl
    · rfl
theorem Gr.lt {ts : List Nat} {o : Nat} {l : List Nat} (h : Gr ts o l) : ∀ i ∈ l, i < ts.length := by
  induction h with
  | nil => intro i hi; cases hi
  | cons h0 hb hm hf h ih =>
    intro i hi
    rcases List.mem_cons.1 hi with rfl | hi
    · exact hb
    · exact ih i hi
/-- What is taken passes some of what is open then. -/
theorem Gr.hits {ts : List Nat} (hts : ∀ t ∈ ts, t < 4294967296) {o : Nat} {l : List Nat} (h : Gr ts o l) (ho : o < 4294967296) (hs : Sub o (orAll ts)) : ∀ i ∈ l, 0 < ones (ts.getD i 0 &&& o) := by
  induction h with
  | nil => intro i hi; cases hi
  | @cons o b l h0 hb hm hf h ih =>
    intro i hi
    rcases List.mem_cons.1 hi with rfl | hi
    · exact best_pos h0 ho hs hm
    · have := ih (dif_lt ho) (hs.dif (get_lt hts b)) i hi
      exact Nat.lt_of_lt_of_le this (ones_mono fun j hj => by
        rw [Nat.testBit_and, Bool.and_eq_true] at hj ⊢
        rw [dif_bit (get_lt hts b), Bool.and_eq_true] at hj
        exact ⟨hj.1, hj.2.1⟩)
theorem Gr.nodup {ts : List Nat} (hts : ∀ t ∈ ts, t < 4294967296) {o : Nat} {l : List Nat} (h : Gr ts o l) (ho : o < 4294967296) (hs : Sub o (orAll ts)) : l.Nodup := by
  induction h with
  | nil => simp
  | @cons o b l h0 hb hm hf h ih =>
    rw [List.nodup_cons]
    refine ⟨fun hbl => ?_, ih (dif_lt ho) (hs.dif (get_lt hts b))⟩
    have h1 := h.hits hts (dif_lt ho) (hs.dif (get_lt hts b)) b hbl
    obtain ⟨k, hk, hkb⟩ := List.countP_pos_iff.1 h1
    simp only [Nat.testBit_and, dif_bit' ho (get_lt hts b)] at hkb
    simp only [Bool.and_eq_true, Bool.not_eq_true'] at hkb
    have := hkb.1.symm.trans hkb.2.2
    cases this
/-- They are told once. -/
theorem Gr.unique {ts : List Nat} {o : Nat} {l : List Nat} (h : Gr ts o l) : ∀ {l'}, Gr ts o l' → l = l' := by
  induction h with
  | nil =>
    intro l' h'
    cases h' with
    | nil => rfl
    | cons h0 => exact absurd rfl h0
  | @cons o b l h0 hb hm hf h ih =>
    intro l' h'
    cases h' with
    | nil => exact absurd rfl h0
    | @cons _ b' l' h0' hb' hm' hf' h' =>
      have : b = b' := by
        rcases Nat.lt_trichotomy b b' with e | e | e
        · have := hf' b e; have := hm b' hb'; omega
        · exact e
        · have := hf b' e; have := hm' b hb; omega
      subst this
      rw [ih h']

/-- whole / i is exact up to 32. -/
def whole : Nat := 144403552893600
def W : Nat → Nat
  | 0 => 0
  | c + 1 => W c + whole / (c + 1)
theorem whole_div : ∀ i, i < 33 → 0 < i → whole / i * i = whole := by decide +kernel
theorem W_mono {a b : Nat} (h : a ≤ b) : W a ≤ W b := by
  induction b with
  | zero => have : a = 0 := by omega
            subst this; exact Nat.le_refl _
  | succ b ih =>
    by_cases e : a = b + 1
    · subst e; exact Nat.le_refl _
    · exact Nat.le_trans (ih (by omega)) (Nat.le_add_right _ _)
/-- Each step of c .. down to c' costs no more than a part of c. -/
theorem W_step {c m : Nat} (hm : c ≤ m) : ∀ d, d ≤ c → (c - d) * (whole / m) + W d ≤ W c := by
  intro d
  induction c with
  | zero => intro h; have : d = 0 := by omega
            subst this; simp
  | succ c ih =>
    intro h
    by_cases e : d = c + 1
    · subst e; simp
    · have h1 := ih (by omega) (by omega)
      rw [W]
      have h2 : whole / m ≤ whole / (c + 1) := Nat.div_le_div_left hm (by omega)
      have h3 : (c + 1 - d) * (whole / m) = (c - d) * (whole / m) + whole / m := by
        rw [show c + 1 - d = (c - d) + 1 by omega, Nat.add_mul, Nat.one_mul]
      omega
def sumW (ts : List Nat) (o : Nat) : List Nat → Nat
  | [] => 0
  | t :: l => W (ones (ts.getD t 0 &&& o)) + sumW ts o l
def sumO (ts : List Nat) (o : Nat) : List Nat → Nat
  | [] => 0
  | t :: l => ones (ts.getD t 0 &&& o) + sumO ts o l
/-- What those that cover pass of x is x at least. -/
theorem sumO_ge {ts : List Nat} {x : Nat} : ∀ {c : List Nat}, (∀ i, x.testBit i = true → (orAt ts c).testBit i = true) → ones x ≤ sumO ts x c
  | [], h => by
    have : ones x = 0 := List.countP_eq_zero.2 fun k _ hk => by
      have := h k hk
      simp [orAt_bit] at this
    rw [this]; exact Nat.zero_le _
  | t :: c, h => by
    rw [sumO]
    have h1 : ones x ≤ ones (ts.getD t 0 &&& x) + ones (x &&& orAt ts c) := by
      unfold ones
      have key : ∀ l : List Nat, l.countP (fun k => x.testBit k) ≤ l.countP (fun k => (ts.getD t 0 &&& x).testBit k) + l.countP (fun k => (x &&& orAt ts c).testBit k) := by
        intro l
        induction l with
        | nil => simp
        | cons k l ih =>
          rw [List.countP_cons, List.countP_cons, List.countP_cons]
          have hk := h k
          rw [orAt_bit, List.any_cons, ← orAt_bit] at hk
          simp only [Nat.testBit_and]
          cases hx : x.testBit k
          · simp; exact Nat.le_trans ih (by simp)
          · rw [hx] at hk
            have := hk rfl
            cases h1 : (ts.getD t 0).testBit k <;> cases h2 : (orAt ts c).testBit k <;> simp_all <;> omega
      exact key _
    have h2 : ones (x &&& orAt ts c) ≤ sumO ts (x &&& orAt ts c) c := sumO_ge fun i hi => by
      rw [Nat.testBit_and, Bool.and_eq_true] at hi; exact hi.2
    have h3 : ∀ l, sumO ts (x &&& orAt ts c) l ≤ sumO ts x l := by
      intro l
      induction l with
      | nil => exact Nat.le_refl _
      | cons s l ih =>
        rw [sumO, sumO]
        have : ones (ts.getD s 0 &&& (x &&& orAt ts c)) ≤ ones (ts.getD s 0 &&& x) := ones_mono fun i hi => by
          simp only [Nat.testBit_and, Bool.and_eq_true] at hi ⊢
          exact ⟨hi.1, hi.2.1⟩
        omega
    have := h3 c
    omega
/-- One step: what one that is taken costs is paid by those that cover. -/
theorem sumW_step {ts : List Nat} {o b m : Nat} (hb : b < 4294967296) (ho : o < 4294967296) (hm : ∀ i, i < ts.length → ones (ts.getD i 0 &&& o) ≤ m) : ∀ {c : List Nat}, (∀ i ∈ c, i < ts.length) → sumO ts (o &&& b) c * (whole / m) + sumW ts (dif o b) c ≤ sumW ts o c
  | [], _ => by simp [sumO, sumW]
  | t :: c, h => by
    have ih := sumW_step hb ho hm (c := c) (fun i hi => h i (by simp [hi]))
    rw [sumO, sumW, sumW, Nat.add_mul]
    have h1 := ones_split (t := ts.getD t 0) hb ho
    have h2 := W_step (hm t (h t (by simp))) (ones (ts.getD t 0 &&& dif o b)) (by omega)
    rw [show ones (ts.getD t 0 &&& o) - ones (ts.getD t 0 &&& dif o b) = ones (ts.getD t 0 &&& (o &&& b)) by omega] at h2
    omega
/-- Chvatal, Johnson, Lovasz. -/
theorem Gr.chvatal {ts : List Nat} (hts : ∀ t ∈ ts, t < 4294967296) {o : Nat} {l c : List Nat} (h : Gr ts o l) (ho : o < 4294967296) (hs : Sub o (orAll ts)) (hc : ∀ i ∈ c, i < ts.length) (hcov : Sub o (orAt ts c)) : l.length * whole ≤ sumW ts o c := by
  induction h with
  | nil => simp
  | @cons o b l h0 hb hm hf h ih =>
    have hbl := get_lt hts b
    have h1 := ih (dif_lt ho) (hs.dif hbl) (hcov.dif hbl)
    have hp := best_pos h0 ho hs hm
    have h32 := ones_le (ts.getD b 0 &&& o)
    have h2 := sumW_step hbl ho hm hc
    have h3 : ones (o &&& ts.getD b 0) ≤ sumO ts (o &&& ts.getD b 0) c := sumO_ge fun i hi => by
      rw [Nat.testBit_and, Bool.and_eq_true] at hi; exact hcov i hi.1
    rw [Nat.and_comm o] at h3
    have h4 := whole_div _ (show ones (ts.getD b 0 &&& o) < 33 by omega) hp
    have h5 := Nat.mul_le_mul_right (whole / ones (ts.getD b 0 &&& o)) h3
    rw [Nat.mul_comm (ones _) (whole / _), h4] at h5
    rw [List.length_cons, Nat.add_mul, Nat.one_mul]
    rw [Nat.and_comm (ts.getD b 0) o] at h5
    rw [Nat.and_comm (ts.getD b 0) o] at h2
    omega
theorem sumW_le {ts : List Nat} {o most : Nat} (hm : ∀ i, i < ts.length → ones (ts.getD i 0) ≤ most) : ∀ {c : List Nat}, (∀ i ∈ c, i < ts.length) → sumW ts o c ≤ c.length * W most
  | [], _ => by simp [sumW]
  | t :: c, h => by
    have ih := sumW_le (o := o) hm (c := c) (fun i hi => h i (by simp [hi]))
    rw [sumW, List.length_cons, Nat.add_mul, Nat.one_mul]
    have h1 : ones (ts.getD t 0 &&& o) ≤ ones (ts.getD t 0) := ones_mono fun i hi => by
      rw [Nat.testBit_and, Bool.and_eq_true] at hi; exact hi.1
    have := W_mono (Nat.le_trans h1 (hm t (h t (by simp))))
    omega
end Go.Mine.Suite
