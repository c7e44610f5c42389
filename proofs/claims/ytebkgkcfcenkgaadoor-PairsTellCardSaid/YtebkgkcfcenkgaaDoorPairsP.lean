/- Each with each: plain law, no program. -/
namespace Go.Mine.Pw

theorem nodup_len {α : Type} [DecidableEq α] : ∀ {L M : List α}, L.Nodup → (∀ x ∈ L, x ∈ M) → L.length ≤ M.length
  | [], _, _, _ => Nat.zero_le _
  | x :: L, M, hn, hs => by
    have hx := hs x List.mem_cons_self
    have h1 := List.nodup_cons.1 hn
    have h2 := nodup_len (M := M.erase x) h1.2 (fun y hy => by
      have hne : y ≠ x := fun e => h1.1 (e ▸ hy)
      exact (List.mem_erase_of_ne hne).2 (hs y (List.mem_cons_of_mem _ hy)))
    have h3 := List.length_erase_of_mem hx
    have h4 : 0 < M.length := List.length_pos_of_mem hx
    simp only [List.length_cons]
    omega
theorem flat_le {α β : Type} (f : α → List β) (c : Nat) : ∀ l : List α, (∀ x ∈ l, (f x).length ≤ c) → (l.flatMap f).length ≤ l.length * c
  | [], _ => by simp
  | x :: l, h => by
    have h1 := h x List.mem_cons_self
    have h2 := flat_le f c l (fun y hy => h y (List.mem_cons_of_mem _ hy))
    rw [List.flatMap_cons, List.length_append, List.length_cons, Nat.add_mul]
    omega

def okL (L : List Int) : Prop := L.length ≤ 12 ∧ ∀ x ∈ L, 1 ≤ x ∧ x ≤ 5
def lv (L : List Int) (a : Nat) : Nat := (L.getD a 0).toNat
theorem okL.lv {L : List Int} (h : okL L) {a : Nat} (ha : a < L.length) : L.getD a 0 = (lv L a : Int) ∧ 1 ≤ lv L a ∧ lv L a ≤ 5 := by
  have hm : L.getD a 0 ∈ L := by simp [ha]
  have := h.2 _ hm
  unfold Pw.lv
  omega
theorem okL.lv5 {L : List Int} (h : okL L) (a : Nat) : Pw.lv L a ≤ 5 := by
  by_cases ha : a < L.length
  · exact (h.lv ha).2.2
  · unfold Pw.lv
    simp [List.getD, List.getElem?_eq_none (show L.length ≤ a by omega)]

def four (a x b y : Nat) : List Int := [(a : Int), (x : Int), (b : Int), (y : Int)]
def blkY (a x b y : Nat) : List (List Int) := (List.range y).map fun y => four a x b y
def blkB (L : List Int) (a x k : Nat) : List (List Int) := (List.range k).flatMap fun i => blkY a x (a + 1 + i) (lv L (a + 1 + i))
def blkX (L : List Int) (a x : Nat) : List (List Int) := (List.range x).flatMap fun x => blkB L a x (L.length - (a + 1))
def blkA (L : List Int) (a : Nat) : List (List Int) := (List.range a).flatMap fun a => blkX L a (lv L a)
def allP (L : List Int) : List (List Int) := blkA L L.length
/-- The pairs ahead of one, those of them that f takes. -/
def St (L : List Int) (f : List Int → Bool) (a x k y : Nat) : List (List Int) := (blkA L a ++ (blkX L a x ++ (blkB L a x k ++ blkY a x (a + 1 + k) y))).filter f
theorem St_0 (L : List Int) (f : List Int → Bool) : St L f 0 0 0 0 = [] := rfl
theorem St_n (L : List Int) (f : List Int → Bool) : St L f L.length 0 0 0 = (allP L).filter f := by simp [St, allP, blkX, blkB, blkY]
theorem St_y (L : List Int) (f : List Int → Bool) (a x k y : Nat) : St L f a x k (y + 1) = St L f a x k y ++ (if f (four a x (a + 1 + k) y) then [four a x (a + 1 + k) y] else []) := by
  unfold St
  rw [show blkY a x (a + 1 + k) (y + 1) = blkY a x (a + 1 + k) y ++ [four a x (a + 1 + k) y] by simp [blkY, List.range_succ]]
  simp only [List.filter_append, List.append_assoc]
  congr 4
  cases h : f (four a x (a + 1 + k) y) <;> simp [h]
theorem St_b (L : List Int) (f : List Int → Bool) (a x k : Nat) : St L f a x (k + 1) 0 = St L f a x k (lv L (a + 1 + k)) := by
  unfold St
  rw [show blkB L a x (k + 1) = blkB L a x k ++ blkY a x (a + 1 + k) (lv L (a + 1 + k)) by simp [blkB, List.range_succ]]
  simp [blkY]
theorem St_x (L : List Int) (f : List Int → Bool) (a x : Nat) : St L f a (x + 1) 0 0 = St L f a x (L.length - (a + 1)) 0 := by
  unfold St
  rw [show blkX L a (x + 1) = blkX L a x ++ blkB L a x (L.length - (a + 1)) by simp [blkX, List.range_succ]]
  simp [blkY, blkB]
theorem St_a (L : List Int) (f : List Int → Bool) (a : Nat) : St L f (a + 1) 0 0 0 = St L f a (lv L a) 0 0 := by
  unfold St
  rw [show blkA L (a + 1) = blkA L a ++ blkX L a (lv L a) by simp [blkA, List.range_succ]]
  simp [blkY, blkB, blkX]
theorem blkY_len (a x b y : Nat) : (blkY a x b y).length = y := by simp [blkY]
theorem blkB_len {L : List Int} (h : okL L) (a x k : Nat) : (blkB L a x k).length ≤ k * 5 := by
  have := flat_le (fun i => blkY a x (a + 1 + i) (lv L (a + 1 + i))) 5 (List.range k) (fun i _ => by rw [blkY_len]; exact h.lv5 _)
  simpa [blkB] using this
theorem blkX_len {L : List Int} (h : okL L) (a x : Nat) : (blkX L a x).length ≤ x * 60 := by
  have := flat_le (fun x => blkB L a x (L.length - (a + 1))) 60 (List.range x) (fun i _ => by have := blkB_len h a i (L.length - (a + 1)); have := h.1; omega)
  simpa [blkX] using this
theorem blkA_len {L : List Int} (h : okL L) (a : Nat) : (blkA L a).length ≤ a * 300 := by
  have := flat_le (fun a => blkX L a (lv L a)) 300 (List.range a) (fun i _ => by have := blkX_len h i (lv L i); have := h.lv5 i; omega)
  simpa [blkA] using this
theorem allP_len {L : List Int} (h : okL L) : (allP L).length ≤ 3600 := by
  have := blkA_len h L.length
  have := h.1
  unfold allP
  omega
theorem St_len {L : List Int} (h : okL L) (f : List Int → Bool) {a x k y : Nat} (ha : a ≤ L.length) (hx : x ≤ 5) (hk : k ≤ 12) (hy : y ≤ 5) : (St L f a x k y).length ≤ 4000 := by
  have h1 := blkA_len h a
  have h2 := blkX_len h a x
  have h3 := blkB_len h a x k
  have h4 := blkY_len a x (a + 1 + k) y
  have h5 := h.1
  unfold St
  refine Nat.le_trans (List.length_filter_le _ _) ?_
  simp only [List.length_append]
  omega
theorem mem_all {L : List Int} {p : List Int} : p ∈ allP L ↔ ∃ a x b y, p = four a x b y ∧ a < b ∧ b < L.length ∧ x < lv L a ∧ y < lv L b := by
  unfold allP blkA blkX blkB blkY
  simp only [List.mem_flatMap, List.mem_range, List.mem_map]
  constructor
  · rintro ⟨a, ha, x, hx, i, hi, y, hy, rfl⟩
    exact ⟨a, x, a + 1 + i, y, rfl, by omega, by omega, hx, hy⟩
  · rintro ⟨a, x, b, y, rfl, hab, hb, hx, hy⟩
    exact ⟨a, by omega, x, hx, b - (a + 1), by omega, y, by rw [show a + 1 + (b - (a + 1)) = b by omega]; exact hy, by rw [show a + 1 + (b - (a + 1)) = b by omega]⟩
theorem St_mem {L : List Int} {f : List Int → Bool} {a x k y : Nat} : ∀ r ∈ St L f a x k y, r.length = 4 := by
  intro r hr
  unfold St blkA blkX blkB blkY at hr
  simp only [List.mem_filter, List.mem_append, List.mem_flatMap, List.mem_range, List.mem_map] at hr
  rcases hr.1 with ⟨_, _, _, _, _, _, _, _, rfl⟩ | ⟨_, _, _, _, _, _, rfl⟩ | ⟨_, _, _, _, rfl⟩ | ⟨_, _, rfl⟩ <;> rfl

/-- Has a row a pair? -/
def hasP (row p : List Int) : Bool := row.getD (p.getD 0 0).toNat 0 == p.getD 1 0 && row.getD (p.getD 2 0).toNat 0 == p.getD 3 0
theorem hasP_four {row : List Int} {a x b y : Nat} : hasP row (four a x b y) = true ↔ row.getD a 0 = x ∧ row.getD b 0 = y := by
  unfold hasP four
  simp
def missP (L : List Int) (rows : List (List Int)) : List (List Int) := (allP L).filter fun p => !rows.any fun r => hasP r p
def okRow (L r : List Int) : Prop := r.length = L.length ∧ ∀ a, a < L.length → 0 ≤ r.getD a 0 ∧ r.getD a 0 < L.getD a 0
def okRows (L : List Int) (rows : List (List Int)) : Prop := ∀ r ∈ rows, okRow L r
theorem missP_nil (L : List Int) : missP L [] = allP L := by
  unfold missP
  exact List.filter_eq_self.2 (fun _ _ => rfl)
theorem missP_push (L : List Int) (rows : List (List Int)) (r : List Int) : missP L (rows ++ [r]) = (missP L rows).filter fun p => !hasP r p := by
  unfold missP
  rw [List.filter_filter]
  congr 1
  funext p
  rw [List.any_append]
  cases rows.any (fun r => hasP r p) <;> simp
theorem missP_len {L : List Int} (h : okL L) (rows : List (List Int)) : (missP L rows).length ≤ 3600 := Nat.le_trans (List.length_filter_le _ _) (allP_len h)
theorem filter_lt {α : Type} (f : α → Bool) : ∀ l : List α, (∃ x ∈ l, f x = false) → (l.filter f).length < l.length
  | [], h => by obtain ⟨_, h, _⟩ := h; cases h
  | y :: l, h => by
    by_cases hy : f y = true
    · rw [List.filter_cons_of_pos hy]
      obtain ⟨x, hx, hf⟩ := h
      rcases List.mem_cons.1 hx with rfl | hx
      · rw [hy] at hf; cases hf
      · have := filter_lt f l ⟨x, hx, hf⟩
        simp only [List.length_cons]
        omega
    · rw [List.filter_cons_of_neg hy]
      have := List.length_filter_le f l
      simp only [List.length_cons]
      omega
theorem missP_less {L : List Int} {rows : List (List Int)} {r p : List Int} (hp : p ∈ missP L rows) (hr : hasP r p = true) : (missP L (rows ++ [r])).length < (missP L rows).length := by
  rw [missP_push]
  exact filter_lt _ _ ⟨p, hp, by rw [hr]; rfl⟩
theorem mem_miss {L : List Int} {rows : List (List Int)} {p : List Int} : p ∈ missP L rows ↔ p ∈ allP L ∧ ∀ r ∈ rows, hasP r p = false := by
  unfold missP
  simp only [List.mem_filter, Bool.not_eq_true', List.any_eq_false, Bool.not_eq_true]
/-- Fewer rows: no fewer missing. -/
theorem miss_sub {L : List Int} {rows less : List (List Int)} (h : ∀ r ∈ less, r ∈ rows) {p : List Int} (hp : p ∈ missP L rows) : p ∈ missP L less := by
  rw [mem_miss] at hp ⊢
  exact ⟨hp.1, fun r hr => hp.2 r (h r hr)⟩
/-- None from place i on can be missed. -/
def NeedFrom (L : List Int) (rows : List (List Int)) (i : Nat) : Prop := ∀ k, i ≤ k → k < rows.length → missP L (rows.eraseIdx k) ≠ []
theorem ne_nil_of_sub {L : List Int} {rows less : List (List Int)} (h : ∀ r ∈ less, r ∈ rows) (hn : missP L rows ≠ []) : missP L less ≠ [] := by
  intro he
  obtain ⟨p, hp⟩ := List.exists_mem_of_ne_nil _ hn
  have := miss_sub h hp
  rw [he] at this
  cases this
theorem mem_eraseIdx_sub {α : Type} {l : List α} {i : Nat} {x : α} (h : x ∈ l.eraseIdx i) : x ∈ l := List.eraseIdx_subset h
theorem NeedFrom.cut {L : List Int} {rows : List (List Int)} {i : Nat} (h : NeedFrom L rows (i + 1)) (hi : i < rows.length) : NeedFrom L (rows.eraseIdx i) i := by
  intro k hik hk
  rw [List.length_eraseIdx_of_lt hi] at hk
  have h1 := h (k + 1) (by omega) (by omega)
  refine ne_nil_of_sub (rows := rows.eraseIdx (k + 1)) (fun r hr => ?_) h1
  have e : (rows.eraseIdx i).eraseIdx k = (rows.eraseIdx (k + 1)).eraseIdx i := by
    apply List.ext_getElem?
    intro j
    simp only [List.getElem?_eraseIdx]
    split <;> split <;> (try split) <;> (try split) <;> first | rfl | omega | (congr 1; omega)
  rw [e] at hr
  exact mem_eraseIdx_sub hr
theorem NeedFrom.stay {L : List Int} {rows : List (List Int)} {i : Nat} (h : NeedFrom L rows (i + 1)) (hn : missP L (rows.eraseIdx i) ≠ []) : NeedFrom L rows i := by
  intro k hik hk
  by_cases e : k = i
  · subst e; exact hn
  · exact h k (by omega) hk
/-- What Rows answers. -/
structure Least (L : List Int) (rows : List (List Int)) : Prop where
  ok : okRows L rows
  all : missP L rows = []
  need : NeedFrom L rows 0

/-- The pairs, counted otherwise. -/
def qB (L : List Int) (a b : Nat) : List (List Int) := (List.range b).flatMap fun b => (List.range (lv L b)).flatMap fun y => (List.range (lv L a)).map fun x => four b y a x
def qA (L : List Int) (a : Nat) : List (List Int) := (List.range a).flatMap fun a => qB L a a
theorem qB_succ (L : List Int) (a b : Nat) : (qB L a (b + 1)).length = (qB L a b).length + lv L a * lv L b := by
  unfold qB
  rw [List.range_succ, List.flatMap_append, List.length_append]
  congr 1
  simp only [List.flatMap_cons, List.flatMap_nil, List.append_nil, List.length_flatMap, List.length_map, List.length_range]
  generalize lv L b = m
  induction m with
  | zero => simp
  | succ m ih =>
    rw [List.range_succ, List.map_append, List.sum_append, ih, Nat.mul_succ]
    simp
theorem qA_succ (L : List Int) (a : Nat) : (qA L (a + 1)).length = (qA L a).length + (qB L a a).length := by
  unfold qA
  rw [List.range_succ, List.flatMap_append, List.length_append]
  simp
theorem all_q {L p : List Int} (h : p ∈ allP L) : p ∈ qA L L.length := by
  obtain ⟨a, x, b, y, rfl, hab, hb, hx, hy⟩ := mem_all.1 h
  unfold qA qB
  simp only [List.mem_flatMap, List.mem_range, List.mem_map]
  exact ⟨b, hb, a, hab, x, hx, y, hy, rfl⟩
theorem qB_len {L : List Int} (h : okL L) (a : Nat) : ∀ b, (qB L a b).length ≤ b * 25
  | 0 => Nat.zero_le _
  | b + 1 => by
    rw [qB_succ]
    have h1 := qB_len h a b
    have h2 := Nat.mul_le_mul (h.lv5 a) (h.lv5 b)
    omega
theorem qA_len {L : List Int} (h : okL L) : ∀ a, a ≤ 12 → (qA L a).length ≤ a * 300
  | 0, _ => Nat.zero_le _
  | a + 1, ha => by
    rw [qA_succ]
    have h1 := qA_len h a (by omega)
    have h2 := qB_len h a a
    omega

/-- Choice, below a bound. -/
theorem choose_lt {α : Type} [Inhabited α] {n : Nat} {p : Nat → α → Prop} (h : ∀ i, i < n → ∃ a, p i a) : ∃ f : Nat → α, ∀ i, i < n → p i (f i) := by
  refine ⟨fun i => if hi : i < n then Classical.choose (h i hi) else default, fun i hi => ?_⟩
  simp only [dif_pos hi]
  exact Classical.choose_spec (h i hi)
theorem nodup_map_range {α : Type} {n : Nat} {f : Nat → α} (h : ∀ i j, i < n → j < n → f i = f j → i = j) : ((List.range n).map f).Nodup := by
  unfold List.Nodup
  rw [List.pairwise_map]
  have := List.pairwise_lt_range (n := n)
  refine List.Pairwise.imp_of_mem (fun {a b} ha hb hab => ?_) this
  rw [List.mem_range] at ha hb
  intro e
  have := h a b ha hb e
  omega
theorem Least.le {L : List Int} {rows : List (List Int)} (h : Least L rows) : rows.length ≤ (qA L L.length).length := by
  have h1 : ∀ i, i < rows.length → ∃ p : List Int, p ∈ missP L (rows.eraseIdx i) := fun i hi => List.exists_mem_of_ne_nil _ (h.need i (Nat.zero_le _) hi)
  obtain ⟨f, hf⟩ := choose_lt h1
  have h2 : ∀ i, i < rows.length → hasP (rows.getD i []) (f i) = true := fun i hi => by
    have hm := hf i hi
    rw [mem_miss] at hm
    have hnot : f i ∉ missP L rows := by rw [h.all]; simp
    rw [mem_miss] at hnot
    cases hh : hasP (rows.getD i []) (f i) with
    | true => rfl
    | false =>
      exfalso
      refine hnot ⟨hm.1, fun r hr => ?_⟩
      obtain ⟨j, hj, rfl⟩ := List.mem_iff_getElem.1 hr
      by_cases e : j = i
      · subst e
        simpa [List.getD, hj] using hh
      · exact hm.2 _ (List.mem_eraseIdx_iff_getElem.2 ⟨j, hj, e, rfl⟩)
  have h3 : ((List.range rows.length).map f).Nodup := nodup_map_range fun i j hi hj e => by
    by_cases hij : i = j
    · exact hij
    · exfalso
      have hm := (mem_miss.1 (hf i hi)).2 (rows.getD j []) (by
        have : rows.getD j [] = rows[j] := by simp [List.getD, hj]
        rw [this]
        exact List.mem_eraseIdx_iff_getElem.2 ⟨j, hj, fun e => hij e.symm, rfl⟩)
      rw [e, h2 j hj] at hm
      cases hm
  have h4 := nodup_len h3 (M := qA L L.length) (fun x hx => by
    simp only [List.mem_map, List.mem_range] at hx
    obtain ⟨i, hi, rfl⟩ := hx
    exact all_q (mem_miss.1 (hf i hi)).1)
  simpa using h4
theorem Least.ge {L : List Int} {rows : List (List Int)} (h : Least L rows) {a b : Nat} (hab : a < b) (hb : b < L.length) : lv L b * lv L a ≤ rows.length := by
  have h1 : ∀ t, t < lv L b * lv L a → ∃ i : Nat, i < rows.length ∧ (rows.getD i []).getD a 0 = ((t / lv L b : Nat) : Int) ∧ (rows.getD i []).getD b 0 = ((t % lv L b : Nat) : Int) := fun t ht => by
    have hpos : 0 < lv L b := by
      rcases Nat.eq_zero_or_pos (lv L b) with h | h
      · rw [h, Nat.zero_mul] at ht; omega
      · exact h
    have hx : t / lv L b < lv L a := Nat.div_lt_of_lt_mul ht
    have hy : t % lv L b < lv L b := Nat.mod_lt _ hpos
    have hm : four a (t / lv L b) b (t % lv L b) ∈ allP L := mem_all.2 ⟨_, _, _, _, rfl, hab, hb, hx, hy⟩
    have hnot : four a (t / lv L b) b (t % lv L b) ∉ missP L rows := by rw [h.all]; simp
    rw [mem_miss] at hnot
    have : ∃ r ∈ rows, hasP r (four a (t / lv L b) b (t % lv L b)) = true := by
      refine Classical.byContradiction fun hc => hnot ⟨hm, fun r hr => ?_⟩
      cases hh : hasP r (four a (t / lv L b) b (t % lv L b)) with
      | false => rfl
      | true => exact absurd ⟨r, hr, hh⟩ hc
    obtain ⟨r, hr, hh⟩ := this
    obtain ⟨i, hi, rfl⟩ := List.mem_iff_getElem.1 hr
    have := hasP_four.1 hh
    exact ⟨i, hi, by simpa [List.getD, hi] using this.1, by simpa [List.getD, hi] using this.2⟩
  obtain ⟨f, hf⟩ := choose_lt h1
  have h3 : ((List.range (lv L b * lv L a)).map f).Nodup := nodup_map_range fun i j hi hj e => by
    have hi' := hf i hi
    have hj' := hf j hj
    rw [e] at hi'
    have e1 : i / lv L b = j / lv L b := by have := hi'.2.1.symm.trans hj'.2.1; exact_mod_cast this
    have e2 : i % lv L b = j % lv L b := by have := hi'.2.2.symm.trans hj'.2.2; exact_mod_cast this
    rw [← Nat.div_add_mod i (lv L b), ← Nat.div_add_mod j (lv L b), e1, e2]
  have h4 := nodup_len h3 (M := List.range rows.length) (fun x hx => by
    simp only [List.mem_map, List.mem_range] at hx ⊢
    obtain ⟨i, hi, rfl⟩ := hx
    exact (hf i hi).1)
  simpa using h4
theorem Least.two {rows : List (List Int)} (h : Least [2, 2] rows) : rows.length = 4 := by
  have h1 := h.le
  have h2 := h.ge (a := 0) (b := 1) (by omega) (by simp)
  have e1 : (qA [2, 2] ([2, 2] : List Int).length).length = 4 := by decide
  have e2 : lv [2, 2] 1 * lv [2, 2] 0 = 4 := by decide
  omega
end Go.Mine.Pw
