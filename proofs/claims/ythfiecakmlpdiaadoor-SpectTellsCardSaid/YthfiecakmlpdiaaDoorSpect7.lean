/- SpectTells: the reference's blame and its places: plain law. No conditions. -/
import Derived.Test.YthfiecakmlpdiaaDoorSpect4
namespace Go.Proofs.YthfiecakmlpdiaaDoor
open Go.RowKit Go.Mine Go.Mine.Suite Go.Mine.Spec Go.Mine.Stab

/-- The reference's blame: so much, of so much. -/
def ra4 (a _b c d : Nat) : Nat := if a = 0 then 0 else if c + d = 0 then 1 else a * (c + d)
def rb4 (a b c d : Nat) : Nat := if a = 0 then 1 else if c + d = 0 then 1 else a * (c + d) + c * (a + b)
theorem rb4_pos (a b c d : Nat) : 0 < rb4 a b c d := by
  unfold rb4
  split
  · omega
  · split
    · omega
    · have : 0 < a * (c + d) := Nat.mul_pos (by omega) (by omega)
      omega
theorem ra4_ratio (a b c d : Nat) : ra4 a b c d * top1 (badOf a b c d + goodOf a b c d) = badOf a b c d * rb4 a b c d := by
  unfold ra4 rb4 badOf goodOf
  by_cases ha : a = 0
  · subst ha; simp
  · rw [if_neg ha, if_neg ha]
    by_cases hp : c + d = 0
    · rw [if_pos hp, if_pos hp]
      obtain rfl : c = 0 := by omega
      obtain rfl : d = 0 := by omega
      simp [top1]; omega
    · rw [if_neg hp, if_neg hp]
      have e1 : top1 (c + d) = c + d := by unfold top1; rw [if_neg (by omega)]
      have e2 : top1 (a + b) = a + b := by unfold top1; rw [if_neg (by omega)]
      rw [e1, e2]
      have : 0 < a * (c + d) := Nat.mul_pos (by omega) (by omega)
      have e3 : top1 (a * (c + d) + c * (a + b)) = a * (c + d) + c * (a + b) := by unfold top1; rw [if_neg (by omega)]
      rw [e3]
def ra (ts : List Nat) (fs : List Bool) (x : Nat) : Nat := ra4 (cK ts fs x 0 ts.length) (cK ts fs x 1 ts.length) (cK ts fs x 2 ts.length) (cK ts fs x 3 ts.length)
def rb (ts : List Nat) (fs : List Bool) (x : Nat) : Nat := rb4 (cK ts fs x 0 ts.length) (cK ts fs x 1 ts.length) (cK ts fs x 2 ts.length) (cK ts fs x 3 ts.length)
theorem rb_pos (ts : List Nat) (fs : List Bool) (x : Nat) : 0 < rb ts fs x := rb4_pos _ _ _ _
theorem ra_ratio (ts : List Nat) (fs : List Bool) (x : Nat) : ra ts fs x * bt ts fs x = bl ts fs x * rb ts fs x := ra4_ratio _ _ _ _
theorem ra4_le {a b c d : Nat} (ha : a ≤ 12) (hc : c ≤ 12) (hd : d ≤ 12) : ra4 a b c d ≤ 288 := by
  unfold ra4
  split
  · omega
  · split
    · omega
    · exact Nat.mul_le_mul ha (show _ ≤ 24 by omega)
theorem rb4_le {a b c d : Nat} (ha : a ≤ 12) (hb : b ≤ 12) (hc : c ≤ 12) (hd : d ≤ 12) : rb4 a b c d ≤ 576 := by
  unfold rb4
  split
  · omega
  · split
    · omega
    · have h1 : a * (c + d) ≤ 12 * 24 := Nat.mul_le_mul ha (by omega)
      have h2 : c * (a + b) ≤ 12 * 24 := Nat.mul_le_mul hc (by omega)
      omega
theorem ra_le (ts : List Nat) (fs : List Bool) (x : Nat) (h : ts.length ≤ 12) : ra ts fs x ≤ 288 :=
  ra4_le (Nat.le_trans (cK_le ts fs x 0 _) h) (Nat.le_trans (cK_le ts fs x 2 _) h) (Nat.le_trans (cK_le ts fs x 3 _) h)
theorem rb_le (ts : List Nat) (fs : List Bool) (x : Nat) (h : ts.length ≤ 12) : rb ts fs x ≤ 576 :=
  rb4_le (Nat.le_trans (cK_le ts fs x 0 _) h) (Nat.le_trans (cK_le ts fs x 1 _) h) (Nat.le_trans (cK_le ts fs x 2 _) h) (Nat.le_trans (cK_le ts fs x 3 _) h)
theorem ratio_cmp {A B C D x y u v : Nat} (h1 : C * v = u * D) (h2 : A * y = x * B) (hB : 0 < B) (hD : 0 < D) (hv : 0 < v) (hy : 0 < y) : (A * D < C * B ↔ x * v < u * y) ∧ (C * B = A * D ↔ u * y = x * v) := by
  have e1 : (C * B) * (v * y) = (u * y) * (D * B) := by
    calc (C * B) * (v * y) = (C * v) * (B * y) := by ac_rfl
      _ = (u * D) * (B * y) := by rw [h1]
      _ = (u * y) * (D * B) := by ac_rfl
  have e2 : (A * D) * (v * y) = (x * v) * (D * B) := by
    calc (A * D) * (v * y) = (A * y) * (D * v) := by ac_rfl
      _ = (x * B) * (D * v) := by rw [h2]
      _ = (x * v) * (D * B) := by ac_rfl
  have k1 : 0 < v * y := Nat.mul_pos hv hy
  have k2 : 0 < D * B := Nat.mul_pos hD hB
  have hlt : ∀ p q a b : Nat, p * (v * y) = a * (D * B) → q * (v * y) = b * (D * B) → (p < q ↔ a < b) := fun p q a b hp hq => by
    constructor
    · intro h
      have := Nat.mul_lt_mul_of_pos_right h k1
      rw [hp, hq] at this
      exact Nat.lt_of_mul_lt_mul_right this
    · intro h
      have := Nat.mul_lt_mul_of_pos_right h k2
      rw [← hp, ← hq] at this
      exact Nat.lt_of_mul_lt_mul_right this
  have a1 := hlt _ _ _ _ e1 e2
  have a2 := hlt _ _ _ _ e2 e1
  exact ⟨a2, by omega⟩
/-- Line j stands ahead of line i, as the reference asks. -/
def ahead (ts : List Nat) (fs : List Bool) (i j : Nat) : Bool := decide (ra ts fs i * rb ts fs j < ra ts fs j * rb ts fs i) || (decide (ra ts fs j * rb ts fs i = ra ts fs i * rb ts fs j) && decide (j < i))
theorem ahead_LO (ts : List Nat) (fs : List Bool) (i j : Nat) : ahead ts fs i j = true ↔ LO ts fs j i := by
  have h := ratio_cmp (ra_ratio ts fs j) (ra_ratio ts fs i) (rb_pos ts fs i) (rb_pos ts fs j) (bt_pos ts fs j) (bt_pos ts fs i)
  unfold ahead LO
  simp only [Bool.or_eq_true, Bool.and_eq_true, decide_eq_true_eq]
  rw [h.1, h.2]
  constructor
  · rintro (h | ⟨h, k⟩)
    · exact .inl h
    · exact .inr ⟨h.symm, k⟩
  · rintro (h | ⟨h, k⟩)
    · exact .inl h
    · exact .inr ⟨h.symm, k⟩
/-- How many of the first so many stand ahead of line i. -/
def cntA (ts : List Nat) (fs : List Bool) (i : Nat) : Nat → Nat
  | 0 => 0
  | j + 1 => cntA ts fs i j + if ahead ts fs i j then 1 else 0
theorem cntA_le (ts : List Nat) (fs : List Bool) (i : Nat) : ∀ n, cntA ts fs i n ≤ n
  | 0 => Nat.le_refl _
  | n + 1 => by have := cntA_le ts fs i n; unfold cntA; split <;> omega
theorem cntA_self (ts : List Nat) (fs : List Bool) (i : Nat) : ahead ts fs i i = false := by
  unfold ahead; simp
theorem cntA_lt (ts : List Nat) (fs : List Bool) (i : Nat) : ∀ n, i < n → cntA ts fs i n < n
  | 0, h => by omega
  | n + 1, h => by
    unfold cntA
    by_cases e : i < n
    · have := cntA_lt ts fs i n e; split <;> omega
    · obtain rfl : i = n := by omega
      rw [cntA_self]
      have := cntA_le ts fs i i
      simp; omega
theorem cntA_filter (ts : List Nat) (fs : List Bool) (i : Nat) : ∀ n, cntA ts fs i n = ((List.range n).filter (ahead ts fs i)).length
  | 0 => rfl
  | n + 1 => by
    rw [List.range_succ, List.filter_append, List.length_append, ← cntA_filter ts fs i n, cntA]
    cases h : ahead ts fs i n <;> simp [h]
theorem onto_of {d : Nat → Nat} {n : Nat} (hv : Vals d n) (x : Nat) (hx : x < n) : ∃ p, p < n ∧ d p = x := by
  have hnd : ((List.range n).map d).Nodup := by
    unfold List.Nodup
    rw [List.pairwise_map]
    refine List.Pairwise.imp ?_ (List.pairwise_lt_range (n := n))
    intro a b hab e
    have := hv.2 a b e
    omega
  have hsub : ∀ y ∈ (List.range n).map d, y ∈ List.range n := fun y hy => by
    simp only [List.mem_map, List.mem_range] at hy ⊢
    obtain ⟨p, hp, rfl⟩ := hy
    exact hv.1 p hp
  have key : ∀ {L M : List Nat}, L.Nodup → (∀ y ∈ L, y ∈ M) → M.length ≤ L.length → ∀ y ∈ M, y ∈ L := by
    intro L
    induction L with
    | nil => intro M _ _ hl y hy; have := List.length_pos_of_mem hy; simp at hl; rw [hl] at hy; cases hy
    | cons z L ih =>
      intro M hn hs hl y hy
      have h1 := List.nodup_cons.1 hn
      by_cases e : y = z
      · rw [e]; exact List.mem_cons_self
      · have hz := hs z List.mem_cons_self
        have hle := List.length_erase_of_mem hz
        have hp := List.length_pos_of_mem hz
        refine List.mem_cons_of_mem _ (ih (M := M.erase z) h1.2 (fun u hu => ?_) ?_ y ((List.mem_erase_of_ne e).2 hy))
        · exact (List.mem_erase_of_ne (show u ≠ z from fun h => by rw [h] at hu; exact h1.1 hu)).2 (hs u (List.mem_cons_of_mem _ hu))
        · simp only [List.length_cons] at hl; omega
  have := key hnd hsub (by simp) x (by simpa using hx)
  simp only [List.mem_map, List.mem_range] at this
  obtain ⟨p, hp, h⟩ := this
  exact ⟨p, hp, h⟩
theorem before_of {L : Nat → Nat → Prop} (hL : Ord L) {d : Nat → Nat} {n p q : Nat} (hs : SortedR L d 0 n) (hp : p < n) (h : L (d p) (d q)) : p < q := by
  rcases Nat.lt_trichotomy p q with k | k | k
  · exact k
  · rw [k] at h; exact absurd h (fun h => hL.asymm _ _ h h)
  · exact absurd (hs q p (Nat.zero_le _) k hp) (hL.asymm _ _ h)
theorem cntA_place (ts : List Nat) (fs : List Bool) {d : Nat → Nat} {n : Nat} (hv : Vals d n) (hs : SortedR (LO ts fs) d 0 n) {p : Nat} (hp : p < n) : cntA ts fs (d p) n = p := by
  rw [cntA_filter]
  have h1 : ((List.range n).filter (ahead ts fs (d p))).Nodup := List.nodup_range.filter _
  have h2 : ((List.range p).map d).Nodup := by
    unfold List.Nodup
    rw [List.pairwise_map]
    refine List.Pairwise.imp ?_ (List.pairwise_lt_range (n := p))
    intro a b hab e
    have := hv.2 a b e
    omega
  have h3 : ((List.range n).filter (ahead ts fs (d p))).Perm ((List.range p).map d) := by
    rw [List.perm_ext_iff_of_nodup h1 h2]
    intro x
    simp only [List.mem_filter, List.mem_range, List.mem_map]
    constructor
    · rintro ⟨hx, ha⟩
      obtain ⟨q, hq, rfl⟩ := onto_of hv x hx
      exact ⟨q, before_of (LO_ord ts fs) hs hq ((ahead_LO ts fs _ _).1 ha), rfl⟩
    · rintro ⟨q, hq, rfl⟩
      exact ⟨hv.1 q (by omega), (ahead_LO ts fs _ _).2 (hs q p (Nat.zero_le _) hq hp)⟩
  rw [h3.length_eq]; simp
/-- The places as the reference fills them. -/
def ordL (ts : List Nat) (fs : List Bool) (n : Nat) : Nat → List Int
  | 0 => List.replicate n 0
  | i + 1 => (ordL ts fs n i).set (cntA ts fs i n) (i : Int)
theorem ordL_len (ts : List Nat) (fs : List Bool) (n : Nat) : ∀ i, (ordL ts fs n i).length = n
  | 0 => by simp [ordL]
  | i + 1 => by rw [ordL, List.length_set, ordL_len ts fs n i]
theorem ordL_get (ts : List Nat) (fs : List Bool) {d : Nat → Nat} {n : Nat} (hv : Vals d n) (hs : SortedR (LO ts fs) d 0 n) {p : Nat} (hp : p < n) : ∀ i, i ≤ n → (ordL ts fs n i)[p]? = some (if d p < i then ((d p : Nat) : Int) else 0)
  | 0, _ => by simp [ordL, hp]
  | i + 1, hi => by
    have ih := ordL_get ts fs hv hs hp i (by omega)
    obtain ⟨q, hq, hqi⟩ := onto_of hv i (by omega)
    have hc := cntA_place ts fs hv hs hq
    rw [hqi] at hc
    rw [ordL, hc, List.getElem?_set]
    by_cases e : q = p
    · subst e
      rw [if_pos rfl, if_pos (by rw [ordL_len]; exact hq), hqi, if_pos (by omega)]
    · rw [if_neg e, ih]
      have : d p ≠ i := fun h => e (hv.2 _ _ (by omega))
      by_cases h : d p < i
      · rw [if_pos h, if_pos (by omega)]
      · rw [if_neg h, if_neg (by omega)]
theorem ordL_eq (ts : List Nat) (fs : List Bool) {d : Nat → Nat} {n : Nat} (hv : Vals d n) (hs : SortedR (LO ts fs) d 0 n) : ordL ts fs n n = (List.range n).map fun p => ((d p : Nat) : Int) := by
  refine List.ext_getElem? fun p => ?_
  by_cases hp : p < n
  · rw [ordL_get ts fs hv hs hp n (Nat.le_refl _), if_pos (hv.1 p hp)]
    simp [hp]
  · rw [List.getElem?_eq_none (by rw [ordL_len]; omega), List.getElem?_eq_none (by simp; omega)]
end Go.Proofs.YthfiecakmlpdiaaDoor
