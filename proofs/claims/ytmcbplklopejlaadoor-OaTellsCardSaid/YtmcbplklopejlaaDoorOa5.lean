/- Each pair just once, counted: what the statement counts is what the program asks. Plain lists, no program. -/
import Derived.Test.YtmcbplklopejlaaDoorOa4
namespace Go.Mine
open Go

theorem nodup_len {α : Type} [DecidableEq α] : ∀ {L M : List α}, L.Nodup → (∀ x ∈ L, x ∈ M) → L.length ≤ M.length
  | [], _, _, _ => Nat.zero_le _
  | x :: L, M, hn, hs => by
    rw [List.nodup_cons] at hn
    have hx := hs x (by simp)
    have h := nodup_len (L := L) (M := M.erase x) hn.2 (fun y hy => (List.mem_erase_of_ne (fun e => by subst e; exact hn.1 hy)).2 (hs y (List.mem_cons_of_mem _ hy)))
    rw [List.length_erase_of_mem hx] at h
    have := List.length_pos_of_mem hx
    rw [List.length_cons]
    omega
theorem full_mem {L : List Nat} {N : Nat} (hn : L.Nodup) (hl : L.length = N) (hb : ∀ x ∈ L, x < N) {x : Nat} (hx : x < N) : x ∈ L := by
  rcases Classical.em (x ∈ L) with h | h
  · exact h
  · have := nodup_len (L := x :: L) (M := List.range N) (List.nodup_cons.2 ⟨h, hn⟩) (fun y hy => by
      rcases List.mem_cons.1 hy with rfl | hy
      · exact List.mem_range.2 hx
      · exact List.mem_range.2 (hb y hy))
    rw [List.length_cons, List.length_range] at this
    omega
/-- A row holds this pair at these places. -/
def oaHit (n a b x : Nat) (r : List Int) : Bool := decide (r.getD a 0 = (x / n : Nat)) && decide (r.getD b 0 = (x % n : Nat))
def oaCode (n a b : Nat) (r : List Int) : Nat := (r.getD a 0).toNat * n + (r.getD b 0).toNat
theorem form_get {n : Nat} {r : List Int} (h : r.length = n + 1 ∧ ∀ z ∈ r, 0 ≤ z ∧ z < n) {a : Nat} (ha : a < n + 1) : 0 ≤ r.getD a 0 ∧ r.getD a 0 < n :=
  h.2 _ (by simp [show a < r.length by omega])
theorem oaCode_lt {n : Nat} {r : List Int} (h : r.length = n + 1 ∧ ∀ z ∈ r, 0 ≤ z ∧ z < n) {a b : Nat} (ha : a < n + 1) (hb : b < n + 1) : oaCode n a b r < n * n := by
  have h1 := form_get h ha
  have h2 := form_get h hb
  unfold oaCode
  have h3 := Nat.mul_le_mul_right n (show (r.getD a 0).toNat + 1 ≤ n by omega)
  rw [Nat.add_mul, Nat.one_mul] at h3
  omega
theorem oaHit_iff {n : Nat} {r : List Int} (h : r.length = n + 1 ∧ ∀ z ∈ r, 0 ≤ z ∧ z < n) {a b x : Nat} (ha : a < n + 1) (hb : b < n + 1) : oaHit n a b x r = true ↔ oaCode n a b r = x := by
  have h1 := form_get h ha
  have h2 := form_get h hb
  unfold oaHit oaCode
  rw [Bool.and_eq_true, decide_eq_true_iff, decide_eq_true_iff]
  obtain ⟨u, hu⟩ := Int.eq_ofNat_of_zero_le h1.1
  obtain ⟨v, hv⟩ := Int.eq_ofNat_of_zero_le h2.1
  rw [hu] at h1 ⊢
  rw [hv] at h2 ⊢
  have hv' : v < n := by omega
  have e := oa_at (q := n) (x := u) hv'
  constructor
  · rintro ⟨e1, e2⟩
    have e1' : u = x / n := by exact_mod_cast e1
    have e2' : v = x % n := by exact_mod_cast e2
    have := Nat.div_add_mod x n
    rw [Int.toNat_natCast, Int.toNat_natCast, e1', e2', Nat.mul_comm]
    exact this
  · intro e0
    rw [Int.toNat_natCast, Int.toNat_natCast] at e0
    rw [← e0, e.1, e.2]
    exact ⟨rfl, rfl⟩
theorem count_code {n : Nat} {rows : List (List Int)} (hf : oaForm n rows) {a b : Nat} (ha : a < n + 1) (hb : b < n + 1) (x : Nat) : rows.countP (oaHit n a b x) = (rows.map (oaCode n a b)).count x := by
  rw [List.count_eq_countP, List.countP_map]
  refine List.countP_congr (fun r hr => ?_)
  rw [oaHit_iff (hf r hr) ha hb]
  simp
/-- Each pair is there just once. -/
def oaRight (n : Nat) (rows : List (List Int)) : Prop := ∀ a, a < n + 1 → ∀ b, b < a → ∀ x, x < n * n → rows.countP (oaHit n a b x) = 1
theorem mem_keysR_of {r : List Int} {a b : Nat} (hb : b < a) (ha : a < r.length) : keyAt r a b ∈ keysR r r.length 0 := by
  unfold keysR
  simp only [List.range_zero, List.map_nil, List.append_nil, List.mem_flatMap, List.mem_map, List.mem_range]
  exact ⟨a, ha, b, hb, rfl⟩
theorem far_of_once {rows : List (List Int)} (h : oaOnce rows) : rows.Pairwise Far := by
  unfold oaOnce keysOf List.Nodup at h
  rw [List.pairwise_flatMap] at h
  refine h.2.imp fun {r s} hf a b hb ha ha' h1 h2 => ?_
  refine hf _ (mem_keysR_of hb ha) _ (mem_keysR_of hb ha') ?_
  unfold keyAt
  rw [h1, h2]
theorem oaRight_iff {n : Nat} {rows : List (List Int)} (hf : oaForm n rows) (hn : 2 ≤ n) : oaRight n rows ↔ oaOnce rows ∧ rows.length = n * n := by
  have hlt : ∀ a b, a < n + 1 → b < n + 1 → ∀ y ∈ rows.map (oaCode n a b), y < n * n := fun a b ha hb y hy => by
    obtain ⟨r, hr, rfl⟩ := List.mem_map.1 hy
    exact oaCode_lt (hf r hr) ha hb
  constructor
  · intro h
    have hone : ∀ a, a < n + 1 → ∀ b, b < a → (rows.map (oaCode n a b)).Nodup := fun a ha b hb => by
      rw [List.nodup_iff_count]
      intro x
      by_cases hx : x ∈ rows.map (oaCode n a b)
      · rw [← count_code hf ha (by omega), h a ha b hb x (hlt a b ha (by omega) x hx)]
        exact Nat.le_refl _
      · rw [List.count_eq_zero.2 hx]; omega
    refine ⟨once_of_far ?_, ?_⟩
    · rw [List.pairwise_iff_getElem]
      intro i j hi hj hij a b hb ha _ h1 h2
      have hfi := hf rows[i] (List.getElem_mem hi)
      have han : a < n + 1 := by rw [← hfi.1]; exact ha
      have hnd := hone a han b hb
      have e : oaCode n a b rows[i] = oaCode n a b rows[j] := by unfold oaCode; rw [h1, h2]
      have := (List.getElem_inj (xs := rows.map (oaCode n a b)) (i := i) (j := j) (h₀ := by simpa using hi) (h₁ := by simpa using hj) hnd).1 (by simpa using e)
      omega
    · have hnd := hone 1 (by omega) 0 (by omega)
      have h1 := nodup_len (M := List.range (n * n)) hnd (fun y hy => List.mem_range.2 (hlt 1 0 (by omega) (by omega) y hy))
      have h2 := nodup_len (L := List.range (n * n)) (M := rows.map (oaCode n 1 0)) List.nodup_range (fun x hx => by
        have hc := h 1 (by omega) 0 (by omega) x (List.mem_range.1 hx)
        rw [count_code hf (by omega) (by omega)] at hc
        exact List.count_pos_iff.1 (by omega))
      simp only [List.length_range, List.length_map] at h1 h2
      omega
  · rintro ⟨ho, hl⟩ a ha b hb x hx
    have hfar := far_of_once ho
    have hnd : (rows.map (oaCode n a b)).Nodup := by
      unfold List.Nodup
      rw [List.pairwise_map]
      refine (List.Pairwise.and_mem.1 hfar).imp fun {r s} hrs e => ?_
      obtain ⟨hr, hs, hf2⟩ := hrs
      have fr := hf r hr
      have fs := hf s hs
      refine hf2 a b hb (by omega) (by omega) ?_ ?_
      · have := (oaHit_iff fr (x := oaCode n a b s) ha (by omega : b < n + 1)).2 e
        have h2 := (oaHit_iff fs (x := oaCode n a b s) ha (by omega : b < n + 1)).2 rfl
        unfold oaHit at this h2
        simp only [Bool.and_eq_true, decide_eq_true_eq] at this h2
        rw [this.1, h2.1]
      · have := (oaHit_iff fr (x := oaCode n a b s) ha (by omega : b < n + 1)).2 e
        have h2 := (oaHit_iff fs (x := oaCode n a b s) ha (by omega : b < n + 1)).2 rfl
        unfold oaHit at this h2
        simp only [Bool.and_eq_true, decide_eq_true_eq] at this h2
        rw [this.2, h2.2]
    rw [count_code hf ha (by omega)]
    have hm := full_mem hnd (by simpa using hl) (hlt a b ha (by omega)) hx
    have h1 := List.nodup_iff_count.1 hnd x
    have h2 := List.count_pos_iff.2 hm
    omega
end Go.Mine
