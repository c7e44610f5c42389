/- The number of a path: plain law, no program. No conditions. -/
import Derived.Test.YtppbaiilhaagdaaPathN
namespace Go.Mine.Path

/-- How many paths are ahead by one step. -/
def cost (es : List (Nat × Nat)) (n i j : Nat) : Nat := (if i + 1 = n then 1 else 0) + npSum es n ((succs es n i).filter fun k => decide (k < j))
theorem rk_cons (es : List (Nat × Nat)) (n i j : Nat) (r : List Nat) : rk es n (i :: j :: r) = cost es n i j + rk es n (j :: r) := rfl
theorem rk_snoc (es : List (Nat × Nat)) (n i j : Nat) : ∀ u : List Nat, rk es n (u ++ [i] ++ [j]) = rk es n (u ++ [i]) + cost es n i j
  | [] => by
    show rk es n [i, j] = rk es n [i] + _
    rw [rk_cons]
    show cost es n i j + 0 = 0 + cost es n i j
    omega
  | [a] => by
    show rk es n [a, i, j] = rk es n [a, i] + _
    rw [rk_cons, rk_cons, rk_cons]
    show cost es n a i + (cost es n i j + 0) = cost es n a i + 0 + cost es n i j
    omega
  | a :: b :: r => by
    have ih := rk_snoc es n i j (b :: r)
    show rk es n (a :: b :: (r ++ [i] ++ [j])) = rk es n (a :: b :: (r ++ [i])) + _
    rw [rk_cons, rk_cons]
    have e1 : (b :: r) ++ [i] ++ [j] = b :: (r ++ [i] ++ [j]) := rfl
    have e2 : (b :: r) ++ [i] = b :: (r ++ [i]) := rfl
    rw [e1, e2] at ih
    omega
theorem cost_le (es : List (Nat × Nat)) (n i j : Nat) (hn : n ≤ 12) : cost es n i j ≤ 21505924728445 := by
  unfold cost
  have h1 := npSum_le es n hn ((succs es n i).filter fun k => decide (k < j))
  have h2 := List.length_filter_le (fun k => decide (k < j)) (succs es n i)
  have h3 := succs_len es n i
  split <;> omega
theorem rk_le (es : List (Nat × Nat)) (n : Nat) (hn : n ≤ 12) : ∀ u : List Nat, rk es n u ≤ u.length * 21505924728445
  | [] => by simp [rk]
  | [_] => by simp [rk]
  | i :: j :: r => by
    have h1 := rk_le es n hn (j :: r)
    have h2 := cost_le es n i j hn
    rw [rk_cons, List.length_cons, Nat.succ_mul]
    omega
theorem filt_succ (es : List (Nat × Nat)) (n y t : Nat) (l : List Nat) (ht : t < l.length) : npSum es n ((l.take (t + 1)).filter fun k => decide (k < y)) = npSum es n ((l.take t).filter fun k => decide (k < y)) + if l.getD t 0 < y then np es n (l.getD t 0) else 0 := by
  rw [List.take_succ_eq_append_getElem ht, List.filter_append, npSum_append]
  have e : l.getD t 0 = l[t] := by simp [ht]
  rw [e]
  by_cases h : l[t] < y
  · rw [if_pos h, List.filter_cons_of_pos (by simpa using h)]; simp [npSum]
  · rw [if_neg h, List.filter_cons_of_neg (by simpa using h)]; simp [npSum]
theorem filt_le (es : List (Nat × Nat)) (n i y t : Nat) (hn : n ≤ 12) : npSum es n (((succs es n i).take t).filter fun k => decide (k < y)) ≤ 21505924728444 := by
  have h1 := npSum_le es n hn (((succs es n i).take t).filter fun k => decide (k < y))
  have h2 := List.length_filter_le (fun k => decide (k < y)) ((succs es n i).take t)
  have h3 := succs_len es n i
  have h4 : ((succs es n i).take t).length ≤ (succs es n i).length := by simp; omega
  omega
/-- A way so far: its first nodes go along edges. -/
structure So (es : List (Nat × Nat)) (n : Nat) (way : List Int) (q i : Nat) (u : List Nat) : Prop where
  lt : i < n
  good : Good es i
  len : u.length = q
  here : way.take (q + 1) = (u ++ [i]).map fun k : Nat => (k : Int)
  walk : Walk es (u ++ [i])
  head : (u ++ [i]).head? = some 0
theorem So.short {es : List (Nat × Nat)} {n q i : Nat} {way : List Int} {u : List Nat} (h : So es n way q i u) (hes : ∀ e ∈ es, e.1 < n ∧ e.2 < n) (hg0 : Good es 0) (hn : 0 < n) : q + 1 ≤ n := by
  have h1 := h.walk
  have h2 := h.head
  have h3 := h.len
  cases hp : u ++ [i] with
  | nil => simp at hp
  | cons a r =>
    rw [hp] at h1 h2
    simp at h2
    subst h2
    have := h1.short hes hg0 hn
    rw [← hp] at this
    simp at this
    omega
theorem So.next {es : List (Nat × Nat)} {n q i j : Nat} {way : List Int} {u : List Nat} (h : So es n way q i u) (hq : q + 1 < way.length) (hj : way.getD (q + 1) 0 = (j : Int)) (hm : j ∈ succs es n i) : So es n way (q + 1) j (u ++ [i]) := by
  have hm' := mem_succs.1 hm
  refine ⟨hm'.1, h.good.next hm'.2, by simp [h.len], ?_, walk_snoc h.walk hm'.2, ?_⟩
  · rw [List.take_succ_eq_append_getElem hq, h.here]
    have : way[q + 1] = (j : Int) := by simpa [hq] using hj
    rw [this]
    simp
  · have := h.head
    cases hc : u ++ [i] with
    | nil => simp at hc
    | cons a r => rw [hc] at this; simpa using this
/-- No path is this way. -/
def NoPath (es : List (Nat × Nat)) (n : Nat) (way : List Int) : Prop := ∀ w : List Nat, way = w.map (fun k : Nat => (k : Int)) → ¬ IsPath es n 0 w
theorem nat_inj : ∀ {u v : List Nat}, u.map (fun k : Nat => (k : Int)) = v.map (fun k : Nat => (k : Int)) → u = v
  | [], [], _ => rfl
  | [], _ :: _, h => by simp at h
  | _ :: _, [], h => by simp at h
  | a :: u, b :: v, h => by
    simp at h
    rw [nat_inj h.2, show a = b by omega]
theorem walk_pair {es : List (Nat × Nat)} : ∀ {w : List Nat} {q a b : Nat}, Walk es w → w[q]? = some a → w[q + 1]? = some b → (a, b) ∈ es
  | [], _, _, _, h, _, _ => absurd h (by simp [Walk])
  | [_], q, _, _, _, _, h2 => by simp at h2
  | x :: y :: r, 0, a, b, h, h1, h2 => by simp at h1 h2; subst h1 h2; exact h.1
  | x :: y :: r, q + 1, a, b, h, h1, h2 => walk_pair (w := y :: r) h.2 (by simpa using h1) (by simpa using h2)
theorem So.none {es : List (Nat × Nat)} {n q i : Nat} {way : List Int} {u : List Nat} (h : So es n way q i u) (hes : ∀ e ∈ es, e.1 < n ∧ e.2 < n) (hq : q + 1 < way.length) (hno : way.getD (q + 1) 0 ∉ sc es n i) : NoPath es n way := by
  intro w hw hp
  have h1 := h.here
  rw [hw, ← List.map_take] at h1
  have h2 := nat_inj h1
  have hl : way.length = w.length := by rw [hw]; simp
  have e1 : w[q]? = some i := by
    have : (w.take (q + 1))[q]? = (u ++ [i])[q]? := by rw [h2]
    rw [List.getElem?_take_of_lt (by omega), List.getElem?_append_right (by rw [h.len]; exact Nat.le_refl _), h.len] at this
    simpa using this
  have hq2 : q + 1 < w.length := by omega
  have e2 : w[q + 1]? = some w[q + 1] := List.getElem?_eq_getElem hq2
  have he := walk_pair hp.walk e1 e2
  refine hno (mem_sc.2 ⟨w[q + 1], ?_, (hes _ he).2, he⟩)
  have : way.getD (q + 1) 0 = ((w.map fun k : Nat => (k : Int)).getD (q + 1) 0) := by rw [hw]
  rw [this]
  simp [hq2]
theorem So.path {es : List (Nat × Nat)} {n q i : Nat} {way : List Int} {u : List Nat} (h : So es n way q i u) (hes : ∀ e ∈ es, e.1 < n ∧ e.2 < n) (hn : 0 < n) (hq : q + 1 = way.length) (hl : way.getD q 0 = (n : Int) - 1) : way = (u ++ [i]).map (fun k : Nat => (k : Int)) ∧ IsPath es n 0 (u ++ [i]) := by
  have h1 := h.here
  rw [hq, List.take_length] at h1
  refine ⟨h1, ?_⟩
  have h2 := h.head
  have h3 := h.walk
  have hi : i = n - 1 := by
    have : way.getD q 0 = (i : Int) := by
      rw [h1]
      simp [List.getD_eq_getElem?_getD, h.len]
    omega
  cases hc : u ++ [i] with
  | nil => simp at hc
  | cons a r =>
    rw [hc] at h2 h3
    simp at h2
    subst h2
    refine isPath_of_walk hes hn h3 ?_
    rw [← hc]
    simp [hi]
theorem noPath_ends {es : List (Nat × Nat)} {n : Nat} {way : List Int} (h : way = [] ∨ way.getD 0 0 ≠ 0 ∨ way.getD (way.length - 1) 0 ≠ (n : Int) - 1) (hn : 0 < n) : NoPath es n way := by
  intro w hw hp
  obtain ⟨r, rfl⟩ := hp.start
  have he := hp.end_
  have hl : way.length = r.length + 1 := by rw [hw]; simp
  rcases h with h | h | h
  · rw [h] at hl; simp at hl
  · refine h ?_
    rw [hw]; simp
  · refine h ?_
    rw [hl, hw]
    rw [List.getLast?_eq_getElem?] at he
    simp only [List.length_cons] at he
    rw [List.getD_eq_getElem?_getD, List.getElem?_map]
    rw [show r.length + 1 - 1 = r.length by omega] at he ⊢
    rw [he]
    simp
    omega
end Go.Mine.Path
