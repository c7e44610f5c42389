/- The path of a number, node by node: plain law, no program. No conditions. -/
import Derived.Test.YtppbaiilhaagdaaPathM
namespace Go.Mine.Path

/-- The paths that go on from i by these. -/
def fl (es : List (Nat × Nat)) (n i : Nat) (ks : List Nat) : List (List Nat) := ks.flatMap fun k => (paths es n k).map (i :: ·)
theorem fl_nil (es : List (Nat × Nat)) (n i : Nat) : fl es n i [] = [] := rfl
theorem fl_cons (es : List (Nat × Nat)) (n i k : Nat) (ks : List Nat) : fl es n i (k :: ks) = (paths es n k).map (i :: ·) ++ fl es n i ks := by simp [fl]
theorem nth_first {es : List (Nat × Nat)} {n i k : Nat} {p : List Nat} (hes : ∀ e ∈ es, e.1 < n ∧ e.2 < n) (hg : Good es i) (hi : i < n) (h : (paths es n i)[k]? = some p) :
    (i + 1 = n ∧ k = 0 ∧ p = [i]) ∨ ∃ k', ((i + 1 = n ∧ k = k' + 1) ∨ (i + 1 ≠ n ∧ k = k')) ∧ (fl es n i (succs es n i))[k']? = some p := by
  rw [paths_eq hes hg hi] at h
  by_cases e : i + 1 = n
  · rw [if_pos e] at h
    cases k with
    | zero => left; simp at h; exact ⟨e, rfl, h.symm⟩
    | succ k => right; simp at h; exact ⟨k, .inl ⟨e, rfl⟩, h⟩
  · rw [if_neg e, List.nil_append] at h
    exact .inr ⟨k, .inr ⟨e, rfl⟩, h⟩
theorem nth_step {es : List (Nat × Nat)} {n i j k : Nat} {ks : List Nat} {p : List Nat} (h : (fl es n i (j :: ks))[k]? = some p) :
    (k < np es n j ∧ ∃ p', p = i :: p' ∧ (paths es n j)[k]? = some p') ∨ (np es n j ≤ k ∧ (fl es n i ks)[k - np es n j]? = some p) := by
  rw [fl_cons] at h
  by_cases hk : k < np es n j
  · left
    rw [List.getElem?_append_left (by simpa [np] using hk), List.getElem?_map] at h
    refine ⟨hk, ?_⟩
    cases hp : (paths es n j)[k]? with
    | none => rw [hp] at h; cases h
    | some p' => rw [hp] at h; simp at h; exact ⟨p', h.symm, rfl⟩
  · right
    rw [List.getElem?_append_right (by rw [List.length_map]; unfold np at hk; omega), List.length_map] at h
    exact ⟨by omega, h⟩
theorem drop_cons {l : List Nat} {q : Nat} (hq : q < l.length) : l.drop q = l.getD q 0 :: l.drop (q + 1) := by
  rw [List.drop_eq_getElem_cons hq]; simp [hq]
theorem walk_snoc {es : List (Nat × Nat)} : ∀ {w : List Nat} {i j : Nat}, Walk es (w ++ [i]) → (i, j) ∈ es → Walk es (w ++ [i] ++ [j])
  | [], _, _, _, he => ⟨he, trivial⟩
  | [_], _, _, h, he => ⟨h.1, he, trivial⟩
  | _ :: b :: r, _, _, h, he => ⟨h.1, walk_snoc (w := b :: r) h.2 he⟩
/-- Where one stands on the way of the path of number K. -/
structure On (es : List (Nat × Nat)) (n K i k : Nat) (pre p : List Nat) : Prop where
  lt : i < n
  good : Good es i
  here : (paths es n i)[k]? = some p
  all : (paths es n 0)[K]? = some (pre ++ p)
  walk : Walk es (pre ++ [i])
  head : (pre ++ [i]).head? = some 0
theorem On.start {es : List (Nat × Nat)} {n K : Nat} {p : List Nat} (hn : 0 < n) (hg : Good es 0) (h : (paths es n 0)[K]? = some p) : On es n K 0 K [] p := ⟨hn, hg, h, h, trivial, rfl⟩
theorem On.short {es : List (Nat × Nat)} {n K i k : Nat} {pre p : List Nat} (h : On es n K i k pre p) (hes : ∀ e ∈ es, e.1 < n ∧ e.2 < n) (hg0 : Good es 0) (hn : 0 < n) : pre.length + 1 ≤ n := by
  have h1 := h.walk
  have h2 := h.head
  cases hp : pre ++ [i] with
  | nil => simp at hp
  | cons a r =>
    rw [hp] at h1 h2
    simp at h2
    subst h2
    have := h1.short hes hg0 hn
    rw [← hp] at this
    simpa using this
theorem On.last {es : List (Nat × Nat)} {n K i : Nat} {pre p : List Nat} (h : On es n K i 0 pre p) (hp : p = [i]) : (paths es n 0)[K]? = some (pre ++ [i]) := by
  have := h.all
  rw [hp] at this
  exact this
theorem On.next {es : List (Nat × Nat)} {n K i k j k' : Nat} {pre p p' : List Nat} (h : On es n K i k pre p) (hp : p = i :: p') (hj : j ∈ succs es n i) (hk : (paths es n j)[k']? = some p') : On es n K j k' (pre ++ [i]) p' := by
  have hm := mem_succs.1 hj
  refine ⟨hm.1, h.good.next hm.2, hk, ?_, walk_snoc h.walk hm.2, ?_⟩
  · have := h.all
    rw [hp] at this
    rw [this]
    simp
  · have := h.head
    cases hc : pre ++ [i] with
    | nil => simp at hc
    | cons a r => rw [hc] at this; simpa using this
end Go.Mine.Path
