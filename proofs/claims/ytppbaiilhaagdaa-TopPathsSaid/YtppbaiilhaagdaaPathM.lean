/- Counting paths by visits: plain law, no program. No conditions. -/
import Derived.Test.YtppbaiilhaagdaaPathP
import Derived.Test.YtppbaiilhaagdaaSortP
namespace Go.Mine.Path

/-- The next nodes as they stand, and rising. -/
def rawR (es : List (Nat × Nat)) (i : Nat) : List Int := (es.filter fun e => decide (e.1 = i)).map fun e => (e.2 : Int)
def sc (es : List (Nat × Nat)) (n i : Nat) : List Int := (succs es n i).map fun k : Nat => (k : Int)
theorem sc_len (es : List (Nat × Nat)) (n i : Nat) : (sc es n i).length ≤ n := by unfold sc; rw [List.length_map]; exact succs_len es n i
theorem sc_rise (es : List (Nat × Nat)) (n i : Nat) : Rise (sc es n i) := by
  unfold Rise sc
  rw [List.pairwise_map]
  exact (succs_sorted es n i).imp fun h => by omega
theorem mem_sc {es : List (Nat × Nat)} {n i : Nat} {x : Int} : x ∈ sc es n i ↔ ∃ k : Nat, x = k ∧ k < n ∧ (i, k) ∈ es := by
  unfold sc
  simp only [List.mem_map, mem_succs]
  constructor
  · rintro ⟨k, ⟨h1, h2⟩, rfl⟩; exact ⟨k, rfl, h1, h2⟩
  · rintro ⟨k, rfl, h1, h2⟩; exact ⟨k, ⟨h1, h2⟩, rfl⟩
theorem mem_raw {es : List (Nat × Nat)} {i : Nat} {x : Int} : x ∈ rawR es i ↔ ∃ k : Nat, x = k ∧ (i, k) ∈ es := by
  unfold rawR
  simp only [List.mem_map, List.mem_filter, decide_eq_true_eq]
  constructor
  · rintro ⟨⟨a, b⟩, ⟨h1, h2⟩, rfl⟩; simp only at h2; subst h2; exact ⟨b, rfl, h1⟩
  · rintro ⟨k, rfl, h⟩; exact ⟨(i, k), ⟨h, rfl⟩, rfl⟩
theorem raw_nodup {es : List (Nat × Nat)} (h : es.Nodup) (i : Nat) : (rawR es i).Nodup := by
  unfold rawR List.Nodup
  rw [List.pairwise_map]
  have h1 : (es.filter fun e => decide (e.1 = i)).Pairwise (· ≠ ·) := List.Pairwise.filter _ h
  refine List.Pairwise.imp_of_mem ?_ h1
  rintro ⟨a, b⟩ ⟨c, d⟩ ha hc hne e
  simp only [List.mem_filter, decide_eq_true_eq] at ha hc
  simp only at e
  exact hne (by rw [ha.2, hc.2]; congr 1; omega)
theorem raw_len (es : List (Nat × Nat)) (i : Nat) : (rawR es i).length ≤ es.length := by unfold rawR; rw [List.length_map]; exact List.length_filter_le _ _
theorem sort_rise {l : List Int} (h : l.Nodup) : Rise (l.mergeSort fun x y => decide (x ≤ y)) := by
  have h1 : (l.mergeSort fun x y => decide (x ≤ y)).Pairwise fun a b => decide (a ≤ b) = true := List.pairwise_mergeSort (fun a b c => by simp; omega) (fun a b => by simp; omega) l
  have h2 : (l.mergeSort fun x y => decide (x ≤ y)).Nodup := (List.mergeSort_perm l _).nodup_iff.2 h
  unfold Rise
  refine (List.Pairwise.and h1 h2).imp ?_
  rintro a b ⟨h1, h2⟩
  simp at h1
  omega
theorem sort_raw {es : List (Nat × Nat)} {n : Nat} (hes : ∀ e ∈ es, e.1 < n ∧ e.2 < n) (hnd : es.Nodup) (i : Nat) : ((rawR es i).mergeSort fun x y => decide (x ≤ y)) = sc es n i := by
  refine rise_ext (sort_rise (raw_nodup hnd i)) (sc_rise es n i) fun x => ?_
  rw [(List.mergeSort_perm (rawR es i) _).mem_iff, mem_raw, mem_sc]
  constructor
  · rintro ⟨k, rfl, h⟩; exact ⟨k, rfl, (hes _ h).2, h⟩
  · rintro ⟨k, rfl, _, h⟩; exact ⟨k, rfl, h⟩
theorem raw_len_le {es : List (Nat × Nat)} {n : Nat} (hes : ∀ e ∈ es, e.1 < n ∧ e.2 < n) (hnd : es.Nodup) (i : Nat) : (rawR es i).length ≤ n := by
  have h := congrArg List.length (sort_raw hes hnd i)
  rw [List.length_mergeSort] at h
  have := sc_len es n i
  omega

def upd {α : Type} (f : Nat → α) (i : Nat) (v : α) : Nat → α := fun j => if j = i then v else f j
theorem upd_same {α : Type} (f : Nat → α) (i : Nat) (v : α) : upd f i v i = v := by simp [upd]
theorem upd_ne {α : Type} (f : Nat → α) {i j : Nat} (v : α) (h : j ≠ i) : upd f i v j = f j := by simp [upd, h]
/-- Nodes not yet come to. -/
def unv (n : Nat) (op : Nat → Bool) (ps : Nat → Int) : Nat := ((List.range n).filter fun j => !op j && decide (ps j < 0)).length
theorem unv_le {n : Nat} {op op' : Nat → Bool} {ps ps' : Nat → Int} (h1 : ∀ j, op j = true → op' j = true) (h2 : ∀ j, 0 ≤ ps j → 0 ≤ ps' j) : unv n op' ps' ≤ unv n op ps := by
  unfold unv
  refine (filter_sub (fun j hj => ?_) _).length_le
  simp only [Bool.and_eq_true, Bool.not_eq_true', decide_eq_true_eq] at hj ⊢
  refine ⟨?_, ?_⟩
  · cases h : op j with
    | false => rfl
    | true => rw [h1 j h] at hj; cases hj.1
  · rcases Int.lt_or_le (ps j) 0 with h | h
    · exact h
    · have := h2 j h; omega
theorem unv_lt {n : Nat} {op : Nat → Bool} {ps : Nat → Int} {i : Nat} (hi : i < n) (h1 : op i = false) (h2 : ps i < 0) : unv n (upd op i true) ps < unv n op ps := by
  have key : ∀ l : List Nat, i ∈ l → (l.filter fun j => !upd op i true j && decide (ps j < 0)).length < (l.filter fun j => !op j && decide (ps j < 0)).length := by
    intro l
    induction l with
    | nil => intro h; cases h
    | cons a l ih =>
      intro h
      have hle : (l.filter fun j => !upd op i true j && decide (ps j < 0)).length ≤ (l.filter fun j => !op j && decide (ps j < 0)).length := by
        refine (filter_sub (fun j hj => ?_) _).length_le
        by_cases e : j = i
        · subst e; rw [upd_same] at hj; simp at hj
        · rw [upd_ne _ _ e] at hj; exact hj
      by_cases e : a = i
      · subst e
        rw [List.filter_cons_of_neg (by rw [upd_same]; simp), List.filter_cons_of_pos (by simp [h1, h2]), List.length_cons]
        omega
      · have hm : i ∈ l := by
          rcases List.mem_cons.1 h with h | h
          · exact absurd h.symm e
          · exact h
        have := ih hm
        cases hc : (!op a && decide (ps a < 0)) with
        | true => rw [List.filter_cons_of_pos (by rw [upd_ne _ _ e]; exact hc), List.filter_cons_of_pos (p := fun j => !op j && decide (ps j < 0)) hc, List.length_cons, List.length_cons]; omega
        | false => rw [List.filter_cons_of_neg (by rw [upd_ne _ _ e, hc]; simp), List.filter_cons_of_neg (p := fun j => !op j && decide (ps j < 0)) (by rw [hc]; simp)]; exact this
  exact key _ (List.mem_range.2 hi)

/-- How it stands with the numbers and the rows. -/
structure PInv (es : List (Nat × Nat)) (n : Nat) (op : Nat → Bool) (ps : Nat → Int) (rows : Nat → List Int) : Prop where
  num : ∀ j, j < n → ps j = -1 ∨ (ps j = (np es n j : Nat) ∧ Good es j ∧ op j = false)
  seen : ∀ j, j < n → (op j = true ∨ 0 ≤ ps j) → rows j = sc es n j
  raw : ∀ j, j < n → op j = false → ps j < 0 → rows j = rawR es j
theorem PInv.mark {es : List (Nat × Nat)} {n : Nat} {op : Nat → Bool} {ps : Nat → Int} {rows : Nat → List Int} (h : PInv es n op ps rows) {i : Nat} (_hi : i < n) (_h1 : op i = false) (h2 : ps i < 0) : PInv es n (upd op i true) ps (upd rows i (sc es n i)) := by
  refine ⟨fun j hj => ?_, fun j hj hs => ?_, fun j hj ho hp => ?_⟩
  · by_cases e : j = i
    · subst e
      rcases h.num j hj with h | ⟨h, _⟩
      · exact .inl h
      · omega
    · rw [upd_ne _ _ e]; exact h.num j hj
  · by_cases e : j = i
    · subst e; rw [upd_same]
    · rw [upd_ne _ _ e] at hs ⊢; exact h.seen j hj hs
  · by_cases e : j = i
    · subst e; rw [upd_same] at ho; cases ho
    · rw [upd_ne _ _ e] at ho ⊢; exact h.raw j hj ho hp
theorem PInv.fin {es : List (Nat × Nat)} {n : Nat} {op : Nat → Bool} {ps : Nat → Int} {rows : Nat → List Int} {i : Nat} (h : PInv es n (upd op i true) ps rows) (hi : i < n) (ho : op i = false) (hes : ∀ e ∈ es, e.1 < n ∧ e.2 < n) (hd : ∀ k, k ∈ succs es n i → 0 ≤ ps k) {v : Int} (hv : v = (np es n i : Nat)) :
    PInv es n op (upd ps i v) rows := by
  have hg : Good es i := Good.mk fun k he => by
    have hk := (hes _ he).2
    have := hd k (mem_succs.2 ⟨hk, he⟩)
    rcases h.num k hk with h | ⟨_, h, _⟩
    · omega
    · exact h
  refine ⟨fun j hj => ?_, fun j hj hs => ?_, fun j hj ho2 hp => ?_⟩
  · by_cases e : j = i
    · subst e; rw [upd_same]; exact .inr ⟨hv, hg, ho⟩
    · rw [upd_ne _ _ e]
      have := h.num j hj
      rwa [upd_ne _ _ e] at this
  · by_cases e : j = i
    · subst e; exact h.seen j hj (.inl (upd_same _ _ _))
    · rw [upd_ne _ _ e] at hs
      exact h.seen j hj (by rw [upd_ne _ _ e]; exact hs)
  · by_cases e : j = i
    · subst e; rw [upd_same] at hp; omega
    · rw [upd_ne _ _ e] at hp
      exact h.raw j hj (by rw [upd_ne _ _ e]; exact ho2) hp
theorem np_of_done {es : List (Nat × Nat)} {n : Nat} {op : Nat → Bool} {ps : Nat → Int} {rows : Nat → List Int} (h : PInv es n op ps rows) {j : Nat} (hj : j < n) (hd : 0 ≤ ps j) : ps j = (np es n j : Nat) ∧ Good es j ∧ op j = false := by
  rcases h.num j hj with e | e
  · omega
  · exact e
theorem take_sum (es : List (Nat × Nat)) (n i q : Nat) (hq : q < (succs es n i).length) : npSum es n ((succs es n i).take (q + 1)) = npSum es n ((succs es n i).take q) + np es n ((succs es n i).getD q 0) := by
  rw [List.take_succ_eq_append_getElem hq, npSum_append]
  simp [npSum, hq]
end Go.Mine.Path
