/- Paths of a graph by numbers: plain law, no program. No conditions. -/
namespace Go.Mine.Path

/-- One comes from a to b, by no edge or by some. -/
inductive Rch (es : List (Nat × Nat)) : Nat → Nat → Prop
  | refl (a : Nat) : Rch es a a
  | step {a b c : Nat} : Rch es a b → (b, c) ∈ es → Rch es a c
theorem Rch.trans {es : List (Nat × Nat)} {a b c : Nat} (h : Rch es a b) (k : Rch es b c) : Rch es a c := by
  induction k with
  | refl => exact h
  | step _ he ih => exact ih.step he
theorem Rch.head {es : List (Nat × Nat)} {a b c : Nat} (he : (a, b) ∈ es) (k : Rch es b c) : Rch es a c := (Rch.step (.refl a) he).trans k
/-- No edge that one comes back from. -/
def Acy (es : List (Nat × Nat)) : Prop := ∀ a b, (a, b) ∈ es → ¬ Rch es b a
/-- By one edge at least. -/
def Plus (es : List (Nat × Nat)) (a b : Nat) : Prop := ∃ c, (a, c) ∈ es ∧ Rch es c b
theorem Plus.of {es : List (Nat × Nat)} {a b c : Nat} (h : Rch es a b) (he : (b, c) ∈ es) : Plus es a c := by
  induction h generalizing c with
  | refl => exact ⟨c, he, .refl c⟩
  | step _ he' ih => obtain ⟨d, h1, h2⟩ := ih he'; exact ⟨d, h1, h2.step he⟩
theorem Plus.rch {es : List (Nat × Nat)} {a b : Nat} (h : Plus es a b) : Rch es a b := by obtain ⟨c, h1, h2⟩ := h; exact Rch.head h1 h2
theorem Plus.not_acy {es : List (Nat × Nat)} {a : Nat} (h : Plus es a a) : ¬ Acy es := fun hA => by obtain ⟨c, h1, h2⟩ := h; exact hA a c h1 h2
/-- From here one comes nowhere without end. -/
def Good (es : List (Nat × Nat)) (i : Nat) : Prop := Acc (fun k j => (j, k) ∈ es) i
theorem Good.mk {es : List (Nat × Nat)} {i : Nat} (h : ∀ k, (i, k) ∈ es → Good es k) : Good es i := Acc.intro i h
theorem Good.next {es : List (Nat × Nat)} {i k : Nat} (h : Good es i) (he : (i, k) ∈ es) : Good es k := Acc.inv h he
theorem Good.rch {es : List (Nat × Nat)} {i k : Nat} (h : Good es i) (hr : Rch es i k) : Good es k := by
  induction hr with
  | refl => exact h
  | step _ he ih => exact ih.next he
theorem Good.no_plus {es : List (Nat × Nat)} {i : Nat} (h : Good es i) : ¬ Plus es i i := by
  induction h with
  | intro j _ ih =>
    rintro ⟨k, he, hr⟩
    exact ih k he (Plus.of hr he)
theorem acy_of_good {es : List (Nat × Nat)} (h : ∀ a b, (a, b) ∈ es → Good es a) : Acy es := fun a b he hr => (h a b he).no_plus ⟨b, he, hr⟩

/-- A way, edge by edge. -/
def Walk (es : List (Nat × Nat)) : List Nat → Prop
  | [] => False
  | [_] => True
  | a :: b :: r => (a, b) ∈ es ∧ Walk es (b :: r)
theorem Walk.mem_rch {es : List (Nat × Nat)} : ∀ {w : List Nat} {a : Nat}, Walk es (a :: w) → ∀ x ∈ w, Plus es a x
  | [], _, _, x, hx => by cases hx
  | b :: r, a, h, x, hx => by
    rcases List.mem_cons.1 hx with rfl | hx
    · exact ⟨x, h.1, .refl x⟩
    · exact ⟨b, h.1, (Walk.mem_rch h.2 x hx).rch⟩
theorem Walk.nodup {es : List (Nat × Nat)} : ∀ {w : List Nat} {a : Nat}, Walk es (a :: w) → Good es a → (a :: w).Nodup
  | [], _, _, _ => by simp
  | b :: r, a, h, hg => by
    rw [List.nodup_cons]
    exact ⟨fun hm => hg.no_plus (Walk.mem_rch h a hm), Walk.nodup h.2 (hg.next h.1)⟩
theorem len_le {L M : List Nat} : L.Nodup → (∀ x ∈ L, x ∈ M) → L.length ≤ M.length := by
  induction L generalizing M with
  | nil => intro _ _; exact Nat.zero_le _
  | cons z L ih =>
    intro hn hs
    have h1 := List.nodup_cons.1 hn
    have hz := hs z List.mem_cons_self
    have hle := List.length_erase_of_mem hz
    have hp := List.length_pos_of_mem hz
    have := ih (M := M.erase z) h1.2 (fun u hu => (List.mem_erase_of_ne (show u ≠ z from fun h => by rw [h] at hu; exact h1.1 hu)).2 (hs u (List.mem_cons_of_mem _ hu)))
    simp only [List.length_cons]
    omega
theorem Walk.lt {es : List (Nat × Nat)} {n : Nat} (hes : ∀ e ∈ es, e.1 < n ∧ e.2 < n) : ∀ {w : List Nat} {a : Nat}, Walk es (a :: w) → a < n → ∀ x ∈ a :: w, x < n
  | [], a, _, ha, x, hx => by simp at hx; omega
  | b :: r, a, h, ha, x, hx => by
    rcases List.mem_cons.1 hx with rfl | hx
    · exact ha
    · exact Walk.lt hes h.2 (hes _ h.1).2 x hx
theorem Walk.short {es : List (Nat × Nat)} {n : Nat} (hes : ∀ e ∈ es, e.1 < n ∧ e.2 < n) {w : List Nat} {a : Nat} (h : Walk es (a :: w)) (hg : Good es a) (ha : a < n) : (a :: w).length ≤ n := by
  have := len_le (h.nodup hg) (M := List.range n) (fun x hx => List.mem_range.2 (h.lt hes ha x hx))
  simpa using this
/-- Where no edge comes back one comes nowhere without end. -/
theorem good_of_acy {es : List (Nat × Nat)} {n : Nat} (hes : ∀ e ∈ es, e.1 < n ∧ e.2 < n) (hA : Acy es) (i : Nat) : Good es i := by
  have nd : ∀ {w : List Nat} {a : Nat}, Walk es (a :: w) → (a :: w).Nodup := by
    intro w
    induction w with
    | nil => intro a _; simp
    | cons b r ih =>
      intro a h
      rw [List.nodup_cons]
      exact ⟨fun hm => Plus.not_acy (Walk.mem_rch h a hm) hA, ih h.2⟩
  have key : ∀ f i, (∀ w, Walk es (i :: w) → (i :: w).length ≤ f) → Good es i := by
    intro f
    induction f with
    | zero => intro i h; have := h [] trivial; simp at this
    | succ f ih =>
      intro i h
      refine Good.mk fun k he => ih k fun w hw => ?_
      have := h (k :: w) ⟨he, hw⟩
      simp at this ⊢
      omega
  have hin : ∀ i, i < n → Good es i := fun i hi => key n i fun w hw => by
    have := len_le (nd hw) (M := List.range n) (fun x hx => List.mem_range.2 (hw.lt hes hi x hx))
    simpa using this
  exact Good.mk fun k he => hin k (hes _ he).2

/-- The next nodes, rising. -/
def succs (es : List (Nat × Nat)) (n i : Nat) : List Nat := (List.range n).filter fun k => decide ((i, k) ∈ es)
theorem mem_succs {es : List (Nat × Nat)} {n i k : Nat} : k ∈ succs es n i ↔ k < n ∧ (i, k) ∈ es := by simp [succs]
theorem succs_len (es : List (Nat × Nat)) (n i : Nat) : (succs es n i).length ≤ n := by
  have := List.length_filter_le (fun k => decide ((i, k) ∈ es)) (List.range n)
  simpa [succs] using this
theorem succs_sorted (es : List (Nat × Nat)) (n i : Nat) : (succs es n i).Pairwise (· < ·) := List.Pairwise.filter _ List.pairwise_lt_range
/-- The paths from a node to the last one, in their order; so many nodes at most. -/
def pathsF (es : List (Nat × Nat)) (n : Nat) : Nat → Nat → List (List Nat)
  | 0, _ => []
  | f + 1, i => (if i + 1 = n then [[i]] else []) ++ (succs es n i).flatMap fun k => (pathsF es n f k).map (i :: ·)
def paths (es : List (Nat × Nat)) (n i : Nat) : List (List Nat) := pathsF es n n i
theorem flatMap_congr' {α β : Type} {l : List α} {f g : α → List β} (h : ∀ a ∈ l, f a = g a) : l.flatMap f = l.flatMap g := by
  induction l with
  | nil => rfl
  | cons a l ih => rw [List.flatMap_cons, List.flatMap_cons, h a List.mem_cons_self, ih fun b hb => h b (List.mem_cons_of_mem _ hb)]
theorem pathsF_stable {es : List (Nat × Nat)} {n : Nat} : ∀ (f i : Nat), (∀ w, Walk es (i :: w) → (i :: w).length ≤ f) → pathsF es n (f + 1) i = pathsF es n f i
  | 0, i, h => by have := h [] trivial; simp at this
  | f + 1, i, h => by
    rw [pathsF]
    conv => rhs; rw [pathsF]
    congr 1
    refine flatMap_congr' fun k hk => ?_
    rw [pathsF_stable f k fun w hw => by
      have := h (k :: w) ⟨(mem_succs.1 hk).2, hw⟩
      simp at this ⊢
      omega]
theorem paths_eq {es : List (Nat × Nat)} {n i : Nat} (hes : ∀ e ∈ es, e.1 < n ∧ e.2 < n) (hg : Good es i) (hi : i < n) :
    paths es n i = (if i + 1 = n then [[i]] else []) ++ (succs es n i).flatMap fun k => (paths es n k).map (i :: ·) := by
  have := pathsF_stable (n := n) n i fun w hw => hw.short hes hg hi
  rw [pathsF] at this
  exact this.symm
/-- How many. -/
def np (es : List (Nat × Nat)) (n i : Nat) : Nat := (paths es n i).length
/-- How many from the first so many next nodes. -/
def npSum (es : List (Nat × Nat)) (n : Nat) (ks : List Nat) : Nat := (ks.map (np es n)).sum
theorem npSum_append (es : List (Nat × Nat)) (n : Nat) (ks ls : List Nat) : npSum es n (ks ++ ls) = npSum es n ks + npSum es n ls := by simp [npSum]
theorem npSum_cons (es : List (Nat × Nat)) (n k : Nat) (ls : List Nat) : npSum es n (k :: ls) = np es n k + npSum es n ls := by simp [npSum]
theorem flat_len (es : List (Nat × Nat)) (n i : Nat) (ks : List Nat) : (ks.flatMap fun k => (paths es n k).map (i :: ·)).length = npSum es n ks := by
  induction ks with
  | nil => rfl
  | cons k ks ih => rw [List.flatMap_cons, List.length_append, List.length_map, ih, npSum_cons]; rfl
theorem np_eq {es : List (Nat × Nat)} {n i : Nat} (hes : ∀ e ∈ es, e.1 < n ∧ e.2 < n) (hg : Good es i) (hi : i < n) : np es n i = (if i + 1 = n then 1 else 0) + npSum es n (succs es n i) := by
  show (paths es n i).length = _
  rw [paths_eq hes hg hi, List.length_append, flat_len]
  split <;> rfl
theorem pathsF_le (es : List (Nat × Nat)) (n : Nat) (hn : n ≤ 12) : ∀ f i, (pathsF es n (f + 1) i).length ≤ 13 ^ f
  | 0, i => by
    rw [pathsF]
    have : ((succs es n i).flatMap fun k => (pathsF es n 0 k).map (i :: ·)) = [] := by
      rw [List.flatMap_eq_nil_iff]; intro k _; rfl
    rw [this]
    split <;> simp
  | f + 1, i => by
    rw [pathsF]
    have key : ∀ ks : List Nat, (ks.flatMap fun k => (pathsF es n (f + 1) k).map (i :: ·)).length ≤ ks.length * 13 ^ f := by
      intro ks
      induction ks with
      | nil => simp
      | cons k ks ih =>
        rw [List.flatMap_cons, List.length_append, List.length_map, List.length_cons, Nat.succ_mul]
        have := pathsF_le es n hn f k
        omega
    have h1 := key (succs es n i)
    have h2 := succs_len es n i
    have h3 : (succs es n i).length * 13 ^ f ≤ 12 * 13 ^ f := Nat.mul_le_mul_right _ (by omega)
    have h4 : 0 < 13 ^ f := Nat.pow_pos (by omega)
    rw [List.length_append, Nat.pow_succ]
    have h5 : (if i + 1 = n then [[i]] else ([] : List (List Nat))).length ≤ 1 := by split <;> simp
    omega
theorem np_le (es : List (Nat × Nat)) (n i : Nat) (hn : n ≤ 12) : np es n i ≤ 1792160394037 := by
  unfold np paths
  cases n with
  | zero => simp [pathsF]
  | succ m =>
    have h := pathsF_le es (m + 1) hn m i
    have : 13 ^ m ≤ 13 ^ 11 := Nat.pow_le_pow_right (by omega) (by omega)
    have e : 13 ^ 11 = 1792160394037 := by decide
    omega
theorem npSum_le (es : List (Nat × Nat)) (n : Nat) (hn : n ≤ 12) : ∀ ks : List Nat, npSum es n ks ≤ ks.length * 1792160394037
  | [] => by simp [npSum]
  | k :: ks => by
    have := npSum_le es n hn ks
    have h := np_le es n k hn
    rw [npSum_cons, List.length_cons, Nat.succ_mul]
    omega

/-- A path from i to the last node. -/
inductive IsPath (es : List (Nat × Nat)) (n : Nat) : Nat → List Nat → Prop
  | last {i : Nat} : i + 1 = n → IsPath es n i [i]
  | cons {i k : Nat} {w : List Nat} : (i, k) ∈ es → k < n → IsPath es n k w → IsPath es n i (i :: w)
theorem pathsF_isPath {es : List (Nat × Nat)} {n : Nat} : ∀ {f i : Nat} {w : List Nat}, w ∈ pathsF es n f i → IsPath es n i w
  | 0, _, _, h => by cases h
  | f + 1, i, w, h => by
    rw [pathsF, List.mem_append, List.mem_flatMap] at h
    rcases h with h | ⟨k, hk, h⟩
    · split at h
      · rename_i e; simp at h; subst h; exact .last e
      · cases h
    · obtain ⟨p, hp, rfl⟩ := List.mem_map.1 h
      exact .cons (mem_succs.1 hk).2 (mem_succs.1 hk).1 (pathsF_isPath hp)
theorem IsPath.start {es : List (Nat × Nat)} {n i : Nat} {w : List Nat} (h : IsPath es n i w) : ∃ r, w = i :: r := by cases h <;> exact ⟨_, rfl⟩
theorem IsPath.walk {es : List (Nat × Nat)} {n i : Nat} {w : List Nat} (h : IsPath es n i w) : Walk es w := by
  induction h with
  | last => trivial
  | cons he _ hp ih => obtain ⟨r, rfl⟩ := hp.start; exact ⟨he, ih⟩
theorem IsPath.end_ {es : List (Nat × Nat)} {n i : Nat} {w : List Nat} (h : IsPath es n i w) : w.getLast? = some (n - 1) := by
  induction h with
  | last e => simp; omega
  | cons _ _ hp ih => obtain ⟨r, rfl⟩ := hp.start; simpa using ih
theorem isPath_of_walk {es : List (Nat × Nat)} {n : Nat} (hes : ∀ e ∈ es, e.1 < n ∧ e.2 < n) (hn : 0 < n) : ∀ {w : List Nat} {i : Nat}, Walk es (i :: w) → (i :: w).getLast? = some (n - 1) → IsPath es n i (i :: w)
  | [], i, _, h => by simp at h; exact .last (by omega)
  | b :: r, i, h, hl => .cons h.1 (hes _ h.1).2 (isPath_of_walk hes hn h.2 (by simpa using hl))
/-- How many paths are ahead of this one. -/
def rk (es : List (Nat × Nat)) (n : Nat) : List Nat → Nat
  | [] => 0
  | [_] => 0
  | i :: j :: r => (if i + 1 = n then 1 else 0) + npSum es n ((succs es n i).filter fun k => decide (k < j)) + rk es n (j :: r)
theorem flat_get {es : List (Nat × Nat)} {n i j r : Nat} {p : List Nat} (hp : (paths es n j)[r]? = some p) : ∀ (ks : List Nat), ks.Pairwise (· < ·) → j ∈ ks →
    (ks.flatMap fun k => (paths es n k).map (i :: ·))[npSum es n (ks.filter fun k => decide (k < j)) + r]? = some (i :: p)
  | [], _, h => by cases h
  | k :: ks, hs, h => by
    obtain ⟨h1, h2⟩ := List.pairwise_cons.1 hs
    rw [List.flatMap_cons]
    rcases List.mem_cons.1 h with rfl | hm
    · have : ((j :: ks).filter fun k => decide (k < j)) = [] := by
        rw [List.filter_eq_nil_iff]
        intro a ha
        rcases List.mem_cons.1 ha with rfl | ha
        · simp
        · have := h1 a ha; simp; omega
      rw [this]
      have hr : r < (paths es n j).length := by
        rcases Nat.lt_or_ge r (paths es n j).length with h | h
        · exact h
        · rw [List.getElem?_eq_none h] at hp; cases hp
      rw [show npSum es n [] + r = r by simp [npSum], List.getElem?_append_left (by simpa using hr), List.getElem?_map, hp]
      rfl
    · have hkj := h1 j hm
      rw [List.filter_cons_of_pos (by simpa using hkj), npSum_cons, List.getElem?_append_right (by rw [List.length_map]; unfold np; omega), List.length_map]
      rw [show np es n k + npSum es n (ks.filter fun k => decide (k < j)) + r - (paths es n k).length = npSum es n (ks.filter fun k => decide (k < j)) + r by unfold np; omega]
      exact flat_get hp ks h2 hm
theorem rk_get {es : List (Nat × Nat)} {n i : Nat} {w : List Nat} (hes : ∀ e ∈ es, e.1 < n ∧ e.2 < n) (h : IsPath es n i w) : Good es i → i < n → (paths es n i)[rk es n w]? = some w := by
  induction h with
  | last e =>
    intro hg hi
    rw [paths_eq hes hg hi, if_pos e]
    simp [rk]
  | @cons i k w he hk hp ih =>
    intro hg hi
    have h1 := ih (hg.next he) hk
    obtain ⟨r, rfl⟩ := hp.start
    rw [paths_eq hes hg hi]
    have h2 := flat_get (i := i) h1 (succs es n i) (succs_sorted es n i) (mem_succs.2 ⟨hk, he⟩)
    rw [rk]
    by_cases e : i + 1 = n
    · rw [if_pos e, if_pos e, List.getElem?_append_right (by simp; omega)]
      rw [show 1 + npSum es n ((succs es n i).filter fun x => decide (x < k)) + rk es n (k :: r) - [[i]].length = npSum es n ((succs es n i).filter fun x => decide (x < k)) + rk es n (k :: r) by simp; omega]
      exact h2
    · rw [if_neg e, if_neg e, List.nil_append, Nat.zero_add]
      exact h2
theorem paths_isPath {es : List (Nat × Nat)} {n i : Nat} {w : List Nat} (h : w ∈ paths es n i) : IsPath es n i w := pathsF_isPath h
theorem mem_paths {es : List (Nat × Nat)} {n i : Nat} {w : List Nat} (hes : ∀ e ∈ es, e.1 < n ∧ e.2 < n) (hg : Good es i) (hi : i < n) : w ∈ paths es n i ↔ IsPath es n i w :=
  ⟨paths_isPath, fun h => List.mem_of_getElem? (rk_get hes h hg hi)⟩

/-- Rising, number by number. -/
inductive Lx : List Nat → List Nat → Prop
  | nil {b : Nat} {s : List Nat} : Lx [] (b :: s)
  | head {a b : Nat} {r s : List Nat} : a < b → Lx (a :: r) (b :: s)
  | tail {a : Nat} {r s : List Nat} : Lx r s → Lx (a :: r) (a :: s)
theorem Lx.irrefl : ∀ {r : List Nat}, ¬ Lx r r
  | [], h => by cases h
  | a :: r, h => by
    cases h with
    | head h => omega
    | tail h => exact Lx.irrefl h
theorem pathsF_rise {es : List (Nat × Nat)} {n : Nat} : ∀ f i, (pathsF es n f i).Pairwise Lx
  | 0, _ => List.Pairwise.nil
  | f + 1, i => by
    rw [pathsF, List.pairwise_append]
    refine ⟨by split <;> simp, ?_, fun a ha b hb => ?_⟩
    · have key : ∀ ks : List Nat, ks.Pairwise (· < ·) → (ks.flatMap fun k => (pathsF es n f k).map (i :: ·)).Pairwise Lx := by
        intro ks
        induction ks with
        | nil => intro _; exact List.Pairwise.nil
        | cons k ks ih =>
          intro hs
          obtain ⟨h1, h2⟩ := List.pairwise_cons.1 hs
          rw [List.flatMap_cons, List.pairwise_append]
          refine ⟨?_, ih h2, fun a ha b hb => ?_⟩
          · rw [List.pairwise_map]
            exact (pathsF_rise f k).imp fun h => .tail h
          · obtain ⟨p, hp, rfl⟩ := List.mem_map.1 ha
            obtain ⟨k2, hk2, hb⟩ := List.mem_flatMap.1 hb
            obtain ⟨q, hq, rfl⟩ := List.mem_map.1 hb
            obtain ⟨r, rfl⟩ := (pathsF_isPath hp).start
            obtain ⟨s, rfl⟩ := (pathsF_isPath hq).start
            exact .tail (.head (h1 k2 hk2))
      exact key _ (succs_sorted es n i)
    · split at ha
      · simp at ha
        subst ha
        obtain ⟨k, hk, hb⟩ := List.mem_flatMap.1 hb
        obtain ⟨q, hq, rfl⟩ := List.mem_map.1 hb
        obtain ⟨s, rfl⟩ := (pathsF_isPath hq).start
        exact .tail .nil
      · cases ha
theorem paths_rise (es : List (Nat × Nat)) (n i : Nat) : (paths es n i).Pairwise Lx := pathsF_rise n i
theorem paths_one {es : List (Nat × Nat)} {n i a b : Nat} {w : List Nat} (ha : (paths es n i)[a]? = some w) (hb : (paths es n i)[b]? = some w) : a = b := by
  have hr := paths_rise es n i
  rw [List.pairwise_iff_getElem] at hr
  obtain ⟨ha1, ha2⟩ := List.getElem?_eq_some_iff.1 ha
  obtain ⟨hb1, hb2⟩ := List.getElem?_eq_some_iff.1 hb
  rcases Nat.lt_trichotomy a b with h | h | h
  · have := hr a b ha1 hb1 h; rw [ha2, hb2] at this; exact absurd this Lx.irrefl
  · exact h
  · have := hr b a hb1 ha1 h; rw [ha2, hb2] at this; exact absurd this Lx.irrefl
/-- More edges: no fewer paths. -/
theorem flatMap_sub {α β : Type} {f g : α → List β} (h : ∀ a, (f a).Sublist (g a)) {l m : List α} (hl : l.Sublist m) : (l.flatMap f).Sublist (m.flatMap g) := by
  induction hl with
  | slnil => exact List.Sublist.refl _
  | cons a _ ih => rw [List.flatMap_cons]; exact ih.trans (List.sublist_append_right _ _)
  | cons_cons a _ ih => rw [List.flatMap_cons, List.flatMap_cons]; exact (h a).append ih
theorem filter_sub {α : Type} {p q : α → Bool} (h : ∀ a, p a = true → q a = true) : ∀ l : List α, (l.filter p).Sublist (l.filter q)
  | [] => by simp
  | a :: l => by
    have ih := filter_sub h l
    cases hp : p a with
    | true => rw [List.filter_cons_of_pos hp, List.filter_cons_of_pos (h a hp)]; exact ih.cons_cons a
    | false =>
      rw [List.filter_cons_of_neg (by simp [hp])]
      cases hq : q a with
      | true => rw [List.filter_cons_of_pos hq]; exact ih.cons a
      | false => rw [List.filter_cons_of_neg (by simp [hq])]; exact ih
theorem pathsF_more {es es' : List (Nat × Nat)} {n : Nat} (h : ∀ e, e ∈ es → e ∈ es') : ∀ f i, (pathsF es n f i).Sublist (pathsF es' n f i)
  | 0, _ => List.Sublist.refl _
  | f + 1, i => by
    rw [pathsF, pathsF]
    refine (List.Sublist.refl _).append (flatMap_sub (fun k => (pathsF_more h f k).map _) (filter_sub (fun k hk => ?_) _))
    simp at hk ⊢
    exact h _ hk
theorem np_more {es es' : List (Nat × Nat)} {n : Nat} (h : ∀ e, e ∈ es → e ∈ es') (i : Nat) : np es n i ≤ np es' n i := (pathsF_more h n i).length_le
end Go.Mine.Path
