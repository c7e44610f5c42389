/- The lists of what can be gone to, in memory. -/
import Derived.Test.YtnbnfgljbhidbaaDoorC
namespace Go.Proofs.YtnbnfgljbhidbaaDoor
open Go.RowKit Go.Mine Go.Mine.Tour Go.Deep

/-- A slice of slices of numbers, all of the call's own, no two of one block. -/
structure NextOwn (w : World) (B g n : Nat) (rows : List (List Int)) (V : Nat → Value) : Prop where
  row : w.ownsRow B 26 1 (.slice (some ⟨g, 0, none⟩) n n) n ((List.range n).map V)
  len : rows.length = n
  own : ∀ i, i < n → w.ownsRow B 3 1 (V i) (rows.getD i []).length ((rows.getD i []).map (Value.int .i64))
  far : ∀ i, i < n → (V i).ownBlock ≠ some g
  apart : ∀ i j, i < n → j < n → i ≠ j → Apart (V i) (V j)

theorem NextOwn.cell {w : World} {B g n : Nat} {rows : List (List Int)} {V : Nat → Value} (h : NextOwn w B g n rows V) {i : Nat} (hi : i < n) : w.cell? ⟨g, i, none⟩ = some (V i) := by
  rw [h.row.cellAt i (by omega)]
  simp [hi]
theorem NextOwn.alloc {w : World} {B g n : Nat} {rows : List (List Int)} {V : Nat → Value} (h : NextOwn w B g n rows V) (o : Obj) : NextOwn (w.alloc o) B g n rows V :=
  ⟨h.row.alloc o, h.len, fun i hi => (h.own i hi).alloc o, h.far, h.apart⟩
theorem NextOwn.drew {w : World} {B g n : Nat} {rows : List (List Int)} {V : Nat → Value} (h : NextOwn w B g n rows V) : NextOwn w.drew B g n rows V :=
  ⟨h.row.drew, h.len, fun i hi => (h.own i hi).drew, h.far, h.apart⟩
theorem range_set (V : Nat → Value) (n a : Nat) (v : Value) : ((List.range n).map V).set a v = (List.range n).map fun i => if i = a then v else V i := by
  refine List.ext_getElem (by simp) fun t h1 h2 => ?_
  rw [List.getElem_set]
  by_cases e : a = t
  · subst e; simp
  · rw [if_neg e]; simp [Ne.symm e]

theorem NextOwn.step {w w1 : World} {B g n a gg m cap : Nat} {b : Int} {rows : List (List Int)} {V : Nat → Value} (h : NextOwn w B g n rows V) (ha : a < n) (hm : m = (rows.getD a []).length + 1)
    (hown : w1.ownsRow B 3 1 (.slice (some ⟨gg, 0, none⟩) m cap) m ((rows.getD a []).map (Value.int .i64) ++ [.int .i64 b])) (hg : w.grownBy w1 (V a).ownBlock) (hat : (V a).ownBlock = some gg ∨ w.heap.size ≤ gg) :
    NextOwn (w1.setCell ⟨g, a, none⟩ (.slice (some ⟨gg, 0, none⟩) m cap)) B g n (rows.set a (rows.getD a [] ++ [b])) (fun i => if i = a then .slice (some ⟨gg, 0, none⟩) m cap else V i) := by
  have hgl := (h.row.lt g rfl).2
  have hne : gg ≠ g := by
    intro e
    subst e
    rcases hat with h1 | h1
    · exact h.far a ha h1
    · omega
  have r1 : w1.ownsRow B 26 1 (.slice (some ⟨g, 0, none⟩) n n) n ((List.range n).map V) := h.row.kept hg (.inr (fun e => h.far a ha e.symm))
  have st := r1.stored a (.slice (some ⟨gg, 0, none⟩) m cap)
  rw [range_set] at st
  refine ⟨st.1, by simp [h.len], ?_, ?_, ?_⟩
  · intro i hi
    rw [getD_set _ _ _ _ (by rw [h.len]; exact ha)]
    by_cases e : i = a
    · subst e
      rw [if_pos rfl, if_pos rfl]
      have := hown.kept st.2 (.inr (by simp only [Value.ownBlock, ne_eq, Option.some.injEq]; exact hne))
      rw [List.length_append, List.map_append, List.length_singleton, ← hm]
      exact this
    · rw [if_neg e, if_neg e]
      exact (owns_apart (h.own i hi) hg (h.apart a i ha hi (Ne.symm e))).kept st.2 (.inr (h.far i hi))
  · intro i hi
    by_cases e : i = a
    · rw [if_pos e]
      simp only [Value.ownBlock, ne_eq, Option.some.injEq]
      exact hne
    · rw [if_neg e]; exact h.far i hi
  · have key : ∀ j, j < n → j ≠ a → Apart (.slice (some ⟨gg, 0, none⟩) m cap) (V j) := by
      intro j hj e k hk hk2
      simp only [Value.ownBlock, Option.some.injEq] at hk
      subst hk
      rcases hat with h1 | h1
      · exact h.apart a j ha hj (Ne.symm e) gg h1 hk2
      · have := ((h.own j hj).lt gg hk2).2
        omega
    intro i j hi hj hij
    by_cases e : i = a
    · rw [if_pos e, if_neg (fun e2 => hij (e.trans e2.symm))]
      exact key j hj (fun e2 => hij (e.trans e2.symm))
    · rw [if_neg e]
      by_cases e2 : j = a
      · rw [if_pos e2]; exact (key i hi e).symm
      · rw [if_neg e2]; exact h.apart i j hi hj hij

theorem NextOwn.made {w : World} {B n : Nat} (hB : B ≤ w.heap.size) (hn : n ≤ 12) : NextOwn (w.alloc (.cells (madeCells #[Value.slice none 0 0] n) 26)) B w.heap.size n (List.replicate n []) (fun _ => .slice none 0 0) := by
  have hm : (madeCells #[Value.slice none 0 0] n).toList = (List.range n).map fun _ => Value.slice none 0 0 := by
    rw [toList_madeCells_one]
    refine List.ext_getElem (by simp) fun t h1 h2 => by simp
  have hr := World.ownsRow_lit (base := B) (e := 26) (size := 1) w (madeCells #[Value.slice none 0 0] n) n hB (by unfold maxLen; omega) (by rw [← Array.length_toList, hm]; simp)
  rw [hm] at hr
  have hg : ∀ i, (List.replicate n ([] : List Int)).getD i [] = [] := fun i => by
    by_cases h : i < n <;> simp [h]
  refine ⟨hr, by simp, ?_, ?_, ?_⟩
  · intro i _
    rw [hg]
    exact World.ownsRow_nil _ _ _ _
  · intro i _ h; cases h
  · intro i j _ _ _ k hk; cases hk
/-- The same as it is only read and cut: all below H but for g's own cells. -/
structure Rows2 (w : World) (B g n H : Nat) (next : List (List Int)) (V : Nat → Value) : Prop where
  row : w.ownsRow B 26 1 (.slice (some ⟨g, 0, none⟩) n n) n ((List.range n).map V)
  low : g < H
  len : next.length = n
  size : H ≤ w.heap.size
  vals : ∀ i, i < n → ∃ ro rc, V i = .slice ro (next.getD i []).length rc ∧ IntsAt .i64 w ro (next.getD i []) ∧ (next.getD i []).length ≤ rc ∧ (0 < (next.getD i []).length → ∀ b o s, ro = some ⟨b, o, s⟩ → b < H ∧ b ≠ g)

theorem NextOwn.rows2 {w : World} {B g n : Nat} {next : List (List Int)} {V : Nat → Value} (h : NextOwn w B g n next V) : Rows2 w B g n w.heap.size next V := by
  refine ⟨h.row, (h.row.lt g rfl).2, h.len, Nat.le_refl _, ?_⟩
  intro i hi
  have ho := h.own i hi
  obtain ⟨ro, rc, hv⟩ := owns_shape ho
  rw [hv] at ho
  refine ⟨ro, rc, hv, IntsAt.of_owns ho, ?_, ?_⟩
  · rcases ho.2 with ⟨_, h2⟩ | ⟨gg, cap', cur, h1, _, _, hnc, _⟩
    · omega
    · cases h1; exact hnc
  · intro _ b o s hb
    subst hb
    have hob : (V i).ownBlock = some b := by rw [hv]; rfl
    exact ⟨((h.own i hi).lt b hob).2, fun e => h.far i hi (by rw [hob, e])⟩

theorem ints_keep {w w' : World} {ao : Option Addr} {xs : List Int} (h : IntsAt .i64 w ao xs) (hb : 0 < xs.length → ∀ b o s, ao = some ⟨b, o, s⟩ → w'.heap[b]? = w.heap[b]?) : IntsAt .i64 w' ao xs := by
  intro j hj
  obtain ⟨b, o, h1, h2⟩ := h j hj
  exact ⟨b, o, h1, (World.cell?_of_block (w := w) (hb (by omega) b o none h1)).trans h2⟩

theorem Rows2.cell {w : World} {B g n H : Nat} {next : List (List Int)} {V : Nat → Value} (h : Rows2 w B g n H next V) {i : Nat} (hi : i < n) : w.cell? ⟨g, i, none⟩ = some (V i) := by
  rw [h.row.cellAt i (by omega)]
  simp [hi]
theorem Rows2.grown {w w' : World} {B g n H : Nat} {next : List (List Int)} {V : Nat → Value} {row : Option Nat} (h : Rows2 w B g n H next V) (hg : w.grownBy w' row) (hr : ∀ k, row = some k → H ≤ k) : Rows2 w' B g n H next V := by
  have hlow := h.low
  have hsz := h.size
  refine ⟨h.row.kept hg (.inr (fun e => by have := hr g e.symm; omega)), h.low, h.len, Nat.le_trans h.size hg.size, ?_⟩
  intro i hi
  obtain ⟨ro, rc, h1, h2, h3, h4⟩ := h.vals i hi
  refine ⟨ro, rc, h1, ints_keep h2 fun hp b o s e => ?_, h3, h4⟩
  have h5 := h4 hp b o s e
  exact hg.block b (by omega) (fun e2 => by have := hr b e2.symm; omega)
theorem Rows2.alloc {w : World} {B g n H : Nat} {next : List (List Int)} {V : Nat → Value} (h : Rows2 w B g n H next V) (o : Obj) : Rows2 (w.alloc o) B g n H next V :=
  h.grown (World.grownBy_alloc w o none) (fun k hk => by cases hk)
/-- A row's last one is taken. -/
theorem Rows2.cut {w : World} {B g n H a : Nat} {next : List (List Int)} {V : Nat → Value} {row : List Int} {b : Int} {ro : Option Addr} {rc m : Nat} (h : Rows2 w B g n H next V) (ha : a < n) (hr : next.getD a [] = row ++ [b]) (hv : V a = .slice ro (next.getD a []).length rc) (hm : m = row.length) :
    Rows2 (w.setCell ⟨g, a, none⟩ (.slice ro m rc)) B g n H (next.set a row) (fun i => if i = a then .slice ro m rc else V i) := by
  subst hm
  have st := h.row.stored a (.slice ro row.length rc)
  rw [range_set] at st
  refine ⟨st.1, h.low, by simp [h.len], by simpa using h.size, ?_⟩
  intro i hi
  rw [getD_set _ _ _ _ (by rw [h.len]; exact ha)]
  by_cases e : i = a
  · subst e
    rw [if_pos rfl, if_pos rfl]
    obtain ⟨ro', rc', h1, h2, h3, h4⟩ := h.vals i hi
    rw [hv] at h1
    simp only [Value.slice.injEq, true_and] at h1
    obtain ⟨rfl, rfl⟩ := h1
    rw [hr, List.length_append] at h4
    rw [hr, List.length_append] at h3
    rw [hr] at h2
    have h5 : IntsAt .i64 w ro row := by
      intro j hj
      obtain ⟨b', o', k1, k2⟩ := h2 j (by rw [List.length_append]; omega)
      refine ⟨b', o', k1, ?_⟩
      rw [k2]
      simp [List.getElem?_append_left hj]
    refine ⟨ro, rc, rfl, ints_keep h5 fun hp b' o' s e => ?_, by omega, fun hp => h4 (by omega)⟩
    exact st.2.block b' (by have := (h4 (by omega) b' o' s e).1; have := h.size; omega) (fun e2 => by simp at e2; exact (h4 (by omega) b' o' s e).2 e2)
  · rw [if_neg e, if_neg e]
    obtain ⟨ro', rc', h1, h2, h3, h4⟩ := h.vals i hi
    refine ⟨ro', rc', h1, ints_keep h2 fun hp b' o' s e => ?_, h3, h4⟩
    have h5 := h4 hp b' o' s e
    exact st.2.block b' (by have := h.size; omega) (fun e2 => by simp at e2; exact h5.2 e2)

/-- The head of an owned row is owned. -/
theorem owns_take {w : World} {B n cap k : Nat} {e : TypeId} {ao : Option Addr} {xs : List Value} (h : w.ownsRow B e 1 (.slice ao n cap) n xs) (hk : k ≤ n) : w.ownsRow B e 1 (.slice ao k cap) k (xs.take k) := by
  have hl := h.1
  refine ⟨by rw [List.length_take]; omega, ?_⟩
  rcases h.2 with ⟨h1, h2⟩ | ⟨g, cap', cur, h1, hb, hg, hnc, hcm, hcs, ht⟩
  · left
    simp only [Value.slice.injEq] at h1
    obtain ⟨rfl, _, rfl⟩ := h1
    exact ⟨by congr; omega, by omega⟩
  · right
    simp only [Value.slice.injEq] at h1
    obtain ⟨rfl, _, rfl⟩ := h1
    refine ⟨g, cap, cur, rfl, hb, hg, by omega, hcm, hcs, ?_⟩
    rw [← ht, List.take_take]
    congr 1
    omega
end Go.Proofs.YtnbnfgljbhidbaaDoor
