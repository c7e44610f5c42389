/- Lists of lists of numbers that a call makes: rows appended to a slice of slices. No conditions. -/
import Derived.Test.YtppbaiilhaagdaaDoorInts
namespace Go.Mine
open Go Go.RowKit

theorem IntsAt.block {k : IntKind} {w w' : World} {ao : Option Addr} {xs : List Int} (h : IntsAt k w ao xs) (hb : ∀ g o s, ao = some ⟨g, o, s⟩ → w'.heap[g]? = w.heap[g]?) : IntsAt k w' ao xs := by
  intro j hj
  obtain ⟨b, o, h1, h2⟩ := h j hj
  exact ⟨b, o, h1, (World.cell?_of_block (w := w) (hb b o none h1)).trans h2⟩

/-- What the rows' values are. -/
def RowVals (k : IntKind) (w : World) (v : Value) (svals : List Value) (rows : List (List Int)) : Prop :=
  ∀ i, i < rows.length → ∃ ro rc, svals[i]? = some (.slice ro (rows.getD i []).length rc) ∧ IntsAt k w ro (rows.getD i []) ∧ ∀ g o s, ro = some ⟨g, o, s⟩ → v.ownBlock ≠ some g ∧ g < w.heap.size
/-- A slice of slices of numbers, all of the call's own. -/
def RowsOwn (k : IntKind) (w : World) (B : Nat) (T : TypeId) (v : Value) (rows : List (List Int)) : Prop :=
  ∃ svals, w.ownsRow B T 1 v rows.length svals ∧ RowVals k w v svals rows

theorem RowsOwn.nil (k : IntKind) (w : World) (B : Nat) (T : TypeId) : RowsOwn k w B T (.slice none 0 0) [] :=
  ⟨[], World.ownsRow_nil _ _ _ _, fun i hi => by simp at hi⟩
theorem RowVals.below {k : IntKind} {w w' : World} {v : Value} {svals : List Value} {rows : List (List Int)} (h : RowVals k w v svals rows) (hb : Below w.heap.size w w') : RowVals k w' v svals rows := by
  intro i hi
  obtain ⟨ro, rc, h1, h2, h3⟩ := h i hi
  exact ⟨ro, rc, h1, h2.below (Nat.le_refl _) hb, fun g o s e => ⟨(h3 g o s e).1, Nat.lt_of_lt_of_le (h3 g o s e).2 hb.size⟩⟩
theorem RowsOwn.below {k : IntKind} {w w' : World} {B : Nat} {T : TypeId} {v : Value} {rows : List (List Int)} (h : RowsOwn k w B T v rows) (hb : Below w.heap.size w w') : RowsOwn k w' B T v rows := by
  obtain ⟨svals, h1, h2⟩ := h
  exact ⟨svals, owns_below h1 hb, h2.below hb⟩
/-- One row more. -/
theorem RowVals.push {k : IntKind} {w w' : World} {v : Value} {B g n cap rc : Nat} {T : TypeId} {svals : List Value} {rows : List (List Int)} {row : List Int} {ro : Option Addr} {o : Obj} (h : RowVals k w v svals rows) (hown : w.ownsRow B T 1 v rows.length svals)
    (hr : IntsAt k w ro row) (hro : ∀ g o s, ro = some ⟨g, o, s⟩ → v.ownBlock ≠ some g ∧ g < w.heap.size) (hg : (w.alloc o).grownBy w' v.ownBlock) (hat : v.ownBlock = some g ∨ w.heap.size ≤ g) :
    RowVals k w' (.slice (some ⟨g, 0, none⟩) n cap) (svals ++ [.slice ro row.length rc]) (rows ++ [row]) := by
  have hl : svals.length = rows.length := by have := hown.1; omega
  have keep : ∀ ro' : Option Addr, (∀ g o s, ro' = some ⟨g, o, s⟩ → v.ownBlock ≠ some g ∧ g < w.heap.size) → (∀ g' o s, ro' = some ⟨g', o, s⟩ → w'.heap[g']? = w.heap[g']?) ∧ ∀ g' o s, ro' = some ⟨g', o, s⟩ → (Value.slice (some ⟨g, 0, none⟩) n cap).ownBlock ≠ some g' ∧ g' < w'.heap.size := by
    intro ro' hro'
    refine ⟨fun g' o' s e => ?_, fun g' o' s e => ⟨?_, ?_⟩⟩
    · obtain ⟨h1, h2⟩ := hro' g' o' s e
      rw [hg.block g' (by simp; omega) (fun e => h1 e.symm)]
      exact Below.heap_alloc _ _ _ h2
    · obtain ⟨h1, h2⟩ := hro' g' o' s e
      simp only [Value.ownBlock, ne_eq, Option.some.injEq]
      intro e2
      subst e2
      rcases hat with h3 | h3
      · exact h1 h3
      · omega
    · have h1 := (hro' g' o' s e).2
      have h2 := hg.size
      simp at h2
      omega
  intro i hi
  simp at hi
  by_cases hi' : i < rows.length
  · obtain ⟨ro', rc', h1, h2, h3⟩ := h i hi'
    obtain ⟨k1, k2⟩ := keep ro' h3
    refine ⟨ro', rc', ?_, ?_, k2⟩
    · rw [List.getElem?_append_left (by omega)]
      simp [List.getElem?_append_left hi'] at h1 ⊢
      exact h1
    · have e : (rows ++ [row]).getD i [] = rows.getD i [] := by simp [List.getElem?_append_left hi']
      rw [e]
      exact h2.block k1
  · have hie : i = rows.length := by omega
    obtain ⟨k1, k2⟩ := keep ro hro
    have e : (rows ++ [row]).getD i [] = row := by rw [hie]; simp
    refine ⟨ro, rc, ?_, ?_, k2⟩
    · rw [e, hie, ← hl]; simp
    · rw [e]
      exact hr.block k1
/-- A row's cell in the slice of slices. -/
theorem RowsOwn.cell {k : IntKind} {w : World} {B n : Nat} {T : TypeId} {ao : Option Addr} {cap : Nat} {rows : List (List Int)} (h : RowsOwn k w B T (.slice ao n cap) rows) {i : Nat} (hi : i < rows.length) :
    ∃ g ro rc, ao = some ⟨g, 0, none⟩ ∧ w.cell? ⟨g, i, none⟩ = some (.slice ro (rows.getD i []).length rc) ∧ IntsAt k w ro (rows.getD i []) := by
  obtain ⟨svals, h1, h2⟩ := h
  obtain ⟨ro, rc, h3, h4, _⟩ := h2 i hi
  rcases h1.2 with ⟨_, h5⟩ | ⟨g, cap', cur, h5, _⟩
  · omega
  · have hn : n = rows.length := by simp only [Value.slice.injEq] at h5; exact h5.2.1
    subst hn
    simp only [Value.slice.injEq] at h5
    obtain ⟨rfl, _, rfl⟩ := h5
    refine ⟨g, ro, rc, rfl, ?_, h4⟩
    rw [h1.cellAt i (by omega)]
    exact h3
end Go.Mine
