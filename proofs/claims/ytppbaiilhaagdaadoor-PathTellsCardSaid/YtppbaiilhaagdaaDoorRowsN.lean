/- Lists of lists of numbers, all of a call's own making: where each row lies. No conditions. -/
import Derived.Test.YtppbaiilhaagdaaDoorLists
import Derived.Test.YtppbaiilhaagdaaDoorMore
namespace Go.Mine
open Go Go.RowKit

/-- A slice of slices of numbers; its own block and its rows' blocks are none below B. -/
def RN (w : World) (B : Nat) (T : TypeId) (v : Value) (rows : List (List Int)) : Prop :=
  ∃ svals, w.ownsRow B T 1 v rows.length svals ∧ ∀ i, i < rows.length → ∃ ro rc, svals[i]? = some (.slice ro (rows.getD i []).length rc) ∧ IntsAt .i64 w ro (rows.getD i []) ∧ ∀ g o s, ro = some ⟨g, o, s⟩ → v.ownBlock ≠ some g ∧ B ≤ g ∧ g < w.heap.size
theorem RN.nil (w : World) (B : Nat) (T : TypeId) : RN w B T (.slice none 0 0) [] := ⟨[], World.ownsRow_nil _ _ _ _, fun i hi => by simp at hi⟩
/-- Where nothing of ours has turned. -/
theorem RN.same {w w' : World} {B : Nat} {T : TypeId} {v : Value} {rows : List (List Int)} (h : RN w B T v rows) (hs : w.heap.size ≤ w'.heap.size) (hb : ∀ b, B ≤ b → b < w.heap.size → w'.heap[b]? = w.heap[b]?) : RN w' B T v rows := by
  obtain ⟨svals, h1, h2⟩ := h
  refine ⟨svals, owns_block h1 fun g hg hv => hb g hg (h1.lt g hv).2, fun i hi => ?_⟩
  obtain ⟨ro, rc, k1, k2, k3⟩ := h2 i hi
  exact ⟨ro, rc, k1, k2.block fun g o s e => hb g (k3 g o s e).2.1 (k3 g o s e).2.2, fun g o s e => ⟨(k3 g o s e).1, (k3 g o s e).2.1, Nat.lt_of_lt_of_le (k3 g o s e).2.2 hs⟩⟩
theorem RN.below {w w' : World} {B : Nat} {T : TypeId} {v : Value} {rows : List (List Int)} (h : RN w B T v rows) (hb : Below w.heap.size w w') : RN w' B T v rows := h.same hb.size fun b _ hlt => hb.block b hlt
theorem RN.mono {w : World} {B B' : Nat} {T : TypeId} {v : Value} {rows : List (List Int)} (h : RN w B T v rows) (hb : B' ≤ B) : RN w B' T v rows := by
  obtain ⟨svals, h1, h2⟩ := h
  refine ⟨svals, owns_mono h1 hb, fun i hi => ?_⟩
  obtain ⟨ro, rc, k1, k2, k3⟩ := h2 i hi
  exact ⟨ro, rc, k1, k2, fun g o s e => ⟨(k3 g o s e).1, Nat.le_trans hb (k3 g o s e).2.1, (k3 g o s e).2.2⟩⟩
theorem RN.owns {w : World} {B : Nat} {T : TypeId} {v : Value} {rows : List (List Int)} (h : RN w B T v rows) : ∃ svals, w.ownsRow B T 1 v rows.length svals := ⟨_, h.choose_spec.1⟩
theorem RN.shape {w : World} {B : Nat} {T : TypeId} {v : Value} {rows : List (List Int)} (h : RN w B T v rows) : ∃ ao cap, v = .slice ao rows.length cap := by
  obtain ⟨svals, h1, _⟩ := h
  exact owns_shape h1
theorem RN.lt {w : World} {B : Nat} {T : TypeId} {v : Value} {rows : List (List Int)} (h : RN w B T v rows) : ∀ g, v.ownBlock = some g → B ≤ g ∧ g < w.heap.size := fun g hg => by
  obtain ⟨svals, h1, _⟩ := h
  exact h1.lt g hg
/-- One row more. -/
theorem RN.push {w w' : World} {v : Value} {B g n cap rc : Nat} {T : TypeId} {svals : List Value} {rows : List (List Int)} {row : List Int} {ro : Option Addr} {o : Obj}
    (h : ∀ i, i < rows.length → ∃ ro rc, svals[i]? = some (.slice ro (rows.getD i []).length rc) ∧ IntsAt .i64 w ro (rows.getD i []) ∧ ∀ g o s, ro = some ⟨g, o, s⟩ → v.ownBlock ≠ some g ∧ B ≤ g ∧ g < w.heap.size) (hown : w.ownsRow B T 1 v rows.length svals)
    (hr : IntsAt .i64 w ro row) (hro : ∀ g o s, ro = some ⟨g, o, s⟩ → v.ownBlock ≠ some g ∧ B ≤ g ∧ g < w.heap.size) (hg : (w.alloc o).grownBy w' v.ownBlock) (hat : v.ownBlock = some g ∨ w.heap.size ≤ g)
    (hn : n = rows.length + 1) (ho' : w'.ownsRow B T 1 (.slice (some ⟨g, 0, none⟩) n cap) n (svals ++ [.slice ro row.length rc])) : RN w' B T (.slice (some ⟨g, 0, none⟩) n cap) (rows ++ [row]) := by
  have hl : svals.length = rows.length := by have := hown.1; omega
  have keep : ∀ ro' : Option Addr, (∀ g o s, ro' = some ⟨g, o, s⟩ → v.ownBlock ≠ some g ∧ B ≤ g ∧ g < w.heap.size) → (∀ g' o s, ro' = some ⟨g', o, s⟩ → w'.heap[g']? = w.heap[g']?) ∧ ∀ g' o s, ro' = some ⟨g', o, s⟩ → (Value.slice (some ⟨g, 0, none⟩) n cap).ownBlock ≠ some g' ∧ B ≤ g' ∧ g' < w'.heap.size := by
    intro ro' hro'
    refine ⟨fun g' o' s e => ?_, fun g' o' s e => ⟨?_, (hro' g' o' s e).2.1, ?_⟩⟩
    · obtain ⟨h1, _, h2⟩ := hro' g' o' s e
      rw [hg.block g' (by simp; omega) (fun e => h1 e.symm)]
      exact Below.heap_alloc _ _ _ h2
    · obtain ⟨h1, _, h2⟩ := hro' g' o' s e
      simp only [Value.ownBlock, ne_eq, Option.some.injEq]
      intro e2
      subst e2
      rcases hat with h3 | h3
      · exact h1 h3
      · omega
    · have h1 := (hro' g' o' s e).2.2
      have h2 := hg.size
      simp at h2
      omega
  have hln : (rows ++ [row]).length = n := by simp [hn]
  refine ⟨svals ++ [.slice ro row.length rc], by rw [hln]; exact ho', ?_⟩
  intro i hi
  simp at hi
  by_cases hi' : i < rows.length
  · obtain ⟨ro', rc', h1, h2, h3⟩ := h i hi'
    obtain ⟨k1, k2⟩ := keep ro' h3
    have e : (rows ++ [row]).getD i [] = rows.getD i [] := by simp [List.getElem?_append_left hi']
    refine ⟨ro', rc', ?_, by rw [e]; exact h2.block k1, k2⟩
    rw [List.getElem?_append_left (by omega), e]
    exact h1
  · have hie : i = rows.length := by omega
    obtain ⟨k1, k2⟩ := keep ro hro
    have e : (rows ++ [row]).getD i [] = row := by rw [hie]; simp
    refine ⟨ro, rc, ?_, by rw [e]; exact hr.block k1, k2⟩
    rw [e, hie, ← hl]; simp
/-- A row's cell. -/
theorem RN.cell {w : World} {B n : Nat} {T : TypeId} {ao : Option Addr} {cap : Nat} {rows : List (List Int)} (h : RN w B T (.slice ao n cap) rows) {i : Nat} (hi : i < rows.length) :
    ∃ g ro rc, ao = some ⟨g, 0, none⟩ ∧ w.cell? ⟨g, i, none⟩ = some (.slice ro (rows.getD i []).length rc) ∧ IntsAt .i64 w ro (rows.getD i []) ∧ ∀ g o s, ro = some ⟨g, o, s⟩ → B ≤ g ∧ g < w.heap.size := by
  obtain ⟨svals, h1, h2⟩ := h
  obtain ⟨ro, rc, h3, h4, h6⟩ := h2 i hi
  rcases h1.2 with ⟨_, h5⟩ | ⟨g, cap', cur, h5, _⟩
  · omega
  · have hn : n = rows.length := by simp only [Value.slice.injEq] at h5; exact h5.2.1
    subst hn
    simp only [Value.slice.injEq] at h5
    obtain ⟨rfl, _, rfl⟩ := h5
    refine ⟨g, ro, rc, rfl, ?_, h4, fun g o s e => (h6 g o s e).2⟩
    rw [h1.cellAt i (by omega)]
    exact h3
end Go.Mine
