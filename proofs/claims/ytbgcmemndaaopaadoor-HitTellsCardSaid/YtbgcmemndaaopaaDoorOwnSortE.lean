/- A slice of one-cell values of the call's own, behind the library's contracts (sorted, compacted): whatever its values. No program. -/
import Derived.Test.YtbgcmemndaaopaaDoorSortP
import Derived.Test.YtbgcmemndaaopaaDoorLib
import Derived.Sort.Grow
import Derived.Sort.Row
namespace Go.Mine
open Go Go.RowKit Go.Sort Go.Proofs

theorem owns_takeE {w : World} {B n cap k : Nat} {e : TypeId} {ao : Option Addr} {xs : List Value} (h : w.ownsRow B e 1 (.slice ao n cap) n xs) (hk : k ≤ n) : w.ownsRow B e 1 (.slice ao k cap) k (xs.take k) := by
  have hl := h.1
  rcases h.2 with ⟨h1, h2⟩ | ⟨g, c, cur, h1, hB, hg, hnc, hc, hs, ht⟩
  · refine ⟨by simp; omega, .inl ⟨?_, by omega⟩⟩
    simp at h1
    obtain ⟨rfl, rfl, rfl⟩ := h1
    have : k = 0 := by omega
    rw [this]
  · simp only [Value.slice.injEq] at h1
    obtain ⟨rfl, _, rfl⟩ := h1
    refine ⟨by simp; omega, .inr ⟨g, cap, cur, rfl, hB, hg, by omega, hc, hs, ?_⟩⟩
    rw [Nat.mul_one] at ht ⊢
    rw [← ht, List.take_take]
    congr 1
    omega
section
variable {α : Type} [Inhabited α] {enc : α → Value}
theorem own_holdsE {w : World} {base g cap : Nat} {e : TypeId} {ss : List α} (ho : w.ownsRow base e 1 (.slice (some ⟨g, 0, none⟩) ss.length cap) ss.length (ss.map enc)) :
    Holds enc w g 0 ss.toArray ∧ ss.length ≤ cap ∧ cap ≤ maxLen := by
  refine ⟨fun j hj => ?_, ?_⟩
  · have hj' : j < ss.length := by simpa using hj
    rw [Nat.zero_add, ho.cellAt j (by omega)]
    exact ⟨by simp [hj'], ho.frozenAt j⟩
  · rcases ho.2 with ⟨h0, _⟩ | ⟨g', cap', cur, hv, hbase, hb, h1, h2, h3, h4⟩
    · cases h0
    cases hv
    exact ⟨h1, h2⟩
theorem own_putE {w : World} {base g cap : Nat} {e : TypeId} {ss ts : List α} (ho : w.ownsRow base e 1 (.slice (some ⟨g, 0, none⟩) ss.length cap) ss.length (ss.map enc)) (hl : ts.length = ss.length) (n : Nat) (os : Array Obj) :
    (grow (putRow enc (Sort.ahead w n) g 0 ts.toArray) os).ownsRow base e 1 (.slice (some ⟨g, 0, none⟩) ss.length cap) ss.length (ts.map enc) ∧ w.grownBy (grow (putRow enc (Sort.ahead w n) g 0 ts.toArray) os) (some g) := by
  rcases ho.2 with ⟨h0, _⟩ | ⟨g', cap', cur, hv, hbase, hb, h1, h2, h3, h4⟩
  · cases h0
  cases hv
  have hg : g < w.heap.size := (Array.getElem?_eq_some_iff.1 hb).1
  constructor
  · refine ⟨by simp [hl], .inr ⟨g, cap, putCells enc 0 ts.toArray cur, rfl, hbase, ?_, h1, h2, by simpa [putCells] using h3, ?_⟩⟩
    · rw [heap_grow_old _ _ (by simpa using hg)]
      simp [putRow, mapBlock, Sort.ahead, Array.getElem?_modify, hb, onCells]
    · rw [Nat.mul_one, ← hl]
      have hle : ts.length ≤ cur.size := by rw [hl]; omega
      apply List.ext_getElem?
      intro j
      by_cases hj : j < ts.length
      · rw [List.getElem?_take_of_lt hj, Array.getElem?_toList]
        simp [putCells, hj, show j < cur.size by omega]
      · rw [List.getElem?_take_eq_none (by omega), List.getElem?_eq_none (by simp; omega)]
  · refine ⟨rfl, rfl, rfl, by simp, fun k hk hne => ?_⟩
    rw [heap_grow_old _ _ (by simpa using hk)]
    have : g ≠ k := fun e => hne (by rw [e])
    simp [putRow, mapBlock, Sort.ahead, Array.getElem?_modify, this]
/-- The row cut to its head, other things behind. -/
theorem own_cutE {w : World} {base g cap : Nat} {e : TypeId} {ss ys : List α} (z : α) (ho : w.ownsRow base e 1 (.slice (some ⟨g, 0, none⟩) ss.length cap) ss.length (ss.map enc)) (hl : ys.length ≤ ss.length) (n : Nat) :
    (putRow enc (Sort.ahead w n) g 0 (ys ++ List.replicate (ss.length - ys.length) z).toArray).ownsRow base e 1 (.slice (some ⟨g, 0, none⟩) ys.length cap) ys.length (ys.map enc) ∧ w.grownBy (putRow enc (Sort.ahead w n) g 0 (ys ++ List.replicate (ss.length - ys.length) z).toArray) (some g) := by
  have h := own_putE (ts := ys ++ List.replicate (ss.length - ys.length) z) ho (by simp; omega) n #[]
  rw [grow_empty] at h
  refine ⟨?_, h.2⟩
  have ht := owns_takeE h.1 hl
  have e : ((ys ++ List.replicate (ss.length - ys.length) z).map enc).take ys.length = ys.map enc := by
    rw [List.map_append, List.take_append_of_le_length (by simp), List.take_of_length_le (by simp)]
  rw [e] at ht
  exact ht
end
end Go.Mine
