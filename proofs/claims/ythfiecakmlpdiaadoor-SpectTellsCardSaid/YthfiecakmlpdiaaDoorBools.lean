/- Slices of bools, read. No conditions. -/
import Derived.Test.YthfiecakmlpdiaaDoorInts
import Derived.Deep.Grids
namespace Go.Mine
open Go Go.RowKit Go.WideShapes Go.ChangeShapes

/-- The slice's places hold these. -/
def BoolsAt (w : World) (ao : Option Addr) (xs : List Bool) : Prop :=
  ∀ j, j < xs.length → ∃ b o, ao = some ⟨b, o, none⟩ ∧ w.cell? ⟨b, o + j, none⟩ = some (.bool (xs.getD j false))
theorem BoolsAt.nil (w : World) (ao : Option Addr) : BoolsAt w ao [] := by intro j hj; simp at hj
theorem BoolsAt.below {w w' : World} {ao : Option Addr} {xs : List Bool} (h : BoolsAt w ao xs) {B : Nat} (hB : w.heap.size ≤ B) (hb : Below B w w') : BoolsAt w' ao xs := by
  intro j hj
  obtain ⟨b, o, h1, h2⟩ := h j hj
  exact ⟨b, o, h1, (hb.cell (Nat.lt_of_lt_of_le (World.block_lt_of_cell? w _ h2) hB)).trans h2⟩
theorem BoolsAt.of_owns {w : World} {base : Nat} {e : TypeId} {ao : Option Addr} {n cap : Nat} {xs : List Bool} (h : w.ownsRow base e 1 (.slice ao n cap) n (xs.map Value.bool)) : BoolsAt w ao xs := by
  intro j hj
  have hl := h.1
  simp at hl
  rcases h.2 with ⟨h1, h2⟩ | ⟨g, cap', cur, h1, _⟩
  · omega
  · simp only [Value.slice.injEq] at h1
    obtain ⟨rfl, _, rfl⟩ := h1
    refine ⟨g, 0, rfl, ?_⟩
    have := h.cellAt j (by omega)
    simp [hj] at this ⊢
    exact this

/-- Where a slice of bools has one, it lies at a plain address. -/
theorem BoolsAt.plain {w : World} {ao : Option Addr} {xs : List Bool} (h : BoolsAt w ao xs) (hp : 0 < xs.length) : ∃ b o, ao = some ⟨b, o, none⟩ ∧ ∀ j, j < xs.length → w.cell? ⟨b, o + j, none⟩ = some (.bool (xs.getD j false)) := by
  obtain ⟨b, o, rfl, _⟩ := h 0 hp
  refine ⟨b, o, rfl, fun j hj => ?_⟩
  obtain ⟨b', o', h1, h2⟩ := h j hj
  simp only [Option.some.injEq, Addr.mk.injEq, and_true] at h1
  obtain ⟨rfl, rfl⟩ := h1
  exact h2
theorem BoolsAt.drewN {w : World} {ao : Option Addr} {xs : List Bool} (h : BoolsAt w ao xs) (n : Nat) : BoolsAt (w.drewN n) ao xs := h

/-- A slice of bools that came in. -/
theorem bools_open {H : Type} {P : Program} {enc : TypeId × Value → H} {W : World} {T E : TypeId} {fuel : Nat} {ao : Option Addr} {len cap : Nat} {x : DataW H × List MemPlace} (hT : P.underlying T = some (.slice E)) (hE : P.underlying E = some .bool) (hc : P.cellsOf E = 1)
    (h : DataW.trod enc P W 0 (fun _ => true) true fuel T [.slice ao len cap] = some x) : ∃ xs : List Bool, xs.length = len ∧ BoolsAt W ao xs ∧ len ≤ maxLen ∧ (ao = none → len = 0) ∧ len ≤ cap ∧ (len = 0 ∨ ∃ elems spare, x.1 = .slice elems spare ∧ elems.length = len) := by
  rcases Go.Deep.open_bools hT hE hc h with ⟨hcs, _⟩ | ⟨a, l, c, B, hcs, _, hl, hm, hx, hcell⟩
  · simp at hcs
    obtain ⟨rfl, rfl, rfl⟩ := hcs
    exact ⟨[], rfl, BoolsAt.nil _ _, Nat.zero_le _, fun _ => rfl, Nat.le_refl _, .inl rfl⟩
  · simp at hcs
    obtain ⟨rfl, rfl, rfl⟩ := hcs
    refine ⟨(List.range len).map B, by simp, ?_, by omega, (fun h => by cases h), hl, .inr ⟨_, _, by rw [hx]; rfl, by simp⟩⟩
    intro j hj
    simp only [List.length_map, List.length_range] at hj
    obtain ⟨b, off, spot⟩ := a
    have hspot : spot = none := by simpa [Addr.add] using World.cell?_spot (hcell 0 (by omega))
    subst hspot
    refine ⟨b, off, rfl, ?_⟩
    have := hcell j (by omega)
    rw [add_plain] at this
    rw [this]
    simp [hj]
end Go.Mine
