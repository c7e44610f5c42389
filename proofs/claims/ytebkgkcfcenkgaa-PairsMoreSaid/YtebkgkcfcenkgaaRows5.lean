/- A slice of slices that came in: its datum. No conditions. -/
import Derived.Test.YtebkgkcfcenkgaaRows3
namespace Go.Mine
open Go Go.RowKit
theorem rows_open5 {H : Type} {P : Program} {enc : TypeId × Value → H} {W : World} {T E I : TypeId} {fuel : Nat} {ao : Option Addr} {len cap : Nat} {x : DataW H × List MemPlace} (hT : P.underlying T = some (.slice E)) (hE : P.underlying E = some (.slice I)) (hI : P.underlying I = some (.int .i64)) (hc : P.cellsOf E = 1) (hci : P.cellsOf I = 1)
    (h : DataW.trod enc P W 0 (fun _ => true) true fuel T [.slice ao len cap] = some x) :
    ∃ rows : List (List Int), rows.length = len ∧ RowsAt W ao rows ∧ (∀ r ∈ rows, ∀ z ∈ r, (Lit.int .i64 z).wf = true) ∧ len ≤ maxLen ∧ (ao = none → len = 0) ∧ len ≤ cap ∧ (len = 0 ∨ ∃ elems spare, x.1 = .slice elems spare ∧ elems.length = len) := by
  obtain ⟨rows, h1, h2, h3, h4, h5, h6⟩ := rows_open hT hE hI hc hci h
  refine ⟨rows, h1, h2, h3, h4, h5, h6, ?_⟩
  rcases Go.Deep.open_slice1 hT hc h with ⟨hcs, _⟩ | ⟨a, l, c, m, n, V, D, Pl, hcs, _, hl, hm, hmm, hx, hcell⟩
  · simp at hcs
    obtain ⟨rfl, rfl, rfl⟩ := hcs
    exact .inl rfl
  · simp at hcs
    obtain ⟨rfl, rfl, rfl⟩ := hcs
    exact .inr ⟨_, _, by rw [hx], by simp⟩
end Go.Mine
