/- A slice of pairs that came in: its length is within its room. No conditions. -/
import Derived.Test.YtppbaiilhaagdaaPairs
namespace Go.Mine
open Go Go.RowKit Go.WideShapes Go.ChangeShapes
theorem pairs_cap {H : Type} {P : Program} {enc : TypeId × Value → H} {W : World} {T E : TypeId} {f0 f1 : Field} {fuel : Nat} {ao : Option Addr} {len cap : Nat} {x : DataW H × List MemPlace} (hT : P.underlying T = some (.slice E)) (hE : P.underlying E = some (.struct #[f0, f1]))
    (ce : P.cellsOf E = 2) (o0 : f0.offset = 0) (o1 : f1.offset = 1) (c0 : P.cellsOf f0.type = 1) (c1 : P.cellsOf f1.type = 1)
    (h : DataW.trod enc P W 0 (fun _ => true) true fuel T [.slice ao len cap] = some x) : ao ≠ none → len ≤ cap := by
  rcases Go.Deep.open_slice_pairs hT hE ce o0 o1 c0 c1 h with ⟨hcs, _⟩ | ⟨a, l, c, m, n, V0, V1, D0, D1, P0, P1, hcs, _, hl, _⟩
  · simp at hcs
    obtain ⟨rfl, rfl, rfl⟩ := hcs
    exact fun h => absurd rfl h
  · simp at hcs
    obtain ⟨rfl, rfl, rfl⟩ := hcs
    exact fun _ => hl
end Go.Mine
