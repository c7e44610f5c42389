/- A slice of slices of numbers that a call makes, row by row, each row in a block of its own. No conditions. -/
import Derived.Test.YtebkgkcfcenkgaaDoorQueue
import Derived.Test.YtebkgkcfcenkgaaDoorLists
namespace Go.Mine
open Go Go.RowKit

/-- The rows so far. -/
structure Outs (W w : World) (e : TypeId) (ov : Value) (vs : List Value) (rows : List (List Int)) : Prop where
  own : w.ownsRow W.heap.size e 1 ov rows.length vs
  off : ∃ g, ROff w g g vs rows ∧ ∀ b, ov.ownBlock = some b → b = g
  below : Below W.heap.size W w
theorem Outs.nil {W w : World} {e : TypeId} (hb : Below W.heap.size W w) : Outs W w e (.slice none 0 0) [] [] :=
  ⟨World.ownsRow_nil _ _ _ _, ⟨w.heap.size, .nil, fun b h => by cases h⟩, hb⟩
theorem Outs.keep {W w w' : World} {e : TypeId} {ov : Value} {vs : List Value} {rows : List (List Int)} (h : Outs W w e ov vs rows) (hb : Below w.heap.size w w') : Outs W w' e ov vs rows := by
  obtain ⟨g, h1, h2⟩ := h.off
  exact ⟨owns_below h.own hb, ⟨g, h1.keep (fun g hg _ _ => hb.block g hg) hb.size (.inl rfl) (.inl rfl), h2⟩, h.below.trans (hb.mono h.below.size)⟩
theorem Outs.push {W w w' : World} {e : TypeId} {ov : Value} {vs : List Value} {rows : List (List Int)} (h : Outs W w e ov vs rows) {ro : Option Addr} {rc n m cap g7 : Nat} {r : List Int} {o : Obj} (hn : r.length = n) (hi : IntsAt .i64 w ro r) (hl : n ≤ maxLen) (h0 : ro = none → n = 0) (hc : n ≤ rc)
    (hro : ∀ g o s, ro = some ⟨g, o, s⟩ → g < w.heap.size ∧ ov.ownBlock ≠ some g) (hm : m = rows.length + 1)
    (ho : w'.ownsRow W.heap.size e 1 (.slice (some ⟨g7, 0, none⟩) m cap) m (vs ++ [.slice ro n rc])) (hg : (w.alloc o).grownBy w' ov.ownBlock) (hw : ov.ownBlock = some g7 ∨ g7 = w.heap.size + 1) :
    Outs W w' e (.slice (some ⟨g7, 0, none⟩) m cap) (vs ++ [.slice ro n rc]) (rows ++ [r]) := by
  obtain ⟨g, h1, h2⟩ := h.off
  subst hn
  have hsz : (w.alloc o).heap.size = w.heap.size + 1 := by simp
  have hgs := hg.size
  have hws := h.below.size
  have keepb : ∀ b, b < w.heap.size → ov.ownBlock ≠ some b → w'.heap[b]? = w.heap[b]? := fun b hb hne => by
    rw [hg.block b (by omega) (fun e => hne e.symm)]
    exact Below.heap_alloc _ _ _ hb
  have hold : ROff w' g7 g7 vs rows := by
    cases hov : ov.ownBlock with
    | none =>
      rw [hov] at hw keepb
      have hg7 : g7 = w.heap.size + 1 := hw.resolve_left (by simp)
      exact h1.keep (fun b hb _ _ => keepb b hb (by simp)) (by omega) (.inr (by omega)) (.inr (by omega))
    | some b0 =>
      have hb0 := h2 b0 hov
      subst hb0
      rw [hov] at hw keepb
      have hq : g7 = b0 ∨ w.heap.size ≤ g7 := hw.imp (fun e => (Option.some.inj e).symm) (fun e => by omega)
      exact h1.keep (fun b hb hne _ => keepb b hb (by simpa using Ne.symm hne)) (by omega) hq hq
  have hnew : ROff w' g7 g7 [.slice ro r.length rc] [r] := by
    refine ROff.cons (IntsAt.block hi fun g o s e => keepb g (hro g o s e).1 (hro g o s e).2) hl h0 hc (fun b o s e => ?_) .nil
    obtain ⟨k1, k2⟩ := hro b o s e
    have hne : b ≠ g7 := fun e2 => by
      subst e2
      rcases hw with hw | hw
      · exact k2 hw
      · omega
    exact ⟨by omega, hne, hne⟩
  refine ⟨?_, ⟨g7, hold.append hnew, fun b hb => by simp only [Value.ownBlock, Option.some.injEq] at hb; exact hb.symm⟩, ?_⟩
  · rw [List.length_append, List.length_singleton, ← hm]
    exact ho
  · exact (h.below.alloc hws o).grown hg (by omega) (fun k hk => (h.own.lt k hk).1)
theorem Outs.rowsAt {W w : World} {e : TypeId} {ao : Option Addr} {n cap : Nat} {vs : List Value} {rows : List (List Int)} (h : Outs W w e (.slice ao n cap) vs rows) : RowsAt w ao rows := by
  obtain ⟨g, h1, _⟩ := h.off
  obtain ⟨ao', c', e'⟩ := owns_shape h.own
  simp only [Value.slice.injEq] at e'
  obtain ⟨rfl, rfl, rfl⟩ := e'
  exact RowsAt.of_owns h.own h1.vals
theorem Outs.shape {W w : World} {e : TypeId} {ov : Value} {vs : List Value} {rows : List (List Int)} (h : Outs W w e ov vs rows) : ∃ ao cap, ov = .slice ao rows.length cap := owns_shape h.own
/-- A row of the call's own, in a block that was not there at some time, lies off the rest. -/
theorem own_off {w : World} {base : Nat} {e : TypeId} {ro : Option Addr} {n rc : Nat} {xs : List Value} (h : w.ownsRow base e 1 (.slice ro n rc) n xs) {ov : Value} (hov : ∀ b, ov.ownBlock = some b → b < base) : ∀ g o s, ro = some ⟨g, o, s⟩ → g < w.heap.size ∧ ov.ownBlock ≠ some g := fun g o s e => by
  obtain ⟨h1, h2⟩ := h.lt g (by rw [e]; rfl)
  exact ⟨h2, fun hc => by have := hov g hc; omega⟩
theorem own_cap {w : World} {base : Nat} {e : TypeId} {size : Nat} {ro : Option Addr} {n rc : Nat} {xs : List Value} (h : w.ownsRow base e size (.slice ro n rc) n xs) : n ≤ rc ∧ (ro = none → n = 0) := by
  rcases h.2 with ⟨h, h0⟩ | ⟨_, _, _, h, _, _, h1, _⟩
  · simp only [Value.slice.injEq] at h
    exact ⟨by omega, fun _ => h0⟩
  · simp only [Value.slice.injEq] at h
    obtain ⟨e1, _, e3⟩ := h
    rw [e1, e3]
    exact ⟨h1, fun h => by cases h⟩
end Go.Mine
