/- Cells stored over a row of the call's own; a row cut short. No conditions. -/
import Derived.Test.YtalbllijahiiiaaGreatDoorPairs
import Derived.Laws.OwnMore
import Derived.Laws.IdiomCopy
import Derived.Lib.SliceRun
namespace Go.Mine
open Go Go.RowKit

def putAt : List Value → Nat → List Value → List Value
  | xs, _, [] => xs
  | xs, o, v :: r => putAt (xs.set o v) (o + 1) r
theorem putAt_len : ∀ (vs : List Value) (xs : List Value) (o : Nat), (putAt xs o vs).length = xs.length
  | [], _, _ => rfl
  | v :: r, xs, o => by rw [putAt, putAt_len r]; simp
theorem putAt_take : ∀ (vs : List Value) (xs : List Value) (o k : Nat), k ≤ o → (putAt xs o vs).take k = xs.take k
  | [], _, _, _, _ => rfl
  | v :: r, xs, o, k, h => by
    rw [putAt, putAt_take r _ _ _ (by omega)]
    rw [List.take_set_of_le h]
theorem stored_cells {base g n cap size : Nat} {e : TypeId} : ∀ (vs : List Value) (w : World) (xs : List Value) (o : Nat), w.ownsRow base e size (.slice (some ⟨g, 0, none⟩) n cap) n xs →
    (w.setCells g o vs).ownsRow base e size (.slice (some ⟨g, 0, none⟩) n cap) n (putAt xs o vs) ∧ w.grownBy (w.setCells g o vs) (some g)
  | [], w, xs, o, h => ⟨h, ⟨rfl, rfl, rfl, Nat.le_refl _, fun _ _ _ => rfl⟩⟩
  | v :: r, w, xs, o, h => by
    obtain ⟨h1, h2⟩ := h.stored o v
    obtain ⟨h3, h4⟩ := stored_cells r _ _ (o + 1) h1
    exact ⟨h3, grownBy_trans h2 h4⟩
theorem owns_cut {w : World} {base g n cap size k : Nat} {e : TypeId} {xs : List Value} (h : w.ownsRow base e size (.slice (some ⟨g, 0, none⟩) n cap) n xs) (hk : k ≤ n) : w.ownsRow base e size (.slice (some ⟨g, 0, none⟩) k cap) k (xs.take (k * size)) := by
  have hl := h.1
  rcases h.2 with ⟨h', _⟩ | ⟨g', cap', cur, h', hb, hg, hnc, hcm, hcs, htake⟩
  · simp at h'
  · simp only [Value.slice.injEq, Option.some.injEq, Addr.mk.injEq, and_true, true_and] at h'
    obtain ⟨rfl, rfl⟩ := h'
    have hks := Nat.mul_le_mul_right size hk
    refine ⟨by rw [List.length_take]; omega, .inr ⟨g, cap, cur, rfl, hb, hg, by omega, hcm, hcs, ?_⟩⟩
    rw [← htake, List.take_take, Nat.min_eq_left hks]
theorem two_set : ∀ (es : List (Int × Int)) (i : Nat) (x : Int × Int), putAt (two es) (i * 2) [.int .i64 x.1, .int .i64 x.2] = two (es.set i x)
  | [], _, _ => by simp [putAt, two]
  | e :: es, 0, x => by simp [putAt, two]
  | e :: es, i + 1, x => by
    have := two_set es i x
    simp only [putAt] at this ⊢
    rw [show (i + 1) * 2 = i * 2 + 1 + 1 by omega]
    simp only [two, List.set_cons_succ]
    rw [this]
theorem two_take : ∀ (es : List (Int × Int)) (k : Nat), (two es).take (k * 2) = two (es.take k)
  | [], _ => by simp [two]
  | e :: es, 0 => by simp [two]
  | e :: es, k + 1 => by
    rw [show (k + 1) * 2 = k * 2 + 1 + 1 by omega]
    simp only [two, List.take_succ_cons]
    rw [two_take es k]
/-- 'clear' of a slice that is not empty. -/
theorem run_clear {P : Program} (w : World) (t e ty : TypeId) (z : Value) (ht : P.underlying t = some (.slice e)) (hv : ∀ w, (zeroValue e).run P w = .ok z w) (h1 : ∀ u ∈ z.cells.toList, u.oneCell' = true) (b o n c : Nat) (hn : 0 < n)
    (hc : ∀ j, j < n * z.cells.size → (w.cell? ⟨b, o + j, none⟩).isSome = true) (hf : ∀ j, j < n * z.cells.size → w.frozen? ⟨b, o + j, none⟩ = false) :
    (Builtin.clear_ #[t] ty #[.slice (some ⟨b, o, none⟩) n c]).run P w = .ok (.tuple #[]) (w.setCells b o (Builtin.zeroCells z.cells n).toList) := by
  have hzl : (Builtin.zeroCells z.cells n).toList.length = n * z.cells.size := by simp [Builtin.zeroCells]
  have hst := run_storeCells_cells (P := P) b o (Builtin.zeroCells z.cells n).toList 0 w (by rw [hzl]; simpa using hc) (by rw [hzl]; simpa using hf) (by
    intro v hv'
    simp only [Builtin.zeroCells, Array.toList_map, Array.toList_range, List.mem_map, List.mem_range] at hv'
    obtain ⟨i, hi, rfl⟩ := hv'
    have hpos : 0 < z.cells.size := by
      rcases Nat.eq_zero_or_pos z.cells.size with h | h
      · rw [h] at hi; omega
      · exact h
    have hlt := Nat.mod_lt i hpos
    refine h1 _ ?_
    simp [hlt])
  simp only [Nat.add_zero] at hst
  obtain ⟨m, rfl⟩ : ∃ m, n = m + 1 := ⟨n - 1, by omega⟩
  simp [Builtin.clear_, run_underlying ht, hv, hst]
theorem own_cap2 {w : World} {base : Nat} {e : TypeId} {size : Nat} {ro : Option Addr} {n rc : Nat} {xs : List Value} (h : w.ownsRow base e size (.slice ro n rc) n xs) : n ≤ rc := by
  rcases h.2 with ⟨h, h0⟩ | ⟨_, _, _, h, _, _, h1, _⟩
  · omega
  · simp only [Value.slice.injEq] at h
    rw [h.2.2]
    exact h1
end Go.Mine
