/- Cells stored over a row of the call's own; a row cut short; 'clear'; fours. No conditions. -/
import Derived.Test.YtebkgkcfcenkgaaDoorFours
import Derived.Laws.OwnMore
import Derived.Laws.IdiomCopy
import Derived.Lib.SliceRun
namespace Go.Mine
open Go Go.RowKit

theorem grown_trans {a b c : World} {row : Option Nat} (h : a.grownBy b row) (k : b.grownBy c row) : a.grownBy c row :=
  ⟨k.os.trans h.os, k.tape.trans h.tape, k.output.trans h.output, Nat.le_trans h.size k.size, fun i hi hne => (k.block i (Nat.lt_of_lt_of_le hi h.size) hne).trans (h.block i hi hne)⟩
theorem grown_refl (w : World) (row : Option Nat) : w.grownBy w row := ⟨rfl, rfl, rfl, Nat.le_refl _, fun _ _ _ => rfl⟩
theorem below_grown {w w' : World} {row : Option Nat} (h : Below w.heap.size w w') : w.grownBy w' row := ⟨h.os, h.tape, h.output, h.size, fun i hi _ => h.block i hi⟩
def putAt : List Value → Nat → List Value → List Value
  | xs, _, [] => xs
  | xs, o, v :: r => putAt (xs.set o v) (o + 1) r
theorem putAt_len : ∀ (vs : List Value) (xs : List Value) (o : Nat), (putAt xs o vs).length = xs.length
  | [], _, _ => rfl
  | v :: r, xs, o => by rw [putAt, putAt_len r]; simp
theorem putAt_take : ∀ (vs : List Value) (xs : List Value) (o k : Nat), k ≤ o → (putAt xs o vs).take k = xs.take k
  | [], _, _, _, _ => rfl
  | v :: r, xs, o, k, h => by
    rw [putAt, putAt_take r _ _ _ (by omega)]
    rw [List.take_set_of_le h]
theorem stored_cells {base g n cap size : Nat} {e : TypeId} : ∀ (vs : List Value) (w : World) (xs : List Value) (o : Nat), w.ownsRow base e size (.slice (some ⟨g, 0, none⟩) n cap) n xs →
    (w.setCells g o vs).ownsRow base e size (.slice (some ⟨g, 0, none⟩) n cap) n (putAt xs o vs) ∧ w.grownBy (w.setCells g o vs) (some g)
  | [], w, xs, o, h => ⟨h, ⟨rfl, rfl, rfl, Nat.le_refl _, fun _ _ _ => rfl⟩⟩
  | v :: r, w, xs, o, h => by
    obtain ⟨h1, h2⟩ := h.stored o v
    obtain ⟨h3, h4⟩ := stored_cells r _ _ (o + 1) h1
    exact ⟨h3, grown_trans h2 h4⟩
theorem owns_cut {w : World} {base g n cap size k : Nat} {e : TypeId} {xs : List Value} (h : w.ownsRow base e size (.slice (some ⟨g, 0, none⟩) n cap) n xs) (hk : k ≤ n) : w.ownsRow base e size (.slice (some ⟨g, 0, none⟩) k cap) k (xs.take (k * size)) := by
  have hl := h.1
  rcases h.2 with ⟨h', _⟩ | ⟨g', cap', cur, h', hb, hg, hnc, hcm, hcs, htake⟩
  · simp at h'
  · simp only [Value.slice.injEq, Option.some.injEq, Addr.mk.injEq, and_true, true_and] at h'
    obtain ⟨rfl, rfl⟩ := h'
    have hks := Nat.mul_le_mul_right size hk
    refine ⟨by rw [List.length_take]; omega, .inr ⟨g, cap, cur, rfl, hb, hg, by omega, hcm, hcs, ?_⟩⟩
    rw [← htake, List.take_take, Nat.min_eq_left hks]
/-- 'clear' of a slice that is not empty. -/
theorem run_clear {P : Program} (w : World) (t e ty : TypeId) (z : Value) (ht : P.underlying t = some (.slice e)) (hv : ∀ w, (zeroValue e).run P w = .ok z w) (h1 : ∀ u ∈ z.cells.toList, u.oneCell' = true) (b o n c : Nat) (hn : 0 < n)
    (hc : ∀ j, j < n * z.cells.size → (w.cell? ⟨b, o + j, none⟩).isSome = true) (hf : ∀ j, j < n * z.cells.size → w.frozen? ⟨b, o + j, none⟩ = false) :
    (Builtin.clear_ #[t] ty #[.slice (some ⟨b, o, none⟩) n c]).run P w = .ok (.tuple #[]) (w.setCells b o (Builtin.zeroCells z.cells n).toList) := by
  have hzl : (Builtin.zeroCells z.cells n).toList.length = n * z.cells.size := by simp [Builtin.zeroCells]
  have hst := run_storeCells_cells (P := P) b o (Builtin.zeroCells z.cells n).toList 0 w (by rw [hzl]; simpa using hc) (by rw [hzl]; simpa using hf) (by
    intro v hv'
    simp only [Builtin.zeroCells, Array.toList_map, Array.toList_range, List.mem_map, List.mem_range] at hv'
    obtain ⟨i, hi, rfl⟩ := hv'
    have hpos : 0 < z.cells.size := by
      rcases Nat.eq_zero_or_pos z.cells.size with h | h
      · rw [h] at hi; omega
      · exact h
    have hlt := Nat.mod_lt i hpos
    refine h1 _ ?_
    simp [hlt])
  simp only [Nat.add_zero] at hst
  obtain ⟨m, rfl⟩ : ∃ m, n = m + 1 := ⟨n - 1, by omega⟩
  simp [Builtin.clear_, run_underlying ht, hv, hst]
theorem own_cap2 {w : World} {base : Nat} {e : TypeId} {size : Nat} {ro : Option Addr} {n rc : Nat} {xs : List Value} (h : w.ownsRow base e size (.slice ro n rc) n xs) : n ≤ rc := by
  rcases h.2 with ⟨h, h0⟩ | ⟨_, _, _, h, _, _, h1, _⟩
  · omega
  · simp only [Value.slice.injEq] at h
    rw [h.2.2]
    exact h1
theorem putAt_app : ∀ (vs xs ys : List Value) (o : Nat), putAt (xs ++ ys) (xs.length + o) vs = xs ++ putAt ys o vs
  | [], _, _, _ => rfl
  | v :: r, xs, ys, o => by
    rw [putAt, putAt, List.set_append_right _ _ (by omega), Nat.add_sub_cancel_left, Nat.add_assoc, putAt_app r]
theorem flat4_set : ∀ (es : List (List Int)) (i : Nat) (x : List Int), (∀ r ∈ es, r.length = 4) → x.length = 4 → putAt (flat4 es) (i * 4) (x.map (Value.int .i64)) = flat4 (es.set i x)
  | [], i, x, _, hx => by
    obtain ⟨a, b, c, d, rfl⟩ : ∃ a b c d, x = [a, b, c, d] := by
      match x, hx with
      | [a, b, c, d], _ => exact ⟨a, b, c, d, rfl⟩
    simp [flat4, putAt]
  | e :: es, 0, x, h, hx => by
    obtain ⟨a, b, c, d, rfl⟩ : ∃ a b c d, x = [a, b, c, d] := by
      match x, hx with
      | [a, b, c, d], _ => exact ⟨a, b, c, d, rfl⟩
    have he := h e List.mem_cons_self
    obtain ⟨a', b', c', d', rfl⟩ : ∃ a b c d, e = [a, b, c, d] := by
      match e, he with
      | [a, b, c, d], _ => exact ⟨a, b, c, d, rfl⟩
    simp [flat4, putAt]
  | e :: es, i + 1, x, h, hx => by
    have he := h e List.mem_cons_self
    have ih := flat4_set es i x (fun r hr => h r (List.mem_cons_of_mem _ hr)) hx
    have h1 := putAt_app (x.map (Value.int .i64)) (e.map (Value.int .i64)) (flat4 es) (i * 4)
    rw [List.length_map, he] at h1
    rw [show (i + 1) * 4 = 4 + i * 4 by omega, List.set_cons_succ]
    show putAt (flat4 (e :: es)) _ _ = flat4 (e :: es.set i x)
    have e1 : ∀ l : List (List Int), flat4 (e :: l) = e.map (Value.int .i64) ++ flat4 l := fun l => by simp [flat4]
    rw [e1, e1, h1, ih]
theorem flat4_take : ∀ (es : List (List Int)) (k : Nat), (∀ r ∈ es, r.length = 4) → (flat4 es).take (k * 4) = flat4 (es.take k)
  | [], _, _ => by simp [flat4]
  | e :: es, 0, _ => by simp [flat4]
  | e :: es, k + 1, h => by
    have he := h e List.mem_cons_self
    have ih := flat4_take es k (fun r hr => h r (List.mem_cons_of_mem _ hr))
    have e1 : ∀ l : List (List Int), flat4 (e :: l) = e.map (Value.int .i64) ++ flat4 l := fun l => by simp [flat4]
    rw [List.take_succ_cons, e1, e1, List.take_append, List.length_map, he, show (k + 1) * 4 - 4 = k * 4 by omega, ih, List.take_of_length_le (by rw [List.length_map, he]; omega)]
end Go.Mine
