/- Slices of [4]int, read. No conditions. -/
import Derived.Test.YthfiecakmlpdiaaDoorInts
import Derived.Test.YthfiecakmlpdiaaDoorMore
namespace Go.Mine
open Go Go.RowKit

/-- The slice's places hold these fours. -/
def FoursAt (w : World) (ao : Option Addr) (l : List (List Int)) : Prop :=
  ∀ j, j < l.length → ∃ b o, ao = some ⟨b, o, none⟩ ∧ ∀ k, k < 4 → w.cell? ⟨b, o + j * 4 + k, none⟩ = some (.int .i64 ((l.getD j []).getD k 0))
theorem FoursAt.nil (w : World) (ao : Option Addr) : FoursAt w ao [] := by intro j hj; simp at hj
theorem FoursAt.below {w w' : World} {ao : Option Addr} {l : List (List Int)} (h : FoursAt w ao l) {B : Nat} (hB : w.heap.size ≤ B) (hb : Below B w w') : FoursAt w' ao l := by
  intro j hj
  obtain ⟨b, o, h1, h2⟩ := h j hj
  exact ⟨b, o, h1, fun k hk => (hb.cell (p := ⟨b, o + j * 4 + k, none⟩) (Nat.lt_of_lt_of_le (World.block_lt_of_cell? w _ (h2 k hk)) hB)).trans (h2 k hk)⟩
/-- The cells, one behind the other. -/
def flat4 (l : List (List Int)) : List Value := l.flatMap fun r => r.map (Value.int .i64)
theorem flat4_len : ∀ l : List (List Int), (∀ r ∈ l, r.length = 4) → (flat4 l).length = l.length * 4
  | [], _ => rfl
  | r :: l, h => by
    have := flat4_len l (fun x hx => h x (List.mem_cons_of_mem _ hx))
    unfold flat4 at this ⊢
    rw [List.flatMap_cons, List.length_append, this, List.length_map, h r List.mem_cons_self, List.length_cons]
    omega
theorem flat4_append (l m : List (List Int)) : flat4 (l ++ m) = flat4 l ++ flat4 m := List.flatMap_append
theorem flat4_get : ∀ (l : List (List Int)), (∀ r ∈ l, r.length = 4) → ∀ j k, j < l.length → k < 4 → (flat4 l)[j * 4 + k]? = some (.int .i64 ((l.getD j []).getD k 0))
  | [], _, j, _, h, _ => by simp at h
  | r :: l, h, 0, k, _, hk => by
    have hr := h r List.mem_cons_self
    unfold flat4
    rw [List.flatMap_cons, List.getElem?_append_left (by rw [List.length_map]; omega)]
    have hk' : k < r.length := by omega
    simp [List.getElem?_eq_getElem hk']
  | r :: l, h, j + 1, k, hj, hk => by
    have hr := h r List.mem_cons_self
    have := flat4_get l (fun x hx => h x (List.mem_cons_of_mem _ hx)) j k (by simpa using hj) hk
    unfold flat4 at this ⊢
    rw [List.flatMap_cons, List.getElem?_append_right (by rw [List.length_map]; omega), List.length_map, hr, show (j + 1) * 4 + k - 4 = j * 4 + k by omega, this]
    simp
theorem FoursAt.of_owns {w : World} {base : Nat} {e : TypeId} {ao : Option Addr} {n cap : Nat} {l : List (List Int)} (h4 : ∀ r ∈ l, r.length = 4) (h : w.ownsRow base e 4 (.slice ao n cap) n (flat4 l)) : FoursAt w ao l := by
  intro j hj
  have hl := h.1
  rw [flat4_len l h4] at hl
  rcases h.2 with ⟨h1, h2⟩ | ⟨g, cap', cur, h1, _⟩
  · omega
  · simp only [Value.slice.injEq] at h1
    obtain ⟨rfl, _, rfl⟩ := h1
    refine ⟨g, 0, rfl, fun k hk => ?_⟩
    have := h.cellAt (j * 4 + k) (by omega)
    rw [Nat.zero_add, this, flat4_get l h4 j k hj hk]
end Go.Mine
