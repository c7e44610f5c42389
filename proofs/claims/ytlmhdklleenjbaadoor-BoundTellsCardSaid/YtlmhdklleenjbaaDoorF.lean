/- BoundEdges: the edge is there. -/
import Derived.Test.YtlmhdklleenjbaaDoorE
import Derived.Test.YtlmhdklleenjbaaDoorQIn
namespace Go.Proofs.YtlmhdklleenjbaaDoor
open Go.RowKit Go.Mine Go.Sort

theorem mem_edgeL (lo hi x : Int) : x ∈ edgeL lo hi ↔ (x = lo ∨ x = lo + 1 ∨ x = lo + (hi - lo) / 2 ∨ x = hi - 1 ∨ x = hi) ∧ lo ≤ x ∧ x ≤ hi := by
  unfold edgeL
  rw [(sorted_rise _).2]
  unfold kept five
  simp only [List.mem_filter, List.mem_cons, List.not_mem_nil, or_false, Bool.not_eq_true', decide_eq_false_iff_not]
  constructor
  · rintro ⟨h1, h2⟩; exact ⟨h1, by omega, by omega⟩
  · rintro ⟨h1, h2⟩; exact ⟨h1, by omega⟩
theorem edgeL_len (lo hi : Int) : (edgeL lo hi).length ≤ 5 := by
  have h1 := sorted_len (kept lo hi (five lo hi))
  have h2 : (kept lo hi (five lo hi)).length ≤ 5 := List.length_filter_le _ _
  unfold edgeL
  omega
theorem rise_lt {ys : List Int} (h : Rise ys) {i j : Nat} (hij : i < j) (hj : j < ys.length) : ys.getD i 0 < ys.getD j 0 := by
  have := List.pairwise_iff_getElem.1 h i j (by omega) hj hij
  simpa [hj, show i < ys.length by omega] using this
theorem edgeL_mem {lo hi : Int} {i : Nat} (hi' : i < (edgeL lo hi).length) : lo ≤ (edgeL lo hi).getD i 0 ∧ (edgeL lo hi).getD i 0 ≤ hi := by
  have : (edgeL lo hi).getD i 0 ∈ edgeL lo hi := by simp [hi']
  exact ((mem_edgeL lo hi _).1 this).2
theorem edgeL_first {lo hi : Int} (h : lo ≤ hi) : 0 < (edgeL lo hi).length ∧ (edgeL lo hi).getD 0 0 = lo ∧ (edgeL lo hi).getD ((edgeL lo hi).length - 1) 0 = hi := by
  have h1 : lo ∈ edgeL lo hi := (mem_edgeL lo hi lo).2 ⟨.inl rfl, by omega, h⟩
  have h2 : hi ∈ edgeL lo hi := (mem_edgeL lo hi hi).2 ⟨.inr (.inr (.inr (.inr rfl))), h, by omega⟩
  obtain ⟨j, hj, e1⟩ := List.mem_iff_getElem.1 h1
  obtain ⟨k, hk, e2⟩ := List.mem_iff_getElem.1 h2
  have g1 : (edgeL lo hi).getD j 0 = lo := by simp [hj, e1]
  have g2 : (edgeL lo hi).getD k 0 = hi := by simp [hk, e2]
  have hr := (sorted_rise (kept lo hi (five lo hi))).1
  refine ⟨by omega, ?_, ?_⟩
  · by_cases e : j = 0
    · subst e; exact g1
    · have a := rise_lt hr (show 0 < j by omega) hj
      have b := (edgeL_mem (lo := lo) (hi := hi) (i := 0) (by omega)).1
      unfold edgeL at g1 b
      rw [g1] at a
      omega
  · by_cases e : k = (edgeL lo hi).length - 1
    · rw [← e]; exact g2
    · have a := rise_lt hr (show k < (edgeL lo hi).length - 1 by omega) (show (edgeL lo hi).length - 1 < (edgeL lo hi).length by omega)
      have b := (edgeL_mem (lo := lo) (hi := hi) (i := (edgeL lo hi).length - 1) (by omega)).2
      have a' : (edgeL lo hi).getD k 0 < (edgeL lo hi).getD ((edgeL lo hi).length - 1) 0 := a
      rw [g2] at a'
      omega
theorem edgeL_fact : edgeL 1 9 = [1, 2, 5, 8, 9] := by
  refine rise_ext (sorted_rise _).1 (by unfold Rise; decide) fun x => ?_
  rw [mem_edgeL 1 9 x]
  simp only [List.mem_cons, List.not_mem_nil, or_false]
  omega
theorem edgeL_rise (lo hi : Int) {i : Nat} (h0 : 0 < i) (h : i < (edgeL lo hi).length) : (edgeL lo hi).getD (i - 1) 0 < (edgeL lo hi).getD i 0 :=
  rise_lt (sorted_rise (kept lo hi (five lo hi))).1 (show i - 1 < i by omega) h

theorem five_nine (W : World) : Calls Tryd.prog 5 #[.int .i64 1, .int .i64 9] W fun e w' => (∃ g cap, e = .returned (.tuple #[.slice (some ⟨g, 0, none⟩) 5 cap, .nilIface])) ∧ Below W.heap.size W w' := by
  refine (edges_ok 1 9 W (by omega) (by omega) (by omega)).mono ?_
  rintro e w' ⟨g, cap, rfl, _, hb⟩
  exact ⟨⟨g, cap, by rw [edgeL_fact]; rfl⟩, hb⟩

end Go.Proofs.YtlmhdklleenjbaaDoor
