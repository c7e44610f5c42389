/- Slices of numbers, cut; what slices.Concat makes of two such. No conditions beyond sizes. -/
import Derived.Test.YtpmfpegjkfnnkaaConcat2
namespace Go.Proofs.Ytpmfpegjkfnnkaa
open Go.RowKit Go.Mine

/-- The head of a slice, and what is behind a place. -/
theorem IntsAt.take {w : World} {ao : Option Addr} {xs : List Int} (h : IntsAt .i64 w ao xs) (k : Nat) : IntsAt .i64 w ao (xs.take k) := by
  intro j hj
  rw [List.length_take] at hj
  obtain ⟨b, o, h1, h2⟩ := h j (by omega)
  refine ⟨b, o, h1, ?_⟩
  rw [h2]
  simp [List.getElem?_take, show j < k by omega]
theorem IntsAt.drop {w : World} {b o : Nat} {xs : List Int} (h : IntsAt .i64 w (some ⟨b, o, none⟩) xs) (k : Nat) : IntsAt .i64 w (some ⟨b, o + k, none⟩) (xs.drop k) := by
  intro j hj
  rw [List.length_drop] at hj
  obtain ⟨b', o', h1, h2⟩ := h (k + j) (by omega)
  simp only [Option.some.injEq, Addr.mk.injEq, and_true] at h1
  obtain ⟨rfl, rfl⟩ := h1
  refine ⟨b, o + k, rfl, ?_⟩
  rw [Nat.add_assoc, h2]
  simp

theorem rest_of {wr : World} {B g og cap : Nat} {ls : List Int} (hom : wr.ownsRow B 3 1 (.slice (some ⟨g, og, none⟩) ls.length cap) ls.length (ls.map (Value.int .i64))) (h12 : ls.length ≤ 12) (j hi : Nat) (hj : j ≤ ls.length) (a2 : Option Addr) (n2 c2 : Nat) (hn2 : n2 = ls.length - hi)
    (h2 : IntsAt .i64 wr a2 (ls.drop hi)) (h2n : a2 = none → n2 = 0) :
    Calls Try.prog 18 #[.slice (some ⟨wr.heap.size, 0, none⟩) 2 2] (wr.alloc (.cells #[.slice (some ⟨g, og, none⟩) j cap, .slice a2 n2 c2] 23)).drew fun e w' => ∃ v', e = .returned v' ∧
      w'.ownsRow wr.heap.size 3 1 v' (ls.take j ++ ls.drop hi).length ((ls.take j ++ ls.drop hi).map (Value.int .i64)) ∧ Below wr.heap.size wr w' := by
  subst hn2
  have hb : Below wr.heap.size wr (wr.alloc (.cells #[.slice (some ⟨g, og, none⟩) j cap, .slice a2 (ls.length - hi) c2] 23)).drew := ((Below.refl _ _).alloc (Nat.le_refl _) _).drew
  have e1 : (ls.take j).length = j := by rw [List.length_take]; omega
  have e2 : (ls.drop hi).length = ls.length - hi := List.length_drop
  refine (concat_two wr.heap.size (some ⟨g, og, none⟩) a2 cap c2 (ls.take j) (ls.drop hi) _ ?_ ?_ ?_ ?_ (fun h => by cases h) ?_ (by omega)).mono ?_
  · rw [e1]; simp [go_sem]
  · rw [e2]; simp [go_sem]
  · exact (IntsAt.take (IntsAt.of_owns hom) j).below (Nat.le_refl _) hb
  · exact h2.below (Nat.le_refl _) hb
  · rw [e2]; exact h2n
  · rintro e w' ⟨v', rfl, ho, hb'⟩
    refine ⟨v', rfl, ?_, hb.trans (hb'.mono hb.size)⟩
    rw [List.length_append]
    exact owns_mono ho hb.size

theorem IntsAt.short {w : World} {ao : Option Addr} {xs : List Int} (h : xs.length = 0) : IntsAt .i64 w ao xs := by
  intro j hj; omega
end Go.Proofs.Ytpmfpegjkfnnkaa
