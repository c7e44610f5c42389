/- slices.Sort over a slice of the call's own: what turns, and where. No conditions. -/
import Derived.Test.YtppbaiilhaagdaaShelf
import Derived.Test.YtppbaiilhaagdaaOwnSort
namespace Go.Proofs.Ytppbaiilhaagdaa
open Go.RowKit Go.Mine Go.Sort

theorem sort_own (w : World) (base : Nat) (v : Value) (xs : List Int) (hs : xs.length ≤ 1000) (ho : w.ownsRow base 3 1 v xs.length (xs.map (Value.int .i64))) :
    Calls Try.prog 23 #[v] w fun e w' => e = .returned (.tuple #[]) ∧ w'.ownsRow base 3 1 v (xs.mergeSort fun x y => decide (x ≤ y)).length ((xs.mergeSort fun x y => decide (x ≤ y)).map (Value.int .i64)) ∧ w.grownBy w' v.ownBlock := by
  rcases ho.2 with ⟨hv, h0⟩ | ⟨g, cap, cur, hv, hg, _⟩
  · have hx : xs = [] := List.eq_nil_of_length_eq_zero h0
    subst hx
    subst hv
    refine (Try.slices_Sort_int_none none 0 w).mono ?_
    rintro e w' ⟨rfl, rfl⟩
    exact ⟨rfl, by simpa using World.ownsRow_nil _ _ _ _, World.grownBy.refl _ _⟩
  · subst hv
    obtain ⟨hh, hc, hm⟩ := own_holds ho
    refine (Try.slices_Sort_int g 0 cap xs w hh (ho.lt g rfl).2 (by omega)).mono ?_
    rintro e w' ⟨rfl, n, os, rfl⟩
    have h := own_put (ts := xs.mergeSort fun x y => decide (x ≤ y)) ho (List.length_mergeSort _) n os
    refine ⟨rfl, ?_, h.2⟩
    rw [List.length_mergeSort]
    exact h.1
end Go.Proofs.Ytppbaiilhaagdaa
