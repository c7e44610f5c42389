/- blamed. No conditions. -/
import Derived.Test.YthfiecakmlpdiaaDoorSpect4
import Derived.Test.YthfiecakmlpdiaaDoorSInts
namespace Go.Proofs.YthfiecakmlpdiaaDoor
open Go.RowKit Go.Mine Go.Mine.Suite Go.Mine.Spec Go.Mine.Stab

theorem fact_pok : pok 2 [1, 2] [false, true] := ⟨⟨by decide, by decide, by decide, by decide⟩, rfl⟩
theorem fact_LO : LO [1, 2] [false, true] 1 0 := by unfold LO; left; decide
theorem fact_order (d : Nat → Nat) (hv : Vals d 2) (hs : SortedR (LO [1, 2] [false, true]) d 0 2) : ((List.range 2).map fun p => ((d p : Nat) : Int)) = [1, 0] := by
  have h0 := hv.1 0 (by omega)
  have h1 := hv.1 1 (by omega)
  have hne : d 0 ≠ d 1 := fun h => by have := hv.2 0 1 h; omega
  have hso := hs 0 1 (Nat.zero_le _) (by omega) (by omega)
  have e : d 0 = 1 ∧ d 1 = 0 := by
    by_cases e0 : d 0 = 0
    · exfalso
      have e1 : d 1 = 1 := by omega
      rw [e0, e1] at hso
      exact (LO_ord _ _).asymm _ _ fact_LO hso
    · omega
  simp [List.range, List.range.loop, e.1, e.2]
set_option maxHeartbeats 1000000 in
theorem blamed_any (W : World) : Calls Tryd.prog 4 #[] W fun e w' => e = .returned (.bool true) ∧ Below W.heap.size W w' := by
  obtain ⟨w1, hw1⟩ : ∃ w1, w1 = (W.alloc (.cells #[.int .u32 1, .int .u32 2] 44)).alloc (.cells #[.bool false, .bool true] 4) := ⟨_, rfl⟩
  have hb1 : Below W.heap.size W w1 := by rw [hw1]; exact ((Below.refl _ _).alloc (Nat.le_refl _) _).alloc (by simp) _
  have hn1 : w1.heap[W.heap.size]? = some (.cells #[.int .u32 1, .int .u32 2] 44 (0, 0)) := by rw [hw1, heap_alloc_old _ _ (by simp)]; exact heap_alloc_new _ _
  have hn2 : w1.heap[W.heap.size + 1]? = some (.cells #[.bool false, .bool true] 4 (0, 0)) := by rw [hw1]; exact heap_alloc_at _ _ (by simp)
  have ht : IntsAt .u32 w1 (some ⟨W.heap.size, 0, none⟩) (cast [1, 2]) := fun j hj => by
    have h : j = 0 ∨ j = 1 := by simp [cast] at hj; omega
    rcases h with rfl | rfl
    · exact ⟨_, _, rfl, by rw [cell_of_row _ _ 0 _ _ _ hn1]; rfl⟩
    · exact ⟨_, _, rfl, by rw [cell_of_row _ _ 1 _ _ _ hn1]; rfl⟩
  have hf : BoolsAt w1 (some ⟨W.heap.size + 1, 0, none⟩) [false, true] := fun j hj => by
    have h : j = 0 ∨ j = 1 := by simp at hj; omega
    rcases h with rfl | rfl
    · exact ⟨_, _, rfl, by rw [cell_of_row _ _ 0 _ _ _ hn2]; rfl⟩
    · exact ⟨_, _, rfl, by rw [cell_of_row _ _ 1 _ _ _ hn2]; rfl⟩
  have HO := Lib.hid (order_any 2 [1, 2] [false, true] (some ⟨W.heap.size, 0, none⟩) (some ⟨W.heap.size + 1, 0, none⟩) 2 2 w1 ht (by decide) (by decide) hf (by decide))
  have HB1 := Lib.hid hb1
  clear hb1 hn1 hn2 ht hf
  go_enter Tryd.func4, Tryd.ntmps4
  go_wp2_with fail
  rw [← hw1]
  clear hw1
  go_fit HO.out
  clear HO
  rintro e w2 ⟨hp, hb2⟩
  rcases hp with ⟨_, ao, cap, d, rfl, hi, hv, hs⟩ | ⟨h, _⟩
  rotate_left
  · exact absurd fact_pok h
  rw [show ((2 : Int)).toNat = 2 from rfl] at hi hv hs ⊢
  rw [fact_order d hv hs] at hi
  have HI := Lib.hid hi
  have HB2 := Lib.hid (HB1.out.trans (hb2.mono HB1.out.size))
  obtain ⟨w3, hw3⟩ : ∃ w3, w3 = w2.alloc (.cells #[.int .i64 1, .int .i64 0] 3) := ⟨_, rfl⟩
  have hb3 : Below w2.heap.size w2 w3 := by rw [hw3]; exact (Below.refl _ _).alloc (Nat.le_refl _) _
  have hn3 : w3.heap[w2.heap.size]? = some (.cells #[.int .i64 1, .int .i64 0] 3 (0, 0)) := by rw [hw3]; exact heap_alloc_new _ _
  have hy : IntsAt .i64 w3 (some ⟨w2.heap.size, 0, none⟩) [1, 0] := fun j hj => by
    have h : j = 0 ∨ j = 1 := by simp at hj; omega
    rcases h with rfl | rfl
    · exact ⟨_, _, rfl, by rw [cell_of_row _ _ 0 _ _ _ hn3]; rfl⟩
    · exact ⟨_, _, rfl, by rw [cell_of_row _ _ 1 _ _ _ hn3]; rfl⟩
  have HS := Lib.hid (Ints_any [1, 0] [1, 0] ao (some ⟨w2.heap.size, 0, none⟩) cap 2 w3 (HI.out.below (Nat.le_refl _) hb3) hy (by decide))
  rw [show decide (([1, 0] : List Int) = [1, 0]) = true from rfl] at HS
  have HB3 := Lib.hid (HB2.out.trans (hb3.mono HB2.out.size))
  clear hi hv hs hb2 hb3 hn3 hy
  go_wp2_with fail
  rw [← hw3]
  clear hw3
  go_fit HS.out
  clear HS
  rintro e w4 ⟨rfl, q, rfl⟩
  have HB4 := Lib.hid (below_drewN HB3.out q)
  go_wp2_with fail
  go_ret
  exact ⟨rfl, HB4.out⟩

end Go.Proofs.YthfiecakmlpdiaaDoor
