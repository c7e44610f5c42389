/- LessPlace: all but one (as LessPlace.tpl, without the contracts of package slices). -/
import Derived.Test.YtoneaocjooefiaaDoorSuite9
import Derived.Deep.AppendLies
import Derived.Deep.RegionLaw
namespace Go.Proofs.YtoneaocjooefiaaDoor
open Go.RowKit Go.Mine Go.Mine.Suite

theorem IntsAt.short {k : IntKind} {w : World} {ao : Option Addr} {xs : List Int} (h : xs.length = 0) : IntsAt k w ao xs := fun j hj => by omega
/-- The head of a slice, and what is behind a place. -/
theorem IntsAt.take {w : World} {ao : Option Addr} {xs : List Int} (h : IntsAt .i64 w ao xs) (k : Nat) : IntsAt .i64 w ao (xs.take k) := by
  intro j hj
  rw [List.length_take] at hj
  obtain ⟨b, o, h1, h2⟩ := h j (by omega)
  refine ⟨b, o, h1, ?_⟩
  rw [h2]
  simp [show j < k by omega]
theorem IntsAt.drop {w : World} {b o : Nat} {xs : List Int} (h : IntsAt .i64 w (some ⟨b, o, none⟩) xs) (k : Nat) : IntsAt .i64 w (some ⟨b, o + k, none⟩) (xs.drop k) := by
  intro j hj
  rw [List.length_drop] at hj
  obtain ⟨b', o', h1, h2⟩ := h (k + j) (by omega)
  simp only [Option.some.injEq, Addr.mk.injEq, and_true] at h1
  obtain ⟨rfl, rfl⟩ := h1
  refine ⟨b, o + k, rfl, ?_⟩
  rw [Nat.add_assoc, h2]
  simp

set_option maxHeartbeats 1000000 in
theorem less_place (ao : Option Addr) (c : Nat) (xs : List Int) (i : Nat) (w : World) (hx : IntsAt .i64 w ao xs) (hi : i < xs.length) (hl : xs.length ≤ 12) (hc : xs.length ≤ c) :
    Calls Tryd.prog 14 #[.slice ao xs.length c, .int .i64 i] w fun e w' => ∃ v, e = .returned v ∧ w'.ownsRow w.heap.size 3 1 v (xs.eraseIdx i).length ((xs.eraseIdx i).map (Value.int .i64)) ∧ Below w.heap.size w w' := by
  obtain ⟨i0, hi0, hz0, hz1, hz2⟩ := info_parts info3
  obtain ⟨b, o, rfl, _⟩ := hx i hi
  obtain ⟨hh, hhe⟩ : ∃ hh, hh = i + 1 := ⟨_, rfl⟩
  have hji : (i : Int) + 1 = (hh : Int) := by omega
  have hwr : IntKind.i64.wrap (hh : Int) = hh := by rw [IntKind.wrap_i64]; omega
  have hhl : hh ≤ xs.length := by omega
  have hhc : hh ≤ c := by omega
  have hic : i ≤ c := by omega
  have hrest : IntsAt .i64 w (if c = hh then some ⟨b, o, none⟩ else some ⟨b, o + hh, none⟩) (xs.drop hh) := by
    by_cases h : c = hh
    · exact IntsAt.short (by simp; omega)
    · rw [if_neg h]; exact IntsAt.drop hx hh
  have htake := IntsAt.take hx i
  have her : xs.take i ++ xs.drop hh = xs.eraseIdx i := by rw [List.eraseIdx_eq_take_drop_succ, hhe]
  have hel : (xs.eraseIdx i).length = i + (xs.length - hh) := by rw [← her, List.length_append, List.length_take, List.length_drop]; omega
  have HER := Lib.hid her
  have HEL := Lib.hid hel
  have HT := Lib.hid htake
  have hd12 : xs.length - hh ≤ 12 := by omega
  clear hx her hel htake hhe
  rcases (Classical.em (c = hh)) with hcap | hcap
  · have hle : xs.length = hh := by omega
    rw [if_pos hcap] at hrest
    have HR := Lib.hid hrest
    clear hrest
    have HLE := Lib.hid hle
    subst hcap
    clear hle
    go_enter Tryd.func14, Tryd.ntmps14
    go_wp2_with fail
    go_region_law (first
      | ((refine step_append_any _ rfl (.tmp 5) (.tmp 8) 24 rfl w.heap.size 3 i0 (.int .i64 0) 1 8 Tryd.underlying24 hi0 hz0 hz1 hz2 rfl (by decide) _ 0 _ [] rfl ?_ (some ⟨b, o, none⟩) i _ ((xs.take i).map (Value.int .i64)) rfl (by rw [List.length_map, List.length_take]; omega) (fun h => by cases h) ?_ (ints1 _ _) ?_ ?_ ?_ _ rfl ?_)
         · exact owns_empty (Nat.le_refl _) (heap_drew_at (heap_alloc_at _ _ rfl))
         · exact (HT.out.below (Nat.le_refl _) ((Below.refl _ _).alloc (Nat.le_refl _) _).drew).news
         · unfold maxLen; omega
         · omega
         · simp
         intro g1 cap1 w7 hown7 hgrow7 hat7 hlt7
         simp only [Nat.zero_add, List.nil_append] at hown7 ⊢
         have hb7 : Below w.heap.size w w7 := Below.grown ((Below.refl _ _).alloc (Nat.le_refl _) _).drew hgrow7 (by simp) (by simp))
      | ((refine step_append_any _ rfl (.tmp 9) (.tmp 13) 24 rfl w.heap.size 3 i0 (.int .i64 0) 1 8 Tryd.underlying24 hi0 hz0 hz1 hz2 rfl (by decide) _ i _ ((xs.take i).map (Value.int .i64)) rfl hown7 (some ⟨b, o, none⟩) _ _ ((xs.drop c).map (Value.int .i64)) rfl (by rw [List.length_map, List.length_drop]; omega) (fun h => by cases h) ?_ (ints1 _ _) ?_ ?_ ?_ _ rfl ?_)
         · exact (HR.out.below (Nat.le_refl _) hb7).news
         · unfold maxLen; omega
         · omega
         · exact hb7.size
         intro g2 cap2 w8 hown8 hgrow8 hat8 hlt8
         have hb8 : Below w.heap.size w w8 := Below.grown hb7 hgrow8 hb7.size (by have := (hown7.lt g1 rfl).1; simp; omega)))
    all_goals
      go_wp2_with fail
      go_ret
      refine ⟨_, rfl, ?_, hb8⟩
      rw [HEL.out, ← HER.out, List.map_append]
      have h0 : xs.length - c = 0 := by have := HLE.out; omega
      rw [h0]
      exact hown8
  · rw [if_neg hcap] at hrest
    have HR := Lib.hid hrest
    clear hrest
    go_enter Tryd.func14, Tryd.ntmps14
    go_wp2_with fail
    go_region_law (first
      | ((refine step_append_any _ rfl (.tmp 5) (.tmp 8) 24 rfl w.heap.size 3 i0 (.int .i64 0) 1 8 Tryd.underlying24 hi0 hz0 hz1 hz2 rfl (by decide) _ 0 _ [] rfl ?_ (some ⟨b, o, none⟩) i c ((xs.take i).map (Value.int .i64)) rfl (by rw [List.length_map, List.length_take]; omega) (fun h => by cases h) ?_ (ints1 _ _) ?_ ?_ ?_ _ rfl ?_)
         · exact owns_empty (Nat.le_refl _) (heap_drew_at (heap_alloc_at _ _ rfl))
         · exact (HT.out.below (Nat.le_refl _) ((Below.refl _ _).alloc (Nat.le_refl _) _).drew).news
         · unfold maxLen; omega
         · omega
         · simp
         intro g1 cap1 w7 hown7 hgrow7 hat7 hlt7
         simp only [Nat.zero_add, List.nil_append] at hown7 ⊢
         have hb7 : Below w.heap.size w w7 := Below.grown ((Below.refl _ _).alloc (Nat.le_refl _) _).drew hgrow7 (by simp) (by simp))
      | ((refine step_append_any _ rfl (.tmp 9) (.tmp 13) 24 rfl w.heap.size 3 i0 (.int .i64 0) 1 8 Tryd.underlying24 hi0 hz0 hz1 hz2 rfl (by decide) _ i _ ((xs.take i).map (Value.int .i64)) rfl hown7 (some ⟨b, o + hh, none⟩) (xs.length - hh) (c - hh) ((xs.drop hh).map (Value.int .i64)) rfl (by rw [List.length_map, List.length_drop]; omega) (fun h => by cases h) ?_ (ints1 _ _) ?_ ?_ ?_ _ rfl ?_)
         · exact (HR.out.below (Nat.le_refl _) hb7).news
         · unfold maxLen; omega
         · omega
         · exact hb7.size
         intro g2 cap2 w8 hown8 hgrow8 hat8 hlt8
         have hb8 : Below w.heap.size w w8 := Below.grown hb7 hgrow8 hb7.size (by have := (hown7.lt g1 rfl).1; simp; omega)))
    all_goals
      go_wp2_with fail
      go_ret
      refine ⟨_, rfl, ?_, hb8⟩
      rw [HEL.out, ← HER.out, List.map_append]
      exact hown8
end Go.Proofs.YtoneaocjooefiaaDoor
