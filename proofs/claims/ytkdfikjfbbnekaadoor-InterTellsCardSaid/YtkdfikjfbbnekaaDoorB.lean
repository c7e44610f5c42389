import Derived.Test.YtkdfikjfbbnekaaDoorA
namespace Go.Proofs.YtkdfikjfbbnekaaDoor
open Go.RowKit Go.Mine Go.Mine.Inter

theorem info3 : (Tryd.prog.info? 3).map (fun i => (i.zero, i.size, i.bytes)) = some (some (.int .i64 0), 1, 8) := by kernel_rfl

set_option maxHeartbeats 400000 in
/-- With: a copy, one place turned. -/
theorem with_any (xs : List Int) (ao : Option Addr) (cap i : Nat) (x : Int) (W : World) (hx : IntsAt .i64 W ao xs) (hi : i < xs.length) (hl : xs.length ≤ 1000000) :
    Calls Tryd.prog 13 #[.slice ao xs.length cap, .int .i64 i, .int .i64 x] W fun e w' => ∃ g cap, e = .returned (.slice (some ⟨g, 0, none⟩) xs.length cap) ∧ IntsAt .i64 w' (some ⟨g, 0, none⟩) (xs.set i x) ∧ Below W.heap.size W w' := by
  obtain ⟨i0, hi0, hz0, hz1, hz2⟩ := info_parts info3
  obtain ⟨b, o, rfl, _⟩ := hx.plain (by omega)
  have hx1 : IntsAt .i64 (W.alloc (.cells #[] 3)) (some ⟨b, o, none⟩) xs := hx.below (Nat.le_refl _) ((Below.refl _ _).alloc (Nat.le_refl _) _)
  have HX := Lib.hid hx1.cells; clear hx1 hx
  have hown : (W.alloc (.cells #[] 3)).ownsRow W.heap.size 3 1 (.slice (some ⟨W.heap.size, 0, none⟩) 0 0) 0 [] := by
    have := World.ownsRow_lit (base := W.heap.size) (e := 3) (size := 1) W #[] 0 (Nat.le_refl _) (Nat.zero_le _) rfl
    simpa using this
  have hb0 : Below W.heap.size W (W.alloc (.cells #[] 3)) := (Below.refl _ _).alloc (Nat.le_refl _) _
  go_enter Tryd.func13, Tryd.ntmps13
  go_wp2_with (at_builtin; refine wpList_extend _ rfl _ _ 22 rfl W.heap.size 3 i0 (.int .i64 0) 1 8 Tryd.underlying22 hi0 hz0 hz1 hz2 rfl (by decide) _ _ _ rfl hown ⟨b, o, none⟩ xs.length cap (xs.map (Value.int .i64)) rfl (by simp) HX.out (ints1 _ _) (by omega) ?c3 ?c4 ?c5 ?_)
  case c3 => unfold maxLen; omega
  case c4 => omega
  case c5 => simp
  intro g cap1 w1 hown1 hg1
  try simp only [Nat.zero_add, List.nil_append] at hown1
  have hb1 := hb0.grown hg1 (by simp) (fun k hk => (hown.lt k hk).1)
  have hgs := (hown1.lt g rfl).1
  have hc : w1.cell? ⟨g, i, none⟩ = some (.int .i64 (xs.getD i 0)) := by rw [hown1.cellAt i (by omega)]; simp [hi]
  have hf := hown1.frozenAt i
  have hst := (hown1.stored i (.int .i64 x)).1
  have hb2 := hb1.setCell (p := ⟨g, i, none⟩) hgs (.int .i64 x)
  clear hown hb0 hg1 hb1 hown1
  go_wp2_with fail
  go_ret
  refine ⟨g, cap1, rfl, ?_, hb2⟩
  rw [← List.map_set] at hst
  exact IntsAt.of_owns hst

theorem two_at (W : World) : IntsAt .i64 (W.alloc (.cells #[.int .i64 1, .int .i64 2] 3)) (some ⟨W.heap.size, 0, none⟩) [1, 2] := by
  intro j hj
  refine ⟨_, _, rfl, ?_⟩
  simp at hj
  rcases (show j = 0 ∨ j = 1 by omega) with rfl | rfl <;> simp [go_sem]

theorem turned_any (W : World) : Calls Tryd.prog 4 #[] W fun e w' => e = .returned (.bool true) ∧ w' = W.alloc (.cells #[.int .i64 1, .int .i64 2] 3) := by
  have hm : mult [1, 2] = 3 := by decide
  have HM := Lib.hid hm; clear hm
  have hT := two_at W
  have HT := Lib.hid hT; clear hT
  go_enter Tryd.func4, Tryd.ntmps4
  go_wp2_with fail
  refine (Count_any [1, 2] _ 2 _ HT.out (by decide)).mono ?_
  rintro e w1 ⟨hp, rfl⟩
  rcases hp with ⟨_, rfl⟩ | ⟨hok, _⟩
  · rw [show ([1, 2] : List Int).map Int.toNat = [1, 2] from rfl, HM.out]
    go_wp2_with fail
    go_ret
    exact ⟨rfl, rfl⟩
  · exact absurd (by refine ⟨by decide, ?_, by decide⟩; intro x hx; simp at hx; omega) hok
end Go.Proofs.YtkdfikjfbbnekaaDoor
