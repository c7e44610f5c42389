/- assayerlaw4.pals, grammar. No conditions. -/
import Derived.Test.YtfdjnofkoegbdaaDoorGram3
import Derived.Test.YtfdjnofkoegbdaaDoorGramQ
namespace Go.Proofs.YtfdjnofkoegbdaaDoor
open Go.RowKit Go.Mine Go.Mine.Gram

theorem pals_any (W : World) : Calls Tryd.prog 7 #[] W fun e w' => ∃ ao, e = .returned (.slice ao 1 1) ∧ GridAt w' ao palsG ∧ Below W.heap.size W w' := by
  go_enter Tryd.func7, Tryd.ntmps7
  go_wp2_with fail
  go_ret
  have hb : Below W.heap.size W (((((((W.alloc (Obj.cells #[] 3)).alloc (Obj.cells #[Value.int IntKind.i64 0] 3)).alloc (Obj.cells #[Value.int IntKind.i64 1] 3)).alloc (Obj.cells #[Value.int IntKind.i64 0, Value.int IntKind.i64 (-1), Value.int IntKind.i64 0] 3)).alloc
      (Obj.cells #[Value.int IntKind.i64 1, Value.int IntKind.i64 (-1), Value.int IntKind.i64 1] 3)).alloc
      (Obj.cells #[Value.slice (some { block := W.heap.size, off := 0 }) 0 0, Value.slice (some { block := W.heap.size + 1, off := 0 }) 1 1, Value.slice (some { block := W.heap.size + 1 + 1, off := 0 }) 1 1, Value.slice (some { block := W.heap.size + 1 + 1 + 1, off := 0 }) 3 3, Value.slice (some { block := W.heap.size + 1 + 1 + 1 + 1, off := 0 }) 3 3] 22)).alloc
      (Obj.cells #[Value.slice (some { block := W.heap.size + 1 + 1 + 1 + 1 + 1, off := 0 }) 5 5] 36)) :=
    (((((((Below.refl _ _).alloc (Nat.le_refl _) _).alloc (by simp) _).alloc (by simp; omega) _).alloc (by simp; omega) _).alloc (by simp; omega) _).alloc (by simp; omega) _).alloc (by simp; omega) _
  refine ⟨_, rfl, ?_, hb⟩
  clear hb
  intro j hj
  obtain rfl : j = 0 := by simp [palsG] at hj; omega
  refine ⟨_, 0, some ⟨W.heap.size + 1 + 1 + 1 + 1 + 1, 0, none⟩, 5, rfl, by simp [go_sem, palsG], ?_, by decide, (fun h => by cases h), by decide⟩
  intro k hk
  have hk5 : k < 5 := hk
  rcases (show k = 0 ∨ k = 1 ∨ k = 2 ∨ k = 3 ∨ k = 4 by omega) with rfl | rfl | rfl | rfl | rfl
  · exact ⟨_, 0, some ⟨W.heap.size, 0, none⟩, 0, rfl, by simp [go_sem, palsG], (fun i hi => by simp [palsG] at hi), by decide, (fun h => by cases h), by decide⟩
  · refine ⟨_, 0, some ⟨W.heap.size + 1, 0, none⟩, 1, rfl, by simp [go_sem, palsG], (fun i hi => ?_), by decide, (fun h => by cases h), by decide⟩
    have hi1 : i < 1 := hi
    obtain rfl : i = 0 := by omega
    exact ⟨_, 0, rfl, by simp [go_sem, palsG]⟩
  · refine ⟨_, 0, some ⟨W.heap.size + 1 + 1, 0, none⟩, 1, rfl, by simp [go_sem, palsG], (fun i hi => ?_), by decide, (fun h => by cases h), by decide⟩
    have hi1 : i < 1 := hi
    obtain rfl : i = 0 := by omega
    exact ⟨_, 0, rfl, by simp [go_sem, palsG]⟩
  · refine ⟨_, 0, some ⟨W.heap.size + 1 + 1 + 1, 0, none⟩, 3, rfl, by simp [go_sem, palsG], (fun i hi => ?_), by decide, (fun h => by cases h), by decide⟩
    have hi1 : i < 3 := hi
    rcases (show i = 0 ∨ i = 1 ∨ i = 2 by omega) with rfl | rfl | rfl
    all_goals exact ⟨_, 0, rfl, by simp [go_sem, palsG]⟩
  · refine ⟨_, 0, some ⟨W.heap.size + 1 + 1 + 1 + 1, 0, none⟩, 3, rfl, by simp [go_sem, palsG], (fun i hi => ?_), by decide, (fun h => by cases h), by decide⟩
    have hi1 : i < 3 := hi
    rcases (show i = 0 ∨ i = 1 ∨ i = 2 by omega) with rfl | rfl | rfl
    all_goals exact ⟨_, 0, rfl, by simp [go_sem, palsG]⟩

theorem grammar_true (W : World) : Calls Tryd.prog 9 #[] W fun e w' => e = .returned (.bool true) ∧ Below W.heap.size W w' := by
  go_enter Tryd.func9, Tryd.ntmps9
  go_wp2_with fail
  refine (pals_any W).mono ?_
  rintro e w1 ⟨ao, rfl, hg1, hb1⟩
  have hba : Below w1.heap.size w1 (w1.alloc (.cells #[.int .i64 0, .int .i64 1, .int .i64 0] 3)) := (Below.refl _ _).alloc (Nat.le_refl _) _
  have hi1 : IntsAt .i64 (w1.alloc (.cells #[.int .i64 0, .int .i64 1, .int .i64 0] 3)) (some ⟨w1.heap.size, 0, none⟩) [0, 1, 0] := by
    intro i hi
    have hi3 : i < 3 := hi
    rcases (show i = 0 ∨ i = 1 ∨ i = 2 by omega) with rfl | rfl | rfl
    all_goals exact ⟨_, 0, rfl, by simp [go_sem]⟩
  have HH := Lib.hid (has_any palsG [0, 1, 0] ao (some ⟨w1.heap.size, 0, none⟩) 1 3 _ (hg1.below (Nat.le_refl _) hba) (by decide) hi1 (by decide))
  have HB1 := Lib.hid (hb1.trans (hba.mono hb1.size))
  clear hg1 hb1 hba hi1
  go_wp2_with fail
  refine HH.out.mono ?_
  clear HH
  rintro e w2 ⟨hp, hb2⟩
  have HB2 := Lib.hid (HB1.out.trans (hb2.mono HB1.out.size))
  clear hb2 HB1
  rcases hp with ⟨h, _⟩ | ⟨_, h, _⟩ | ⟨_, _, b, rfl, hbw⟩
  · exact absurd pals_ok h
  · simp at h
  obtain rfl := hbw.2 word_010
  clear hbw
  go_wp2_with fail
  refine (pals_any w2).mono ?_
  rintro e w3 ⟨ao2, rfl, hg3, hb3⟩
  have hba : Below w3.heap.size w3 (w3.alloc (.cells #[.int .i64 0, .int .i64 1] 3)) := (Below.refl _ _).alloc (Nat.le_refl _) _
  have hi3 : IntsAt .i64 (w3.alloc (.cells #[.int .i64 0, .int .i64 1] 3)) (some ⟨w3.heap.size, 0, none⟩) [0, 1] := by
    intro i hi
    have hi3 : i < 2 := hi
    rcases (show i = 0 ∨ i = 1 by omega) with rfl | rfl
    all_goals exact ⟨_, 0, rfl, by simp [go_sem]⟩
  have HH := Lib.hid (has_any palsG [0, 1] ao2 (some ⟨w3.heap.size, 0, none⟩) 1 2 _ (hg3.below (Nat.le_refl _) hba) (by decide) hi3 (by decide))
  have HB3 := Lib.hid (HB2.out.trans ((hb3.trans (hba.mono hb3.size)).mono HB2.out.size))
  clear hg3 hb3 hba hi3 HB2
  go_wp2_with fail
  refine HH.out.mono ?_
  clear HH
  rintro e w4 ⟨hp, hb4⟩
  have HB4 := Lib.hid (HB3.out.trans (hb4.mono HB3.out.size))
  clear hb4 HB3
  rcases hp with ⟨h, _⟩ | ⟨_, h, _⟩ | ⟨_, _, b, rfl, hbw⟩
  · exact absurd pals_ok h
  · simp at h
  have hbf : b = false := by
    cases b
    · rfl
    · exact absurd (hbw.1 rfl) word_01
  subst hbf
  clear hbw
  go_wp2_with fail
  go_ret
  exact ⟨rfl, HB4.out⟩
end Go.Proofs.YtfdjnofkoegbdaaDoor
