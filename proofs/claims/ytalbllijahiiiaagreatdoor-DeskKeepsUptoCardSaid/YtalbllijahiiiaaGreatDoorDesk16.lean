/- expr.Check at a desk's expression. -/
import Derived.Test.YtalbllijahiiiaaGreatDoorDesk15
namespace Go.Proofs.YtalbllijahiiiaaGreatDoor
open Go.RowKit Go.Mine Go.Mine.Desk

/-- An expression without parts; the desk's expression. -/
abbrev leafE (k n : Int) : Value := .agg #[.int .i64 k, .int .i64 n, .slice none 0 0]
abbrev wholeE (eb : Nat) : Value := .agg #[.int .i64 7, .int .i64 0, .slice (some ⟨eb, 0, none⟩) 2 2]
def ExprAt (w : World) (eb : Nat) (n : Int) : Prop := Blk w eb 41 #[.int .i64 2, .int .i64 0, .slice none 0 0, .int .i64 1, .int .i64 n, .slice none 0 0]

theorem parts_leaf (k n d : Int) (hd : 0 ≤ d ∧ d < 6) (w : World) : Calls Tryz.prog 143 #[leafE k n, .int .i64 d] w fun e w' => e = .returned (.int .i64 1) ∧ Below w.heap.size w w' := by
  have h1 : ¬ (6 ≤ d) := by omega
  have h2 : d < 6 := hd.2
  have HB := Lib.hid ((Below.refl w.heap.size w).alloc (Nat.le_refl _) (.cells #[.int .i64 k, .int .i64 n, .slice none 0 0] 41))
  go_enter Tryz.func143, Tryz.ntmps143
  go_wp2_with fail
  refine wp_loop_rounds 1 ?_
  rw [rounds_succ]
  go_wp2_with fail
  go_ret
  exact ⟨rfl, HB.out⟩
set_option maxRecDepth 100000 in
set_option maxHeartbeats 1000000 in
theorem parts_whole (n : Int) (eb : Nat) (w : World) (he : ExprAt w eb n) : Calls Tryz.prog 143 #[wholeE eb, .int .i64 0] w fun e w' => e = .returned (.int .i64 3) ∧ Below w.heap.size w w' := by
  obtain ⟨w0, hw0⟩ : ∃ w0, w0 = w.alloc (.cells #[.int .i64 7, .int .i64 0, .slice (some ⟨eb, 0, none⟩) 2 2] 41) := ⟨_, rfl⟩
  have hb0 : Below w.heap.size w w0 := by rw [hw0]; exact (Below.refl _ _).alloc (Nat.le_refl _) _
  have HB0 := Lib.hid (And.intro hb0 ((show Blk w eb _ _ from he).below hb0))
  have HW := Lib.hid hw0
  have HEL := Lib.hid (show eb < w.heap.size from Blk.lt he)
  have c0 : w0.cell? ⟨eb, 0, none⟩ = some (.int .i64 2) := HB0.out.2.cell 0
  have c1 : w0.cell? ⟨eb, 1, none⟩ = some (.int .i64 0) := HB0.out.2.cell 1
  have c2 : w0.cell? ⟨eb, 2, none⟩ = some (.slice none 0 0) := HB0.out.2.cell 2
  obtain ⟨w1, hw1⟩ : ∃ w1, w1 = w0.alloc (.cells #[.int .i64 2, .int .i64 0, .slice none 0 0] 41) := ⟨_, rfl⟩
  have hb1 : Below w.heap.size w w1 := by rw [hw1]; exact hb0.alloc hb0.size _
  have HB1 := Lib.hid (And.intro hb1 ((show Blk w eb _ _ from he).below hb1))
  have HW1 := Lib.hid hw1
  have HC := Lib.hid (parts_leaf 2 0 1 (by omega) w1)
  rw [hw1, hw0] at HC
  rw [hw0] at c0 c1 c2
  clear hw0 hb0 hw1 hb1 he
  go_enter Tryz.func143, Tryz.ntmps143
  go_wp2_with fail
  refine wp_loop_rounds 3 ?_
  rw [rounds_succ]
  go_wp2_with fail
  refine HC.out.mono ?_
  clear HC
  rintro e w2 ⟨rfl, hb2⟩
  rw [← HW.out, ← HW1.out] at hb2
  have hb2' := HB1.out.1.trans (hb2.mono HB1.out.1.size)
  have HB2 := Lib.hid (And.intro hb2' (HB1.out.2.below hb2))
  have e0 : w2.cell? ⟨eb, 3, none⟩ = some (.int .i64 1) := HB2.out.2.cell 3
  have e1 : w2.cell? ⟨eb, 4, none⟩ = some (.int .i64 n) := HB2.out.2.cell 4
  have e2 : w2.cell? ⟨eb, 5, none⟩ = some (.slice none 0 0) := HB2.out.2.cell 5
  have HC2 := Lib.hid (parts_leaf 1 n 1 (by omega) (w2.alloc (.cells #[.int .i64 1, .int .i64 n, .slice none 0 0] 41)))
  clear hb2 hb2' c0 c1 c2
  go_wp2_with fail
  rw [rounds_succ]
  go_wp2_with fail
  refine HC2.out.mono ?_
  clear HC2
  rintro e w3 ⟨rfl, hb3⟩
  have HB3 := Lib.hid ((HB2.out.1.alloc HB2.out.1.size _).trans (hb3.mono (by have := HB2.out.1.size; simp; omega)))
  clear hb3
  go_wp2_with fail
  rw [rounds_succ]
  go_wp2_with fail
  go_ret
  exact ⟨rfl, HB3.out⟩
set_option maxRecDepth 100000 in
theorem each_leaf (k n : Int) (hk : k = 1 ∨ k = 2) (w : World) (hg : Gl w) : Calls Tryz.prog 144 #[leafE k n] w fun e w' => e = .returned .nilIface ∧ Below w.heap.size w w' := by
  obtain ⟨w0, hw0⟩ : ∃ w0, w0 = w.alloc (.cells #[.int .i64 k, .int .i64 n, .slice none 0 0] 41) := ⟨_, rfl⟩
  have hb0 : Below w.heap.size w w0 := by rw [hw0]; exact (Below.refl _ _).alloc (Nat.le_refl _) _
  have HW := Lib.hid hw0
  have HB := Lib.hid hb0
  have t1 : w0.cell? ⟨6, 1, none⟩ = some (.int .i64 0) := (hg.on hb0).takes 1 (by omega)
  have t2 : w0.cell? ⟨6, 2, none⟩ = some (.int .i64 0) := (hg.on hb0).takes 2 (by omega)
  have k0 : Blk w0 w.heap.size 41 #[.int .i64 k, .int .i64 n, .slice none 0 0] := by rw [hw0]; exact Blk.new _ _ _
  have c0 := k0.cell 0
  have c1 := k0.cell 1
  have c2 := k0.cell 2
  simp at c0 c1 c2
  clear hw0 hb0 hg k0
  rcases hk with rfl | rfl
  · go_enter Tryz.func144, Tryz.ntmps144
    go_wp2_with fail
    rw [← HW.out]
    go_quiet (fail)
    all_goals
      go_wp2_with fail
      refine wp_loop_rounds 1 ?_
      rw [rounds_succ]
      go_wp2_with fail
      go_ret
      exact ⟨rfl, below_drewN HB.out _⟩
  · go_enter Tryz.func144, Tryz.ntmps144
    go_wp2_with fail
    rw [← HW.out]
    go_quiet (fail)
    all_goals
      go_wp2_with fail
      refine wp_loop_rounds 1 ?_
      rw [rounds_succ]
      go_wp2_with fail
      go_ret
      exact ⟨rfl, below_drewN HB.out _⟩
set_option maxRecDepth 100000 in
set_option maxHeartbeats 1000000 in
theorem each_whole (n : Int) (eb : Nat) (w : World) (hg : Gl w) (he : ExprAt w eb n) : Calls Tryz.prog 144 #[wholeE eb] w fun e w' => e = .returned .nilIface ∧ Below w.heap.size w w' := by
  obtain ⟨w0, hw0⟩ : ∃ w0, w0 = w.alloc (.cells #[.int .i64 7, .int .i64 0, .slice (some ⟨eb, 0, none⟩) 2 2] 41) := ⟨_, rfl⟩
  have hb0 : Below w.heap.size w w0 := by rw [hw0]; exact (Below.refl _ _).alloc (Nat.le_refl _) _
  have HB0 := Lib.hid (And.intro hb0 ((show Blk w eb _ _ from he).below hb0))
  have HW := Lib.hid hw0
  have HG := Lib.hid hg
  have t7 : w0.cell? ⟨6, 7, none⟩ = some (.int .i64 2) := (hg.on hb0).takes 7 (by omega)
  have k0 : Blk w0 w.heap.size 41 #[.int .i64 7, .int .i64 0, .slice (some ⟨eb, 0, none⟩) 2 2] := by rw [hw0]; exact Blk.new _ _ _
  have c0 := k0.cell 0
  have c1 := k0.cell 1
  have c2 := k0.cell 2
  simp at c0 c1 c2
  clear hw0 hb0 hg k0
  go_enter Tryz.func144, Tryz.ntmps144
  go_wp2_with fail
  rw [← HW.out]
  go_quiet (fail)
  all_goals
    obtain ⟨wd, hwd⟩ : ∃ wd, wd = w0.drewN nq := ⟨_, rfl⟩
    have hbd : Below w.heap.size w wd := by rw [hwd]; exact below_drewN HB0.out.1 _
    have hed := (show Blk w eb _ _ from he).below hbd
    rw [← hwd]
    have q0 : wd.cell? ⟨eb, 0, none⟩ = some (.int .i64 2) := hed.cell 0
    have q1 : wd.cell? ⟨eb, 1, none⟩ = some (.int .i64 0) := hed.cell 1
    have q2 : wd.cell? ⟨eb, 2, none⟩ = some (.slice none 0 0) := hed.cell 2
    have p2 : wd.cell? ⟨w.heap.size, 2, none⟩ = some (.slice (some ⟨eb, 0, none⟩) 2 2) := by rw [hwd]; exact c2
    have hb1 := hbd.alloc hbd.size (.cells #[.int .i64 2, .int .i64 0, .slice none 0 0] 41)
    have HC := Lib.hid (each_leaf 2 0 (.inr rfl) (wd.alloc (.cells #[.int .i64 2, .int .i64 0, .slice none 0 0] 41)) (HG.out.on hb1))
    have HB1 := Lib.hid (And.intro hb1 ((show Blk w eb _ _ from he).below hb1))
    clear hwd hbd hed hb1 c0 c1 c2 t7
    go_wp2_with fail
    refine wp_loop_rounds 3 ?_
    rw [rounds_succ]
    go_wp2_with fail
    refine HC.out.mono ?_
    clear HC
    rintro e w2 ⟨rfl, hb2⟩
    have hb2' := HB1.out.1.trans (hb2.mono HB1.out.1.size)
    have HB2 := Lib.hid (And.intro hb2' (HB1.out.2.below hb2))
    have e0 : w2.cell? ⟨eb, 3, none⟩ = some (.int .i64 1) := HB2.out.2.cell 3
    have e1 : w2.cell? ⟨eb, 4, none⟩ = some (.int .i64 n) := HB2.out.2.cell 4
    have e2 : w2.cell? ⟨eb, 5, none⟩ = some (.slice none 0 0) := HB2.out.2.cell 5
    have hb3 := HB2.out.1.alloc HB2.out.1.size (.cells #[.int .i64 1, .int .i64 n, .slice none 0 0] 41)
    have HC2 := Lib.hid (each_leaf 1 n (.inl rfl) (w2.alloc (.cells #[.int .i64 1, .int .i64 n, .slice none 0 0] 41)) (HG.out.on hb3))
    have HB3 := Lib.hid hb3
    clear hb2 hb2' q0 q1 q2 p2 hb3
    go_wp2_with fail
    rw [rounds_succ]
    go_wp2_with fail
    refine HC2.out.mono ?_
    clear HC2
    rintro e w4 ⟨rfl, hb4⟩
    have HB4 := Lib.hid (HB3.out.trans (hb4.mono HB3.out.size))
    clear hb4
    go_wp2_with fail
    rw [rounds_succ]
    go_wp2_with fail
    go_ret
    exact ⟨rfl, HB4.out⟩
set_option maxHeartbeats 1000000 in
theorem expr_check (n : Int) (eb : Nat) (w : World) (hg : Gl w) (he : ExprAt w eb n) : Calls Tryz.prog 120 #[wholeE eb] w fun e w' => e = .returned .nilIface ∧ Below w.heap.size w w' := by
  obtain ⟨w0, hw0⟩ : ∃ w0, w0 = w.alloc (.cells #[.int .i64 7, .int .i64 0, .slice (some ⟨eb, 0, none⟩) 2 2] 41) := ⟨_, rfl⟩
  have hb0 : Below w.heap.size w w0 := by rw [hw0]; exact (Below.refl _ _).alloc (Nat.le_refl _) _
  have he0 : ExprAt w0 eb n := (show Blk w eb _ _ from he).below hb0
  have k0 : Blk w0 w.heap.size 41 #[.int .i64 7, .int .i64 0, .slice (some ⟨eb, 0, none⟩) 2 2] := by rw [hw0]; exact Blk.new _ _ _
  have HC := Lib.hid (parts_whole n eb w0 he0)
  have HW := Lib.hid hw0
  have HB := Lib.hid (And.intro hb0 (And.intro he0 (And.intro k0 (hg.on hb0))))
  rw [hw0] at HC
  clear hw0 hb0 he0 k0 hg he
  go_enter Tryz.func120, Tryz.ntmps120
  go_wp2_with fail
  refine HC.out.mono ?_
  clear HC
  rintro e w1 ⟨rfl, hb1⟩
  rw [← HW.out] at hb1
  have hb1' := HB.out.1.trans (hb1.mono HB.out.1.size)
  have k1 := HB.out.2.2.1.below hb1
  have c0 : w1.cell? ⟨w.heap.size, 0, none⟩ = some (.int .i64 7) := k1.cell 0
  have c1 : w1.cell? ⟨w.heap.size, 1, none⟩ = some (.int .i64 0) := k1.cell 1
  have c2 : w1.cell? ⟨w.heap.size, 2, none⟩ = some (.slice (some ⟨eb, 0, none⟩) 2 2) := k1.cell 2
  have HC2 := Lib.hid (each_whole n eb w1 (HB.out.2.2.2.on hb1) ((show Blk w0 eb _ _ from HB.out.2.1).below hb1))
  have HB1 := Lib.hid hb1'
  clear hb1 hb1' k1
  go_wp2_with fail
  refine HC2.out.mono ?_
  clear HC2
  rintro e w2 ⟨rfl, hb2⟩
  have HB2 := Lib.hid (HB1.out.trans (hb2.mono HB1.out.size))
  clear hb2
  go_wp2_with fail
  go_ret
  exact ⟨rfl, HB2.out⟩
end Go.Proofs.YtalbllijahiiiaaGreatDoor
