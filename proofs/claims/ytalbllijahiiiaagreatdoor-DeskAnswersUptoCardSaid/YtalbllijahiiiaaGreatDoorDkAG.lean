/- rank.branches. expr.Check at a desk's expression. -/
import Derived.Test.YtalbllijahiiiaaGreatDoorDkAF
section
namespace Go.Proofs.YtalbllijahiiiaaGreatDoor
open Go.RowKit Go.Mine Go.Mine.Desk

def BrAt (w : World) (B : Nat) (v : Value) (a b : Int) (n : Nat) (f : Nat → Nat) : Prop := ∃ g c, v = .slice (some ⟨g, 0, none⟩) n c ∧ ∀ k, k < n → ∃ uo uc, w.cell? ⟨g, k, none⟩ = some (.slice uo (f k) uc) ∧ RunAt w uo a b (f k) ∧ ∀ q p, uo = some ⟨q, p, none⟩ → B ≤ q
theorem BrAt.on {w w' : World} {B0 : Nat} {v : Value} {a b : Int} {n : Nat} {f : Nat → Nat} (h : BrAt w B0 v a b n f) {B : Nat} (hB : w.heap.size ≤ B) (hb : Below B w w') : BrAt w' B0 v a b n f := by
  obtain ⟨g, c, h1, h2⟩ := h
  refine ⟨g, c, h1, fun k hk => ?_⟩
  obtain ⟨uo, uc, h3, h4, h5⟩ := h2 k hk
  exact ⟨uo, uc, (hb.cell (by exact Nat.lt_of_lt_of_le (World.block_lt_of_cell? w _ h3) hB)).trans h3, h4.on hB hb, h5⟩
theorem infoGens : (Tryz.prog.info? 26).map (fun i => (i.zero, i.size, i.bytes)) = some (some (.slice none 0 0), 1, 24) := by kernel_rfl
set_option maxRecDepth 100000 in
set_option maxHeartbeats 1000000 in
theorem branches_int (a b : Int) (hr : (G.int a b).right) (w : World) : Calls Tryz.prog 83 #[intG a b] w fun e w' => (∃ v, e = .returned v ∧ BrAt w' w.heap.size v a b (b - a + 1).toNat fun _ => 0) ∧ Below w.heap.size w w' := by
  obtain ⟨i0, hi0, hz0, hz1, hz2⟩ := info_parts infoGens
  obtain ⟨ha, hb, hab, hba⟩ := id hr
  have hr1 : -1073741824 ≤ a ∧ a ≤ 1073741824 := ha
  obtain ⟨n, hn⟩ : ∃ n, n = (b - a + 1).toNat := ⟨_, rfl⟩
  have hn1 : n ≤ 1001 := by omega
  have hw1 : IntKind.i64.wrap (b - a) = b - a := IntWalk.i64_in _ (by omega)
  have hw2 : IntKind.i64.wrap (b - a + 1) = b - a + 1 := IntWalk.i64_in _ (by omega)
  have hw3 : wrap64 (b - a) = b - a := by unfold wrap64; omega
  have hw4 : wrap64 (b - a + 1) = b - a + 1 := by unfold wrap64; omega
  have hnc : b - a + 1 = (n : Int) := by omega
  obtain ⟨w0, hw0⟩ : ∃ w0, w0 = w.alloc (.cells #[.int .i64 2, .int .i64 a, .int .i64 b, .slice none 0 0] 28) := ⟨_, rfl⟩
  have hb0 : Below w.heap.size w w0 := by rw [hw0]; exact (Below.refl _ _).alloc (Nat.le_refl _) _
  have HB0 := Lib.hid hb0
  have HW := Lib.hid hw0
  have hmk : ∀ w, (Instr.makeSlice 129 (.int .i64 (n : Int)) (.int .i64 (n : Int))).run Tryz.prog w = .ok (.slice (some ⟨w.heap.size, 0, none⟩) n n) (w.alloc (.cells (madeCells #[.slice none 0 0] n) 26)) := fun w => by
    have hr := run_make (P := Tryz.prog) w 129 26 i0 (.slice none 0 0) Tryz.underlying129 hi0 hz0 .i64 .i64 n n (by omega) (Int.le_refl _) (by rw [hz2]; omega) (by omega)
    simp only [Int.toNat_natCast, hz1] at hr
    simpa [Value.cells] using hr
  rw [← hn]
  clear hr ha hb hb0 hn hw0
  go_enter Tryz.func83, Tryz.ntmps83
  go_wp2_with fail
  go_ret
  have hs0 : w0.heap.size = w.heap.size + 1 := by rw [HW.out]; simp
  refine ⟨⟨_, rfl, ⟨_, _, rfl, fun k hk => ⟨none, 0, ?_, fun q hq => absurd hq (Nat.not_lt_zero _), fun _ _ h => by cases h⟩⟩⟩, ?_⟩
  · rw [← HW.out]
    have h := World.rowIs_made w0 (.slice none 0 0) n 26
    rw [hs0] at h
    exact h.cell hk
  · rw [← HW.out]
    exact HB0.out.alloc HB0.out.size _
theorem owns_other {w w' : World} {base base' : Nat} {e e' : TypeId} {size size' : Nat} {v u : Value} {n m : Nat} {xs ys : List Value} (h : w.ownsRow base e size u n xs) (ho : w.ownsRow base' e' size' v m ys) (hne : e ≠ e') {cs : Array Value} {T : TypeId} (hg : (w.alloc (.cells cs T)).grownBy w' v.ownBlock) : w'.ownsRow base e size u n xs :=
  owns_same h fun g hk => by
    have hlt := (h.lt g hk).2
    rw [hg.block g (by simp; omega) (fun e => by
      rcases h.2 with ⟨rfl, _⟩ | ⟨g1, c1, cur1, rfl, _, hb1, _⟩
      · cases hk
      · rcases ho.2 with ⟨rfl, _⟩ | ⟨g2, c2, cur2, rfl, _, hb2, _⟩
        · cases e
        · cases hk
          cases e
          rw [hb1] at hb2
          simp only [Option.some.injEq, Obj.cells.injEq] at hb2
          exact hne hb2.2.1), Below.heap_alloc w _ g hlt]
set_option maxRecDepth 100000 in
set_option maxHeartbeats 2000000 in
theorem branches_many (N a b : Int) (gb : Nat) (hr : (G.many N a b).right) (w : World) (hgb : SubAt w gb a b) : Calls Tryz.prog 83 #[manyG N gb] w fun e w' => (∃ v, e = .returned v ∧ BrAt w' w.heap.size v a b (N + 1).toNat fun k => k) ∧ Below w.heap.size w w' := by
  obtain ⟨i0, hi0, hz0, hz1, hz2⟩ := info_parts infoGens
  obtain ⟨hN0, hN5, _⟩ := id hr
  obtain ⟨n, hn⟩ : ∃ n, n = (N + 1).toNat := ⟨_, rfl⟩
  have hn1 : n ≤ 6 := by omega
  have hn0 : 1 ≤ n := by omega
  have hw2 : IntKind.i64.wrap (N + 1) = (n : Int) := by rw [IntWalk.i64_in _ (by omega)]; omega
  have hw3 : wrap64 (N + 1) = (n : Int) := by unfold wrap64; omega
  obtain ⟨w0, hw0⟩ : ∃ w0, w0 = w.alloc (.cells #[.int .i64 4, .int .i64 N, .int .i64 0, .slice (some ⟨gb, 0, none⟩) 1 1] 28) := ⟨_, rfl⟩
  have hb0 : Below w.heap.size w w0 := by rw [hw0]; exact (Below.refl _ _).alloc (Nat.le_refl _) _
  have k0 : Blk w0 w.heap.size 28 #[.int .i64 4, .int .i64 N, .int .i64 0, .slice (some ⟨gb, 0, none⟩) 1 1] := by rw [hw0]; exact Blk.new _ _ _
  have HB0 := Lib.hid (And.intro hb0 k0)
  have HW := Lib.hid hw0
  have HGB := Lib.hid (And.intro hgb hgb.lt)
  obtain ⟨B, hB⟩ : ∃ B, w.heap.size = B := ⟨_, rfl⟩
  rw [← hn]
  clear hr hb0 hn hw0 k0 hgb
  go_enter Tryz.func83, Tryz.ntmps83
  go_wp2_with fail
  rw [← HW.out]
  go_loopw [3, 4, 23] (fun tv _ kv wr => ∃ (k : Nat) (vs : List Value), kv = .int .i64 (k : Int) ∧ k ≤ n ∧ RowKit.Hid (Below w.heap.size w wr ∧ Blk wr w.heap.size 28 #[.int .i64 4, .int .i64 N, .int .i64 0, .slice (some ⟨gb, 0, none⟩) 1 1] ∧ wr.ownsRow (w.heap.size + 1) 26 1 tv k vs ∧ ∀ j, j < k → ∃ u, vs[j]? = some u ∧ wr.ownsRow (w.heap.size + 1) 28 4 u j (flatG a b j))) (fun _ _ kv _ => n - (intOf kv).toNat)
  case atStart => exact ⟨0, [], rfl, by omega, Lib.hid ⟨HB0.out.1, HB0.out.2, World.ownsRow_nil _ _ _ _, fun j hj => by omega⟩⟩
  case round =>
    obtain ⟨k, vs, rfl, hk, HK⟩ := hrel
    rcases Nat.lt_or_ge k n with hkn | hkn
    · have c3 : wr.cell? ⟨B, 3, none⟩ = some (.slice (some ⟨gb, 0, none⟩) 1 1) := by rw [← hB]; exact HK.out.2.1.cell 3
      have hsub := HGB.out.1.on HK.out.1
      have g0 := hsub.c0
      have g1 := hsub.c1
      have g2 := hsub.c2
      have g3 := hsub.c3
      have hi1 : (k : Int) < (n : Int) := by omega
      have hsz := HK.out.2.1.lt
      rw [hB] at hsz
      have hw1 : IntKind.i64.wrap ((k : Int) + 1) = ((k + 1 : Nat) : Int) := by rw [IntWalk.i64_in _ (by omega)]; omega
      have HC := Lib.hid (times_any a b k (by omega) wr)
      clear hsub
      go_wp2_with fail
      refine HC.out.mono ?_
      clear HC
      rintro e w3 ⟨⟨u, rfl, hu⟩, hb3⟩
      obtain ⟨uo, uc, rfl⟩ := owns_shape hu
      have HU := Lib.hid (hu.mono (base' := B + 1) (by omega))
      have hbw := HK.out.1.trans (hb3.mono HK.out.1.size)
      have hbk := HK.out.2.1.below hb3
      have hO := owns_below HK.out.2.2.1 hb3
      have hin : ∀ j, j < k → ∃ u, vs[j]? = some u ∧ w3.ownsRow (B + 1) 28 4 u j (flatG a b j) := fun j hj => by
        obtain ⟨u, h1, h2⟩ := HK.out.2.2.2 j hj
        rw [hB] at h2
        exact ⟨u, h1, owns_below h2 hb3⟩
      rw [hB] at hbw hbk hO
      have hsz3 := hb3.size
      have H3 := Lib.hid (And.intro hbw (And.intro hbk (And.intro hO hin)))
      clear hbw hbk hO hin hu hb3
      go_wp2_with (at_builtin; refine wpList_push2 _ rfl _ _ 129 rfl (B + 1) 26 i0 (.slice none 0 0) 1 24 Tryz.underlying129 hi0 hz0 hz1 hz2 rfl (by decide) _ _ _ rfl (H3.out.2.2.1.alloc _) ⟨w3.heap.size, 0, none⟩ 1 [.slice uo k uc] rfl rfl (World.news_of_block (cs := #[.slice uo k uc]) (t := 26) (fr := (0, 0)) (heap_alloc_at _ _ rfl)) (by simp [Value.oneCell']) (by unfold maxLen; omega) (by omega) (by simp; omega) ?_)
      intro g cap w7 hown hgr hat7
      have HB7 := Lib.hid ((H3.out.1.alloc (by omega) (.cells #[.slice uo k uc] 26)).grown hgr (by simp; omega) (fun q hq => by have := (H3.out.2.2.1.lt q hq).1; omega))
      have HK7 := Lib.hid (show Blk w7 B 28 #[.int .i64 4, .int .i64 N, .int .i64 0, .slice (some ⟨gb, 0, none⟩) 1 1] from (H3.out.2.1.alloc _).same (hgr.block B (by simp; omega) (fun e => by have := (H3.out.2.2.1.lt B e.symm).1; omega)))
      have HO7 := Lib.hid hown
      have HI7 := Lib.hid (show ∀ j, j < k + 1 → ∃ u, (vs ++ [Value.slice uo k uc])[j]? = some u ∧ w7.ownsRow (B + 1) 28 4 u j (flatG a b j) from fun j hj => by
        have hvl : vs.length = k := by have := H3.out.2.2.1.1; omega
        rcases Nat.lt_or_ge j k with h | h
        · obtain ⟨u, h1, h2⟩ := H3.out.2.2.2 j h
          exact ⟨u, by rw [List.getElem?_append_left (by omega)]; exact h1, owns_other h2 H3.out.2.2.1 (by decide) hgr⟩
        · obtain rfl : j = k := by omega
          exact ⟨_, by rw [List.getElem?_append_right (by omega), hvl]; simp, owns_other HU.out H3.out.2.2.1 (by decide) hgr⟩)
      clear hown hgr hat7
      go_wp2_with fail
      go_roundw
      case rel => exact ⟨k + 1, _, by go_num, by omega, Lib.hid ⟨by rw [hB]; exact HB7.out, by rw [hB]; exact HK7.out, by rw [hB]; exact HO7.out, by rw [hB]; exact HI7.out⟩⟩
      case measure => simp [intOf]; omega
    · obtain rfl : k = n := by omega
      have hO := HK.out.2.2.1
      go_wp2_with fail
      go_ret
      refine ⟨⟨_, rfl, ?_⟩, HK.out.1⟩
      rcases hO.2 with ⟨_, h0⟩ | ⟨g, cap, cur, h1, _⟩
      · omega
      · refine ⟨g, cap, h1, fun j hj => ?_⟩
        obtain ⟨u, h2, h3⟩ := HK.out.2.2.2 j hj
        obtain ⟨uo, uc, rfl⟩ := owns_shape h3
        rw [h1] at hO
        exact ⟨uo, uc, by rw [hO.cellAt j (by omega)]; exact h2, RunAt.of_owns h3, fun q p hq => by have := (h3.lt q (by rw [hq]; rfl)).1; omega⟩
end Go.Proofs.YtalbllijahiiiaaGreatDoor
end

section
namespace Go.Proofs.YtalbllijahiiiaaGreatDoor
open Go.RowKit Go.Mine Go.Mine.Desk

abbrev leafE (k n : Int) : Value := .agg #[.int .i64 k, .int .i64 n, .slice none 0 0]
abbrev wholeE (eb : Nat) : Value := .agg #[.int .i64 7, .int .i64 0, .slice (some ⟨eb, 0, none⟩) 2 2]
def ExprAt (w : World) (eb : Nat) (n : Int) : Prop := Blk w eb 41 #[.int .i64 2, .int .i64 0, .slice none 0 0, .int .i64 1, .int .i64 n, .slice none 0 0]

theorem parts_leaf (k n d : Int) (hd : 0 ≤ d ∧ d < 6) (w : World) : Calls Tryz.prog 143 #[leafE k n, .int .i64 d] w fun e w' => e = .returned (.int .i64 1) ∧ Below w.heap.size w w' := by
  have h1 : ¬ (6 ≤ d) := by omega
  have h2 : d < 6 := hd.2
  have HB := Lib.hid ((Below.refl w.heap.size w).alloc (Nat.le_refl _) (.cells #[.int .i64 k, .int .i64 n, .slice none 0 0] 41))
  go_enter Tryz.func143, Tryz.ntmps143
  go_wp2_with fail
  refine wp_loop_rounds 1 ?_
  rw [rounds_succ]
  go_wp2_with fail
  go_ret
  exact ⟨rfl, HB.out⟩
set_option maxRecDepth 100000 in
set_option maxHeartbeats 1000000 in
theorem parts_whole (n : Int) (eb : Nat) (w : World) (he : ExprAt w eb n) : Calls Tryz.prog 143 #[wholeE eb, .int .i64 0] w fun e w' => e = .returned (.int .i64 3) ∧ Below w.heap.size w w' := by
  obtain ⟨w0, hw0⟩ : ∃ w0, w0 = w.alloc (.cells #[.int .i64 7, .int .i64 0, .slice (some ⟨eb, 0, none⟩) 2 2] 41) := ⟨_, rfl⟩
  have hb0 : Below w.heap.size w w0 := by rw [hw0]; exact (Below.refl _ _).alloc (Nat.le_refl _) _
  have HB0 := Lib.hid (And.intro hb0 ((show Blk w eb _ _ from he).below hb0))
  have HW := Lib.hid hw0
  have HEL := Lib.hid (show eb < w.heap.size from Blk.lt he)
  have c0 : w0.cell? ⟨eb, 0, none⟩ = some (.int .i64 2) := HB0.out.2.cell 0
  have c1 : w0.cell? ⟨eb, 1, none⟩ = some (.int .i64 0) := HB0.out.2.cell 1
  have c2 : w0.cell? ⟨eb, 2, none⟩ = some (.slice none 0 0) := HB0.out.2.cell 2
  obtain ⟨w1, hw1⟩ : ∃ w1, w1 = w0.alloc (.cells #[.int .i64 2, .int .i64 0, .slice none 0 0] 41) := ⟨_, rfl⟩
  have hb1 : Below w.heap.size w w1 := by rw [hw1]; exact hb0.alloc hb0.size _
  have HB1 := Lib.hid (And.intro hb1 ((show Blk w eb _ _ from he).below hb1))
  have HW1 := Lib.hid hw1
  have HC := Lib.hid (parts_leaf 2 0 1 (by omega) w1)
  rw [hw1, hw0] at HC
  rw [hw0] at c0 c1 c2
  clear hw0 hb0 hw1 hb1 he
  go_enter Tryz.func143, Tryz.ntmps143
  go_wp2_with fail
  refine wp_loop_rounds 3 ?_
  rw [rounds_succ]
  go_wp2_with fail
  refine HC.out.mono ?_
  clear HC
  rintro e w2 ⟨rfl, hb2⟩
  rw [← HW.out, ← HW1.out] at hb2
  have hb2' := HB1.out.1.trans (hb2.mono HB1.out.1.size)
  have HB2 := Lib.hid (And.intro hb2' (HB1.out.2.below hb2))
  have e0 : w2.cell? ⟨eb, 3, none⟩ = some (.int .i64 1) := HB2.out.2.cell 3
  have e1 : w2.cell? ⟨eb, 4, none⟩ = some (.int .i64 n) := HB2.out.2.cell 4
  have e2 : w2.cell? ⟨eb, 5, none⟩ = some (.slice none 0 0) := HB2.out.2.cell 5
  have HC2 := Lib.hid (parts_leaf 1 n 1 (by omega) (w2.alloc (.cells #[.int .i64 1, .int .i64 n, .slice none 0 0] 41)))
  clear hb2 hb2' c0 c1 c2
  go_wp2_with fail
  rw [rounds_succ]
  go_wp2_with fail
  refine HC2.out.mono ?_
  clear HC2
  rintro e w3 ⟨rfl, hb3⟩
  have HB3 := Lib.hid ((HB2.out.1.alloc HB2.out.1.size _).trans (hb3.mono (by have := HB2.out.1.size; simp; omega)))
  clear hb3
  go_wp2_with fail
  rw [rounds_succ]
  go_wp2_with fail
  go_ret
  exact ⟨rfl, HB3.out⟩
set_option maxRecDepth 100000 in
theorem each_leaf (k n : Int) (hk : k = 1 ∨ k = 2) (w : World) (hg : Gl w) : Calls Tryz.prog 144 #[leafE k n] w fun e w' => e = .returned .nilIface ∧ Below w.heap.size w w' := by
  obtain ⟨w0, hw0⟩ : ∃ w0, w0 = w.alloc (.cells #[.int .i64 k, .int .i64 n, .slice none 0 0] 41) := ⟨_, rfl⟩
  have hb0 : Below w.heap.size w w0 := by rw [hw0]; exact (Below.refl _ _).alloc (Nat.le_refl _) _
  have HW := Lib.hid hw0
  have HB := Lib.hid hb0
  have t1 : w0.cell? ⟨6, 1, none⟩ = some (.int .i64 0) := (hg.on hb0).takes 1 (by omega)
  have t2 : w0.cell? ⟨6, 2, none⟩ = some (.int .i64 0) := (hg.on hb0).takes 2 (by omega)
  have k0 : Blk w0 w.heap.size 41 #[.int .i64 k, .int .i64 n, .slice none 0 0] := by rw [hw0]; exact Blk.new _ _ _
  have c0 := k0.cell 0
  have c1 := k0.cell 1
  have c2 := k0.cell 2
  simp at c0 c1 c2
  clear hw0 hb0 hg k0
  rcases hk with rfl | rfl
  · go_enter Tryz.func144, Tryz.ntmps144
    go_wp2_with fail
    rw [← HW.out]
    go_quiet (fail)
    all_goals
      go_wp2_with fail
      refine wp_loop_rounds 1 ?_
      rw [rounds_succ]
      go_wp2_with fail
      go_ret
      exact ⟨rfl, below_drewN HB.out _⟩
  · go_enter Tryz.func144, Tryz.ntmps144
    go_wp2_with fail
    rw [← HW.out]
    go_quiet (fail)
    all_goals
      go_wp2_with fail
      refine wp_loop_rounds 1 ?_
      rw [rounds_succ]
      go_wp2_with fail
      go_ret
      exact ⟨rfl, below_drewN HB.out _⟩
set_option maxRecDepth 100000 in
set_option maxHeartbeats 1000000 in
theorem each_whole (n : Int) (eb : Nat) (w : World) (hg : Gl w) (he : ExprAt w eb n) : Calls Tryz.prog 144 #[wholeE eb] w fun e w' => e = .returned .nilIface ∧ Below w.heap.size w w' := by
  obtain ⟨w0, hw0⟩ : ∃ w0, w0 = w.alloc (.cells #[.int .i64 7, .int .i64 0, .slice (some ⟨eb, 0, none⟩) 2 2] 41) := ⟨_, rfl⟩
  have hb0 : Below w.heap.size w w0 := by rw [hw0]; exact (Below.refl _ _).alloc (Nat.le_refl _) _
  have HB0 := Lib.hid (And.intro hb0 ((show Blk w eb _ _ from he).below hb0))
  have HW := Lib.hid hw0
  have HG := Lib.hid hg
  have t7 : w0.cell? ⟨6, 7, none⟩ = some (.int .i64 2) := (hg.on hb0).takes 7 (by omega)
  have k0 : Blk w0 w.heap.size 41 #[.int .i64 7, .int .i64 0, .slice (some ⟨eb, 0, none⟩) 2 2] := by rw [hw0]; exact Blk.new _ _ _
  have c0 := k0.cell 0
  have c1 := k0.cell 1
  have c2 := k0.cell 2
  simp at c0 c1 c2
  clear hw0 hb0 hg k0
  go_enter Tryz.func144, Tryz.ntmps144
  go_wp2_with fail
  rw [← HW.out]
  go_quiet (fail)
  all_goals
    obtain ⟨wd, hwd⟩ : ∃ wd, wd = w0.drewN nq := ⟨_, rfl⟩
    have hbd : Below w.heap.size w wd := by rw [hwd]; exact below_drewN HB0.out.1 _
    have hed := (show Blk w eb _ _ from he).below hbd
    rw [← hwd]
    have q0 : wd.cell? ⟨eb, 0, none⟩ = some (.int .i64 2) := hed.cell 0
    have q1 : wd.cell? ⟨eb, 1, none⟩ = some (.int .i64 0) := hed.cell 1
    have q2 : wd.cell? ⟨eb, 2, none⟩ = some (.slice none 0 0) := hed.cell 2
    have p2 : wd.cell? ⟨w.heap.size, 2, none⟩ = some (.slice (some ⟨eb, 0, none⟩) 2 2) := by rw [hwd]; exact c2
    have hb1 := hbd.alloc hbd.size (.cells #[.int .i64 2, .int .i64 0, .slice none 0 0] 41)
    have HC := Lib.hid (each_leaf 2 0 (.inr rfl) (wd.alloc (.cells #[.int .i64 2, .int .i64 0, .slice none 0 0] 41)) (HG.out.on hb1))
    have HB1 := Lib.hid (And.intro hb1 ((show Blk w eb _ _ from he).below hb1))
    clear hwd hbd hed hb1 c0 c1 c2 t7
    go_wp2_with fail
    refine wp_loop_rounds 3 ?_
    rw [rounds_succ]
    go_wp2_with fail
    refine HC.out.mono ?_
    clear HC
    rintro e w2 ⟨rfl, hb2⟩
    have hb2' := HB1.out.1.trans (hb2.mono HB1.out.1.size)
    have HB2 := Lib.hid (And.intro hb2' (HB1.out.2.below hb2))
    have e0 : w2.cell? ⟨eb, 3, none⟩ = some (.int .i64 1) := HB2.out.2.cell 3
    have e1 : w2.cell? ⟨eb, 4, none⟩ = some (.int .i64 n) := HB2.out.2.cell 4
    have e2 : w2.cell? ⟨eb, 5, none⟩ = some (.slice none 0 0) := HB2.out.2.cell 5
    have hb3 := HB2.out.1.alloc HB2.out.1.size (.cells #[.int .i64 1, .int .i64 n, .slice none 0 0] 41)
    have HC2 := Lib.hid (each_leaf 1 n (.inl rfl) (w2.alloc (.cells #[.int .i64 1, .int .i64 n, .slice none 0 0] 41)) (HG.out.on hb3))
    have HB3 := Lib.hid hb3
    clear hb2 hb2' q0 q1 q2 p2 hb3
    go_wp2_with fail
    rw [rounds_succ]
    go_wp2_with fail
    refine HC2.out.mono ?_
    clear HC2
    rintro e w4 ⟨rfl, hb4⟩
    have HB4 := Lib.hid (HB3.out.trans (hb4.mono HB3.out.size))
    clear hb4
    go_wp2_with fail
    rw [rounds_succ]
    go_wp2_with fail
    go_ret
    exact ⟨rfl, HB4.out⟩
set_option maxHeartbeats 1000000 in
theorem expr_check (n : Int) (eb : Nat) (w : World) (hg : Gl w) (he : ExprAt w eb n) : Calls Tryz.prog 120 #[wholeE eb] w fun e w' => e = .returned .nilIface ∧ Below w.heap.size w w' := by
  obtain ⟨w0, hw0⟩ : ∃ w0, w0 = w.alloc (.cells #[.int .i64 7, .int .i64 0, .slice (some ⟨eb, 0, none⟩) 2 2] 41) := ⟨_, rfl⟩
  have hb0 : Below w.heap.size w w0 := by rw [hw0]; exact (Below.refl _ _).alloc (Nat.le_refl _) _
  have he0 : ExprAt w0 eb n := (show Blk w eb _ _ from he).below hb0
  have k0 : Blk w0 w.heap.size 41 #[.int .i64 7, .int .i64 0, .slice (some ⟨eb, 0, none⟩) 2 2] := by rw [hw0]; exact Blk.new _ _ _
  have HC := Lib.hid (parts_whole n eb w0 he0)
  have HW := Lib.hid hw0
  have HB := Lib.hid (And.intro hb0 (And.intro he0 (And.intro k0 (hg.on hb0))))
  rw [hw0] at HC
  clear hw0 hb0 he0 k0 hg he
  go_enter Tryz.func120, Tryz.ntmps120
  go_wp2_with fail
  refine HC.out.mono ?_
  clear HC
  rintro e w1 ⟨rfl, hb1⟩
  rw [← HW.out] at hb1
  have hb1' := HB.out.1.trans (hb1.mono HB.out.1.size)
  have k1 := HB.out.2.2.1.below hb1
  have c0 : w1.cell? ⟨w.heap.size, 0, none⟩ = some (.int .i64 7) := k1.cell 0
  have c1 : w1.cell? ⟨w.heap.size, 1, none⟩ = some (.int .i64 0) := k1.cell 1
  have c2 : w1.cell? ⟨w.heap.size, 2, none⟩ = some (.slice (some ⟨eb, 0, none⟩) 2 2) := k1.cell 2
  have HC2 := Lib.hid (each_whole n eb w1 (HB.out.2.2.2.on hb1) ((show Blk w0 eb _ _ from HB.out.2.1).below hb1))
  have HB1 := Lib.hid hb1'
  clear hb1 hb1' k1
  go_wp2_with fail
  refine HC2.out.mono ?_
  clear HC2
  rintro e w2 ⟨rfl, hb2⟩
  have HB2 := Lib.hid (HB1.out.trans (hb2.mono HB1.out.size))
  clear hb2
  go_wp2_with fail
  go_ret
  exact ⟨rfl, HB2.out⟩
end Go.Proofs.YtalbllijahiiiaaGreatDoor
end
