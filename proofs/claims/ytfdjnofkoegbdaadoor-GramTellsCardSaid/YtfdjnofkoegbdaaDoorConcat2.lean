import Derived.Test.YtfdjnofkoegbdaaDoorGrow
namespace Go.Proofs.YtfdjnofkoegbdaaDoor
open Go.RowKit Go.Mine

set_option maxHeartbeats 400000 in
theorem concat_two (k : Nat) (a1 a2 : Option Addr) (c1 c2 : Nat) (xs ys : List Int) (w : World) (h1 : w.cell? ⟨k, 0, none⟩ = some (.slice a1 xs.length c1)) (h2 : w.cell? ⟨k, 1, none⟩ = some (.slice a2 ys.length c2))
    (hx : IntsAt .i64 w a1 xs) (hy : IntsAt .i64 w a2 ys) (hn1 : a1 = none → xs.length = 0) (hn2 : a2 = none → ys.length = 0) (hl : xs.length + ys.length ≤ 1000) :
    Calls Tryd.prog 21 #[.slice (some ⟨k, 0, none⟩) 2 2] w fun e w' => ∃ v', e = .returned v' ∧ w'.ownsRow w.heap.size 3 1 v' (xs.length + ys.length) ((xs ++ ys).map (Value.int .i64)) ∧ Below w.heap.size w w' := by
  obtain ⟨i0, hi0, hz0, hz1, hz2⟩ := info_parts slInfo3
  have hk := World.block_lt_of_cell? w _ h1
  have HX := Lib.hid hx
  have HY := Lib.hid hy
  have HN1 := Lib.hid hn1
  have HN2 := Lib.hid hn2
  clear hx hy hn1 hn2
  have hd1 : decide ((xs.length : Int) < 0) = false := by simp
  have hd2 : decide ((xs.length : Int) + (ys.length : Int) < 0) = false := by simp; omega
  go_enter Tryd.func21, Tryd.ntmps21
  go_wp2_with fail
  go_loop [3, 11] (fun s i => (i = .int .i64 0 ∧ s = .int .i64 0) ∨ (i = .int .i64 1 ∧ s = .int .i64 xs.length) ∨ (i = .int .i64 2 ∧ s = .int .i64 ((xs.length + ys.length : Nat) : Int))) (fun _ i => 2 - (intOf i).toNat)
  case atStart => exact .inl ⟨rfl, rfl⟩
  case round =>
    rcases hrel with ⟨rfl, rfl⟩ | ⟨rfl, rfl⟩ | ⟨rfl, rfl⟩
    · go_wp2_with fail
      go_round
      case rel => exact .inr (.inl ⟨rfl, by go_num⟩)
      case measure => simp [intOf]
    · go_wp2_with fail
      go_round
      case rel => exact .inr (.inr ⟨rfl, by go_num⟩)
      case measure => simp [intOf]
    · have G := grow_nil (xs.length + ys.length) w (by omega)
      clear hd1 hd2
      go_wp2_with fail
      refine G.mono ?_
      rintro e w1 ⟨v1, rfl, ho1, hb1⟩
      have H1 := Lib.hid h1
      have H2 := Lib.hid h2
      clear h1 h2 G
      go_wp2_with fail
      go_loopw [6, 27] (fun v i wr => ∃ acc : List Int, wr.ownsRow w.heap.size 3 1 v acc.length (acc.map (Value.int .i64)) ∧ Below w.heap.size w wr ∧ ((i = .int .i64 0 ∧ acc = []) ∨ (i = .int .i64 1 ∧ acc = xs) ∨ (i = .int .i64 2 ∧ acc = xs ++ ys))) (fun _ i _ => 2 - (intOf i).toNat)
      case atStart => exact ⟨[], ho1, hb1, .inl ⟨rfl, rfl⟩⟩
      case round =>
        obtain ⟨acc, ho, hb, hi⟩ := hrel
        have hs := hb.size
        rcases hi with ⟨rfl, rfl⟩ | ⟨rfl, rfl⟩ | ⟨rfl, rfl⟩
        · have hc1 := (hb.cell (p := ⟨k, 0, none⟩) hk).trans H1.out
          go_wp2_with (at_builtin; refine wpList_append_all _ rfl _ _ 22 rfl w.heap.size 3 i0 (.int .i64 0) 1 8 Tryd.underlying22 hi0 hz0 hz1 hz2 rfl (by decide) _ 0 [] rfl ho a1 xs.length c1 (xs.map (Value.int .i64)) rfl (by simp) HN1.out (HX.out.below (Nat.le_refl _) hb).news (ints1 _ _) (by unfold maxLen; omega) (by omega) hs ?_)
          intro v' w' hown hg
          have hb' : Below w.heap.size w w' := hb.grown hg hs (fun k hk => (ho.lt k hk).1)
          clear hg hc1
          go_wp2_with fail
          go_roundw
          case rel => exact ⟨xs, by simpa using hown, hb', .inr (.inl ⟨rfl, rfl⟩)⟩
          case measure => simp [intOf]
        · have hc2 := (hb.cell (p := ⟨k, 1, none⟩) hk).trans H2.out
          go_wp2_with (at_builtin; refine wpList_append_all _ rfl _ _ 22 rfl w.heap.size 3 i0 (.int .i64 0) 1 8 Tryd.underlying22 hi0 hz0 hz1 hz2 rfl (by decide) _ acc.length _ rfl ho a2 ys.length c2 (ys.map (Value.int .i64)) rfl (by simp) HN2.out (HY.out.below (Nat.le_refl _) hb).news (ints1 _ _) (by unfold maxLen; omega) (by omega) hs ?_)
          intro v' w' hown hg
          have hb' : Below w.heap.size w w' := hb.grown hg hs (fun k hk => (ho.lt k hk).1)
          clear hg hc2
          go_wp2_with fail
          go_roundw
          case rel => exact ⟨acc ++ ys, by simpa using hown, hb', .inr (.inr ⟨rfl, rfl⟩)⟩
          case measure => simp [intOf]
        · go_wp2_with fail
          go_ret
          exact ⟨_, rfl, by simpa using ho, hb⟩
end Go.Proofs.YtfdjnofkoegbdaaDoor
