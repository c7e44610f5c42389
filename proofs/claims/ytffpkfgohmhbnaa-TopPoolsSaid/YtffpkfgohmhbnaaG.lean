import Derived.Test.YtffpkfgohmhbnaaF
namespace Go.Proofs.Ytffpkfgohmhbnaa
open Go.RowKit Go.Mine Go.Mine.Dd

def upto (N : Nat) : List Int := (List.range N).map fun k : Nat => (k : Int)
theorem upto_len (N : Nat) : (upto N).length = N := by simp [upto]
theorem upto_succ (k : Nat) : (upto (k + 1)).map (Value.int .i64) = (upto k).map (Value.int .i64) ++ [.int .i64 (k : Int)] := by simp [upto, List.range_succ]

set_option maxRecDepth 100000 in
set_option maxHeartbeats 1000000 in
theorem top_good (N : Nat) (hN : N ≤ 1000) (s : Int) (W : World) :
    Calls Try.prog 4 #[.int .i64 N, .int .i64 s] W fun e w' => e = .returned (.bool true) ∧ Below W.heap.size W w' := by
  obtain ⟨i0, hi0, hz0, hz1, hz2⟩ := info_parts info3
  have hb0 : Below W.heap.size W (W.alloc (.cells #[.int .i64 s] 3)) := (Below.refl _ _).alloc (Nat.le_refl _) _
  have hc0 : (W.alloc (.cells #[.int .i64 s] 3)).cell? ⟨W.heap.size, 0, none⟩ = some (.int .i64 s) := by simp [go_sem]
  have HB0 := Lib.hid hb0
  have HC0 := Lib.hid hc0
  clear hb0 hc0
  go_enter Try.func4, Try.ntmps4
  go_wp2_with fail
  refine (find_one N hN s W).mono ?_
  rintro e w1 ⟨a5, c5, L, rfl, hL, hcase, hb1⟩
  have hc1 : w1.cell? ⟨W.heap.size, 0, none⟩ = some (.int .i64 s) := (hb1.cell (by simp)).trans HC0.out
  have HB1 := Lib.hid (HB0.out.trans (hb1.mono (by simp)))
  clear hb1
  have HC1 := Lib.hid hc1
  clear hc1
  go_wp2_with fail
  refine (fact10_any w1).mono ?_
  rintro e w2 ⟨g7, c7, rfl, hb2⟩
  have hc2 : w2.cell? ⟨W.heap.size, 0, none⟩ = some (.int .i64 s) := (hb2.cell (World.block_lt_of_cell? _ _ HC1.out)).trans HC1.out
  have HL := Lib.hid (hL.below (Nat.le_refl _) hb2)
  have HB2 := Lib.hid (HB1.out.trans (hb2.mono HB1.out.size))
  clear hL hb2
  rcases hcase with ⟨h0, hs, rfl⟩ | ⟨hno, rfl⟩
  · obtain ⟨b, o, rfl, hcc⟩ := HL.out 0 (by simp)
    simp at hcc
    have hnn : ¬ s < 0 := by omega
    have hnn2 : ¬ (N : Int) ≤ s := by omega
    by_cases h12 : 12 < N
    · go_wp2_with fail
      go_quiet (fail)
      go_wp2_with fail
      go_ret
      exact ⟨rfl, below_drewN HB2.out _⟩
    · go_wp2_with fail
      go_quiet (fail)
      have hc3 : (w2.drewN nq).cell? ⟨W.heap.size, 0, none⟩ = some (.int .i64 s) := hc2
      have HL3 := Lib.hid (HL.out.drewN nq)
      have HB3 := Lib.hid (below_drewN HB2.out nq)
      have HC3 := Lib.hid hc3
      clear hc3 hc2 hcc
      obtain ⟨w3, hw3⟩ : ∃ w3, w3 = w2.drewN nq := ⟨_, rfl⟩
      rw [← hw3] at HL3 HB3 HC3 ⊢
      clear hw3
      go_wp2_with fail
      go_loopw [9, 10] (fun v i wr => ∃ k : Nat, i = .int .i64 k ∧ k ≤ N ∧ wr.ownsRow w3.heap.size 3 1 v k ((upto k).map (Value.int .i64)) ∧ Below w3.heap.size w3 wr) (fun _ i _ => N - (intOf i).toNat)
      case atStart => exact ⟨0, rfl, by omega, World.ownsRow_nil _ _ _ _, Below.refl _ _⟩
      case round =>
        obtain ⟨k, rfl, hk, ho, hb⟩ := hrel
        have hsz := hb.size
        by_cases hlt : k < N
        · go_wp2_with (at_builtin; refine wpList_push _ rfl _ _ 22 rfl w3.heap.size 3 i0 (.int .i64 0) 1 8 Try.underlying22 hi0 hz0 hz1 hz2 rfl (by decide) _ _ _ rfl (ho.alloc _) ⟨wr.heap.size, 0, none⟩ 1 [.int .i64 k] rfl rfl (cell_one_new _ _ _) (one1 _ _) (by unfold maxLen; omega) (by omega) (by simp; omega) ?_)
          intro g1 cap w4 ho4 hg4
          have hb4 := (hb.alloc hsz (.cells #[.int .i64 k] 3)).grown hg4 (by simp; omega) (fun k hk => (ho.lt k hk).1)
          clear ho hb hg4
          go_wp2_with fail
          go_roundw
          case rel => exact ⟨k + 1, by go_num, by omega, by rw [upto_succ]; exact ho4, hb4⟩
          case measure => simp [intOf]; omega
        · have hkn : k = N := by omega
          subst hkn
          obtain ⟨a9, c9, rfl⟩ := owns_shape ho
          have hi := IntsAt.of_owns ho
          have hc4 := (hb.cell (p := ⟨W.heap.size, 0, none⟩) (World.block_lt_of_cell? _ _ HC3.out)).trans HC3.out
          have HM := min_one k (by omega) s ⟨h0, hs⟩ W.heap.size a9 c9 wr hc4 hi
          have HL4 := Lib.hid (HL3.out.below (Nat.le_refl _) hb)
          have HB4 := Lib.hid (HB3.out.trans (hb.mono HB3.out.size))
          clear hc4 hi ho hb
          go_wp2_with fail
          refine HM.mono ?_
          rintro e w5 ⟨⟨a2, c2, rfl, hm⟩, hb5⟩
          have HI := Lib.hid (Ints_any [s] [s] (some ⟨b, o, none⟩) a2 c5 c2 w5 (HL4.out.below (Nat.le_refl _) hb5) hm (by unfold maxLen; simp))
          have HB5 := Lib.hid (HB4.out.trans (hb5.mono HB4.out.size))
          clear HM hm hb5
          go_wp2_with fail
          refine HI.out.mono ?_
          rintro e w6 ⟨rfl, nd, rfl⟩
          go_wp2_with fail
          go_ret
          exact ⟨by simp, below_drewN HB5.out _⟩
  · by_cases hneg : s < 0
    · go_wp2_with fail
      go_ret
      exact ⟨rfl, HB2.out⟩
    · have hge : (N : Int) ≤ s := by omega
      have HNO := Lib.hid hno
      clear hno
      go_wp2_with fail
      go_ret
      exact ⟨rfl, HB2.out⟩

set_option maxRecDepth 100000 in
theorem top_bad (n : Int) (hn : n < 0 ∨ 1000 < n) (s : Int) (W : World) :
    Calls Try.prog 4 #[.int .i64 n, .int .i64 s] W fun e w' => e = .returned (.bool true) ∧ Below W.heap.size W w' := by
  have HF := Lib.hid (find_bad n 9 #[.pointer (some ⟨W.heap.size, 0, none⟩)] (W.alloc (.cells #[.int .i64 s] 3)) hn)
  go_enter Try.func4, Try.ntmps4
  go_wp2_with fail
  refine HF.out.mono ?_
  rintro e w1 ⟨rfl, rfl⟩
  have hb1 : Below W.heap.size W ((W.alloc (.cells #[.int .i64 s] 3)).alloc (.cells #[.func (.func 9) #[] #[.pointer (some ⟨W.heap.size, 0, none⟩)]] 29)) := ((Below.refl _ _).alloc (Nat.le_refl _) _).alloc (by simp) _
  have HB1 := Lib.hid hb1
  clear hb1
  go_wp2_with fail
  refine (fact10_any _).mono ?_
  rintro e w2 ⟨g7, c7, rfl, hb2⟩
  have HB2 := Lib.hid (HB1.out.trans (hb2.mono HB1.out.size))
  clear hb2
  rcases hn with h | h
  · go_wp2_with fail
    go_ret
    exact ⟨rfl, HB2.out⟩
  · have h' : ¬ n < 0 := by omega
    go_wp2_with fail
    go_ret
    exact ⟨rfl, HB2.out⟩
end Go.Proofs.Ytffpkfgohmhbnaa
