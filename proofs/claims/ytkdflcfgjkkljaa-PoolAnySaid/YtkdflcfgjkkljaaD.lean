import Derived.Test.YtkdflcfgjkkljaaC
namespace Go.Proofs.Ytkdflcfgjkkljaa
open Go.RowKit Go.Mine

set_option maxHeartbeats 600000 in
theorem any_good (N : Nat) (s : Int) (W : World) (hN : N ≤ 1000) :
    Calls Try.prog 3 #[.int .i64 N, .int .i64 s] W fun e w' => e = .returned (.bool true) ∧ Below W.heap.size W w' := by
  have hJ0 : JP W N s 0 (((W.alloc (.cells #[.int .i64 N] 3)).alloc (.cells #[.int .i64 s] 3)).alloc (.cells #[.bool true] 4)) := by
    refine ⟨?_, ?_, ?_, ?_, by simp, ?_⟩
    case refine_5 => exact (((Below.refl _ _).alloc (Nat.le_refl _) _).alloc (by simp) _).alloc (by simp; omega) _
    all_goals simp [go_sem]
  have HJ0 := Lib.hid hJ0; clear hJ0
  go_enter Try.func3, Try.ntmps3
  go_wp2_with fail
  refine (find_any 6 _ N hN (JP W N s) (fun _ _ _ => True) _ HJ0.out (fun k w w' h hb => h.below (by simp) hb) (fun a b w => run6 a b _ _ _ w) ?_).mono ?_
  · intro a b k w h0 hab hb hk hj
    have := asked_any W N s a b k h0 hab hb w hj
    simpa using this
  rintro e w1 ⟨v, L, k, rfl, hk, hj, ho, hsz⟩
  have hW := (hk.within (by omega))
  have hcount := (hk.count (by omega)).2.2
  have hb : Below W.heap.size W w1 := hj.2.2.2.2.2
  obtain ⟨c1, _, c3, _⟩ := hj
  clear hk HJ0
  rcases ho.2 with ⟨rfl, h0⟩ | ⟨g, cap, cur, rfl, _⟩
  · have H0 := Lib.hid h0; clear h0 hcount
    clear ho hW
    have hsz' := Lib.hid hsz; clear hsz
    go_wp2_with fail
    refine (fact_any _).mono ?_
    rintro e w2 ⟨g2, cap2, rfl, d1, hb2⟩
    have e1 : w2.cell? ⟨W.heap.size + 1 + 1, 0, none⟩ = some (.bool true) := (hb2.cell (by have := hsz'.out; simp at this ⊢; omega)).trans c1
    have e3 : w2.cell? ⟨W.heap.size, 0, none⟩ = some (.int .i64 N) := (hb2.cell (by have := hsz'.out; simp at this ⊢; omega)).trans c3
    go_wp2_with fail
    refine wp_loop_rounds 1 ?_
    rw [rounds_succ]
    go_wp2_with fail
    go_quiet (fail)
    go_wp2_with fail
    go_ret
    refine ⟨?_, hb.trans (below_drewN (hb2.mono hb.size) _)⟩
    simp; omega
  · have hc : ∀ j, j < L.length → w1.cell? ⟨g, j, none⟩ = some (.int .i64 (L.getD j 0)) := by
      intro j hj
      rw [ho.cellAt j (by omega)]
      simp [hj]
    have hc' : g < w1.heap.size := ((ho.lt g rfl).2)
    have hlen : L.length ≤ 1000 := by omega
    clear hcount
    have HS := Lib.hid (steps_of hW)
    clear ho hW
    have HC := Lib.hid hc; clear hc
    go_wp2_with fail
    refine (fact_any _).mono ?_
    rintro e w2 ⟨g2, cap2, rfl, d1, hb2⟩
    have e1 : w2.cell? ⟨W.heap.size + 1 + 1, 0, none⟩ = some (.bool true) := (hb2.cell (by simp at hsz ⊢; omega)).trans c1
    have e3 : w2.cell? ⟨W.heap.size, 0, none⟩ = some (.int .i64 N) := (hb2.cell (by simp at hsz ⊢; omega)).trans c3
    have HC2 := Lib.hid (show ∀ j, j < L.length → w2.cell? ⟨g, j, none⟩ = some (.int .i64 (L.getD j 0)) from fun j hj => (hb2.cell hc').trans (HC.out j hj))
    clear c1 c3 hsz
    go_wp2_with fail
    go_loopw [10] (fun i wr => ∃ k nq : Nat, i = .int .i64 k ∧ k ≤ L.length ∧ wr = w2.drewN nq) (fun i _ => L.length - (intOf i).toNat)
    case atStart => exact ⟨0, 0, rfl, by omega, rfl⟩
    case round =>
      obtain ⟨k, nq, rfl, hk, rfl⟩ := hrel
      by_cases hlt : k < L.length
      · have hx := HC2.out k hlt
        have hs := HS.out k hlt
        obtain ⟨x, hx'⟩ : ∃ x, x = L.getD k 0 := ⟨_, rfl⟩
        rw [← hx'] at hx hs
        have HX := Lib.hid hx'; clear hx'
        obtain ⟨s1, s2, s3⟩ := hs
        by_cases h0 : k = 0
        · subst h0
          clear s3
          have hd1 : decide (x < 0) = false := by simp; omega
          have hd2 : decide ((N : Int) ≤ x) = false := by simp; omega
          go_wp2_with fail
          go_quiet (fail)
          go_wp2_with fail
          go_roundw
          case rel => exact ⟨1, _, rfl, by omega, rfl⟩
          case measure => simp [intOf]; omega
        · have h0' : 0 < k := by omega
          have hy := HC2.out (k - 1) (by omega)
          have s3' := s3 h0'
          obtain ⟨y, hy'⟩ : ∃ y, y = L.getD (k - 1) 0 := ⟨_, rfl⟩
          rw [← hy'] at hy s3'
          have HY := Lib.hid hy'; clear hy' s3
          have hd1 : decide (x < 0) = false := by simp; omega
          have hd2 : decide ((N : Int) ≤ x) = false := by simp; omega
          have hd0 : decide (0 < k) = true := by simp; omega
          have hd3 : decide (x ≤ y) = false := by simp; omega
          go_wp2_with fail
          go_quiet (fail)
          go_wp2_with fail
          go_roundw
          case rel => exact ⟨k + 1, _, by go_num, by omega, rfl⟩
          case measure => simp [intOf]; omega
      · have hd : ((N : Int) ≤ 1000) := by omega
        go_wp2_with fail
        go_quiet (fail)
        go_wp2_with fail
        go_ret
        exact ⟨by simp, hb.trans (below_drewN (below_drewN (hb2.mono hb.size) _) _)⟩

set_option maxHeartbeats 600000 in
theorem any_bad (n s : Int) (W : World) (hn : n < 0 ∨ 1000 < n) :
    Calls Try.prog 3 #[.int .i64 n, .int .i64 s] W fun e w' => e = .returned (.bool true) ∧ Below W.heap.size W w' := by
  have hB : ∀ o, Below W.heap.size W ((((W.alloc (.cells #[.int .i64 n] 3)).alloc (.cells #[.int .i64 s] 3)).alloc (.cells #[.bool true] 4)).alloc o) := fun o =>
    ((((Below.refl _ _).alloc (Nat.le_refl _) _).alloc (by simp) _).alloc (by simp; omega) _).alloc (by simp; omega) _
  have HB := Lib.hid hB; clear hB
  have HN := Lib.hid hn
  have hd : (decide (0 ≤ n) && decide (n ≤ 1000)) = false := by simp; omega
  have HD := Lib.hid hd; clear hd
  clear hn
  go_enter Try.func3, Try.ntmps3
  go_wp2_with fail
  refine (find_bad n 6 _ _ HN.out).mono ?_
  rintro e w1 ⟨rfl, rfl⟩
  go_wp2_with fail
  refine (fact_any _).mono ?_
  rintro e w2 ⟨g2, cap2, rfl, d1, hb2⟩
  have e1 : w2.cell? ⟨W.heap.size + 1 + 1, 0, none⟩ = some (.bool true) := (hb2.cell (by simp)).trans (by simp [go_sem])
  have e3 : w2.cell? ⟨W.heap.size, 0, none⟩ = some (.int .i64 n) := (hb2.cell (by simp; omega)).trans (by simp [go_sem])
  have HB2 := Lib.hid ((HB.out _).trans (hb2.mono (by simp; omega)))
  clear hb2
  go_wp2_with fail
  refine wp_loop_rounds 1 ?_
  rw [rounds_succ]
  go_wp2_with fail
  rcases HN.out with h | h
  · have h1 : decide (0 ≤ n) = false := by simp; omega
    go_quiet (fail)
    go_wp2_with fail
    go_ret
    exact ⟨by simp, below_drewN HB2.out _⟩
  · have h1 : decide (0 ≤ n) = true := by simp; omega
    have h2 : decide (n ≤ 1000) = false := by simp; omega
    go_quiet (fail)
    go_wp2_with fail
    go_ret
    exact ⟨by simp, below_drewN HB2.out _⟩
end Go.Proofs.Ytkdflcfgjkkljaa
