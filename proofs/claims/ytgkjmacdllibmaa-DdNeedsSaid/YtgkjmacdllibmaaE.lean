import Derived.Test.YtgkjmacdllibmaaD
namespace Go.Proofs.Ytgkjmacdllibmaa
open Go.RowKit Go.Mine Go.Mine.Dd

theorem fault_makes (h : Int) (ao : Option Addr) (n c : Nat) (lim : Int) (w : World) :
    Calls Try.prog 5 #[.int .i64 h, .slice ao n c, .int .i64 lim] w fun e w' => e = .returned (.func (.func 10) #[] #[.pointer (some ⟨w.heap.size, 0, none⟩), .pointer (some ⟨w.heap.size + 1 + 1, 0, none⟩), .pointer (some ⟨w.heap.size + 1, 0, none⟩)]) ∧
      w' = ((w.alloc (.cells #[.int .i64 h] 3)).alloc (.cells #[.slice ao n c] 22)).alloc (.cells #[.int .i64 lim] 3) := by
  go_enter Try.func5, Try.ntmps5
  go_wp2_with fail
  go_ret
  exact ⟨rfl, rfl⟩
theorem run10 (v x y z : Value) (w : World) : Sem.run Try.prog (callFunc 10 (#[v] ++ #[x, y, z])) w = .ok (.enter 10 (#[v] ++ #[x, y, z])) w := by kernel_rfl
theorem run6 (v : Value) (w : World) : Sem.run Try.prog (callFunc 6 (#[v] ++ #[])) w = .ok (.enter 6 (#[v] ++ #[])) w := by kernel_rfl

theorem fact_least {m : List Int} (h : Least (allIn [2]) [1, 2] m) : m.length = 1 := by
  rw [least_count h (by simp)]
  rfl
theorem allIn_two (xs : List Int) : allIn [2] xs = decide (2 ∈ xs) := by simp [allIn]

theorem needs_fact (w : World) : Calls Try.prog 4 #[.slice (some ⟨w.heap.size, 0, none⟩) 2 2, .func (.func 6) #[] #[]] (w.alloc (.cells #[.int .i64 1, .int .i64 2] 3)) fun e w' => (∃ ao c, e = .returned (.tuple #[.slice ao 1 c, .nilIface])) ∧ Below w.heap.size w w' := by
  have hb : Below w.heap.size w (w.alloc (.cells #[.int .i64 1, .int .i64 2] 3)) := (Below.refl _ _).alloc (Nat.le_refl _) _
  have hl : IntsAt .i64 (w.alloc (.cells #[.int .i64 1, .int .i64 2] 3)) (some ⟨w.heap.size, 0, none⟩) [1, 2] := by
    intro j hj
    refine ⟨_, 0, rfl, ?_⟩
    match j, hj with
    | 0, _ => simp [go_sem]
    | 1, _ => simp [go_sem]
  refine (min_any 6 #[] (allIn [2]) [1, 2] (some ⟨w.heap.size, 0, none⟩) 2 _ hl (fun h => by cases h) (by unfold maxLen; simp) run6 ?_).mono ?_
  · intro w1 B v xs _ _ hBw ho h12
    obtain ⟨ao, c, rfl⟩ := owns_shape ho
    refine (two_in ao c xs w1 (IntsAt.of_owns ho) h12).mono ?_
    rintro e w' ⟨rfl, rfl⟩
    exact ⟨by rw [allIn_two], Below.refl _ _⟩
  · rintro e w' ⟨hp, hb'⟩
    refine ⟨?_, hb.trans (hb'.mono hb.size)⟩
    rcases hp with ⟨h, _⟩ | ⟨_, h, _⟩ | ⟨_, _, v, m, rfl, hm, ho⟩
    · simp at h
    · simp [allIn] at h
    · obtain ⟨ao, c, rfl⟩ := owns_shape ho
      rw [fact_least hm]
      exact ⟨ao, c, rfl⟩

/-- fault(1, need, 0): what Min tells of it. -/
theorem min_fault (l need : List Int) (lo na : Option Addr) (lc nc : Nat) (W : World) (hx : IntsAt .i64 W lo l) (hn : lo = none → l.length = 0) (hl : l.length ≤ maxLen) (hnx : IntsAt .i64 W na need) (hnl : need.length ≤ maxLen) :
    Calls Try.prog 4 #[.slice lo l.length lc, .func (.func 10) #[] #[.pointer (some ⟨W.heap.size, 0, none⟩), .pointer (some ⟨W.heap.size + 1 + 1, 0, none⟩), .pointer (some ⟨W.heap.size + 1, 0, none⟩)]]
      (((W.alloc (.cells #[.int .i64 1] 3)).alloc (.cells #[.slice na need.length nc] 22)).alloc (.cells #[.int .i64 0] 3)) fun e w' => (∃ v x, e = .returned (.tuple #[v, x]) ∧
        ((x = .nilIface ∧ ∃ ao c m, v = .slice ao m.length c ∧ m.length ≤ 12 ∧ Least (allIn need) l m ∧ IntsAt .i64 w' ao m) ∨ (v = .slice none 0 0 ∧ ∃ k, x = .iface 31 (.int .i64 k)))) ∧ Below W.heap.size W w' := by
  have hb : Below W.heap.size W (((W.alloc (.cells #[.int .i64 1] 3)).alloc (.cells #[.slice na need.length nc] 22)).alloc (.cells #[.int .i64 0] 3)) :=
    (((Below.refl _ _).alloc (Nat.le_refl _) _).alloc (by simp) _).alloc (by simp; omega) _
  refine (min_any 10 _ (allIn need) l lo lc _ (hx.below (Nat.le_refl _) hb) hn hl (fun v w => run10 v _ _ _ w) ?_).mono ?_
  · intro w1 B v xs hb1 hB hBw ho h12
    obtain ⟨ao, c, rfl⟩ := owns_shape ho
    have hs1 := hb1.size
    simp at hs1
    refine (fault_need W.heap.size (W.heap.size + 1 + 1) (W.heap.size + 1) na nc need ao c xs w1 ((hb1.cell (by simp; try omega)).trans (by simp [go_sem])) ((hb1.cell (by simp; try omega)).trans (by simp [go_sem])) ((hnx.below (Nat.le_refl _) hb).below (Nat.le_refl _) hb1) (IntsAt.of_owns ho) h12 hnl).mono ?_
    rintro e w' ⟨rfl, rfl⟩
    exact ⟨rfl, Below.refl _ _⟩
  · rintro e w' ⟨hp, hb'⟩
    refine ⟨?_, hb.trans (hb'.mono hb.size)⟩
    rcases hp with ⟨_, rfl⟩ | ⟨_, _, rfl⟩ | ⟨h12, _, v, m, rfl, hm, ho⟩
    · exact ⟨_, _, rfl, .inr ⟨rfl, _, rfl⟩⟩
    · exact ⟨_, _, rfl, .inr ⟨rfl, _, rfl⟩⟩
    · obtain ⟨ao, c, rfl⟩ := owns_shape ho
      exact ⟨_, _, rfl, .inl ⟨rfl, ao, c, m, rfl, Nat.le_trans hm.some_of.length_le h12, hm, IntsAt.of_owns ho⟩⟩
end Go.Proofs.Ytgkjmacdllibmaa
