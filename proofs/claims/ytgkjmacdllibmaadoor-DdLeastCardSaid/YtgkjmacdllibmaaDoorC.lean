import Derived.Test.YtgkjmacdllibmaaDoorB
namespace Go.Proofs.YtgkjmacdllibmaaDoor
open Go.RowKit Go.Mine Go.Mine.Dd

theorem fault_makes (h : Int) (ao : Option Addr) (n c : Nat) (lim : Int) (w : World) :
    Calls Tryd.prog 5 #[.int .i64 h, .slice ao n c, .int .i64 lim] w fun e w' => e = .returned (.func (.func 16) #[] #[.pointer (some ⟨w.heap.size, 0, none⟩), .pointer (some ⟨w.heap.size + 1 + 1, 0, none⟩), .pointer (some ⟨w.heap.size + 1, 0, none⟩)]) ∧
      w' = ((w.alloc (.cells #[.int .i64 h] 3)).alloc (.cells #[.slice ao n c] 22)).alloc (.cells #[.int .i64 lim] 3) := by
  go_enter Tryd.func5, Tryd.ntmps5
  go_wp2_with fail
  go_ret
  exact ⟨rfl, rfl⟩
theorem run16 (v x y z : Value) (w : World) : Sem.run Tryd.prog (callFunc 16 (#[v] ++ #[x, y, z])) w = .ok (.enter 16 (#[v] ++ #[x, y, z])) w := by kernel_rfl
theorem run7 (v : Value) (w : World) : Sem.run Tryd.prog (callFunc 7 (#[v] ++ #[])) w = .ok (.enter 7 (#[v] ++ #[])) w := by kernel_rfl

theorem two_in (ao : Option Addr) (c : Nat) (xs : List Int) (w : World) (hx : IntsAt .i64 w ao xs) (hl : xs.length ≤ 12) :
    Calls Tryd.prog 7 #[.slice ao xs.length c] w fun e w' => e = .returned (.bool (decide (2 ∈ xs))) ∧ w = w' := by
  have H := In_any xs 2 ao c w hx (by unfold maxLen; omega)
  go_enter Tryd.func7, Tryd.ntmps7
  go_wp2_with fail
  refine H.mono ?_
  rintro e w' ⟨rfl, rfl⟩
  go_wp2_with fail
  go_ret
  exact ⟨rfl, rfl⟩
theorem fact_least {m : List Int} (h : Least (allIn [2]) [1, 2] m) : m = [2] := by
  have h1 : m.length = 1 := by rw [least_count h (by simp)]; rfl
  have h2 : (2 : Int) ∈ m := (least_need h (by simp) 2).2 ⟨by simp, by simp⟩
  match m, h1, h2 with
  | [x], _, h2 => simp at h2; rw [h2]
theorem allIn_two (xs : List Int) : allIn [2] xs = decide (2 ∈ xs) := by simp [allIn]

theorem least_fact (w : World) : Calls Tryd.prog 6 #[.slice (some ⟨w.heap.size, 0, none⟩) 2 2, .func (.func 7) #[] #[]] (w.alloc (.cells #[.int .i64 1, .int .i64 2] 3)) fun e w' => (∃ ao c, e = .returned (.tuple #[.slice ao 1 c, .nilIface]) ∧ IntsAt .i64 w' ao [2]) ∧ Below w.heap.size w w' := by
  have hb : Below w.heap.size w (w.alloc (.cells #[.int .i64 1, .int .i64 2] 3)) := (Below.refl _ _).alloc (Nat.le_refl _) _
  have hl : IntsAt .i64 (w.alloc (.cells #[.int .i64 1, .int .i64 2] 3)) (some ⟨w.heap.size, 0, none⟩) [1, 2] := by
    intro j hj
    refine ⟨_, 0, rfl, ?_⟩
    match j, hj with
    | 0, _ => simp [go_sem]
    | 1, _ => simp [go_sem]
  refine (min_any 7 #[] (allIn [2]) [1, 2] (some ⟨w.heap.size, 0, none⟩) 2 _ hl (fun h => by cases h) (by unfold maxLen; simp) run7 ?_).mono ?_
  · intro w1 B v xs _ _ hBw ho h12
    obtain ⟨ao, c, rfl⟩ := owns_shape ho
    refine (two_in ao c xs w1 (IntsAt.of_owns ho) h12).mono ?_
    rintro e w' ⟨rfl, rfl⟩
    exact ⟨by rw [allIn_two], Below.refl _ _⟩
  · rintro e w' ⟨hp, hb'⟩
    refine ⟨?_, hb.trans (hb'.mono hb.size)⟩
    rcases hp with ⟨h, _⟩ | ⟨_, h, _⟩ | ⟨_, _, v, m, rfl, hm, ho⟩
    · simp at h
    · simp [allIn] at h
    · obtain rfl := fact_least hm
      obtain ⟨ao, c, rfl⟩ := owns_shape ho
      exact ⟨ao, c, rfl, IntsAt.of_owns ho⟩

/-- What Min tells, as two values. -/
def MinVal (F : List Int → Bool) (l : List Int) (v x : Value) (w' : World) : Prop :=
  (12 < l.length ∧ v = .slice none 0 0 ∧ x = .iface 31 (.int .i64 4)) ∨ (l.length ≤ 12 ∧ F l = false ∧ v = .slice none 0 0 ∧ x = .iface 31 (.int .i64 2)) ∨
  (l.length ≤ 12 ∧ F l = true ∧ x = .nilIface ∧ ∃ ao c m, v = .slice ao m.length c ∧ Least F l m ∧ IntsAt .i64 w' ao m ∧ m.length ≤ c)
theorem min_held (how limit : Int) (need : List Int) (F : List Int → Bool) (bh bl bn : Nat) (na : Option Addr) (nc : Nat)
    (hF : ∀ (ao : Option Addr) (c : Nat) (xs : List Int) (w : World), Held how limit need bh bl bn na nc w → IntsAt .i64 w ao xs → xs.length ≤ 12 →
      Calls Tryd.prog 16 #[.slice ao xs.length c, .pointer (some ⟨bh, 0, none⟩), .pointer (some ⟨bl, 0, none⟩), .pointer (some ⟨bn, 0, none⟩)] w fun e w' => e = .returned (.bool (F xs)) ∧ w = w')
    (l : List Int) (lo : Option Addr) (lc : Nat) (W : World) (hh : Held how limit need bh bl bn na nc W) (hx : IntsAt .i64 W lo l) (hn : lo = none → l.length = 0) (hl : l.length ≤ maxLen) :
    Calls Tryd.prog 6 #[.slice lo l.length lc, .func (.func 16) #[] #[.pointer (some ⟨bh, 0, none⟩), .pointer (some ⟨bl, 0, none⟩), .pointer (some ⟨bn, 0, none⟩)]] W fun e w' => (∃ v x, e = .returned (.tuple #[v, x]) ∧ MinVal F l v x w') ∧ Below W.heap.size W w' := by
  refine (min_any 16 _ F l lo lc W hx hn hl (fun v w => run16 v _ _ _ w) ?_).mono ?_
  · intro w1 B v xs hb1 hB hBw ho h12
    obtain ⟨ao, c, rfl⟩ := owns_shape ho
    refine (hF ao c xs w1 (hh.below hb1) (IntsAt.of_owns ho) h12).mono ?_
    rintro e w' ⟨rfl, rfl⟩
    exact ⟨rfl, Below.refl _ _⟩
  · rintro e w' ⟨hp, hb'⟩
    refine ⟨?_, hb'⟩
    rcases hp with ⟨h, rfl⟩ | ⟨h, h2, rfl⟩ | ⟨h12, hFl, v, m, rfl, hm, ho⟩
    · exact ⟨_, _, rfl, .inl ⟨h, rfl, rfl⟩⟩
    · exact ⟨_, _, rfl, .inr (.inl ⟨h, h2, rfl, rfl⟩)⟩
    · obtain ⟨ao, c, rfl⟩ := owns_shape ho
      exact ⟨_, _, rfl, .inr (.inr ⟨h12, hFl, rfl, ao, c, m, rfl, hm, IntsAt.of_owns ho, owns_cap ho⟩)⟩
end Go.Proofs.YtgkjmacdllibmaaDoor
