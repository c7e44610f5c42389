import Derived.Test.YtpfinfgedfhipaaC
namespace Go.Proofs.Ytpfinfgedfhipaa
open Go.RowKit

theorem ge_a (x a : Int) (p : Addr) (w : World) (hc : w.cell? p = some (.int .i64 a)) :
    Calls Try.prog 9 #[.int .i64 x, .pointer (some p)] w fun e w' => e = .returned (.bool (decide (a ≤ x))) ∧ w = w' := by
  go_enter Try.func9, Try.ntmps9
  go_wp2
  go_ret
  exact ⟨rfl, rfl⟩
theorem ge_b (x a : Int) (p : Addr) (w : World) (hc : w.cell? p = some (.int .i64 a)) :
    Calls Try.prog 10 #[.int .i64 x, .pointer (some p)] w fun e w' => e = .returned (.bool (decide (a ≤ x))) ∧ w = w' := by
  go_enter Try.func10, Try.ntmps10
  go_wp2
  go_ret
  exact ⟨rfl, rfl⟩
theorem ge4'_any (x : Int) (w : World) :
    Calls Try.prog 11 #[.int .i64 x] w fun e w' => e = .returned (.bool (decide (4 ≤ x))) ∧ w = w' := by
  go_enter Try.func11, Try.ntmps11
  go_wp2
  go_ret
  exact ⟨rfl, rfl⟩
theorem run11 (h : Int) (w : World) : Sem.run Try.prog (callFunc 11 (#[.int .i64 h] ++ #[])) w = .ok (.enter 11 (#[.int .i64 h] ++ #[])) w := by kernel_rfl
theorem run9 (h : Int) (a : Value) (w : World) : Sem.run Try.prog (callFunc 9 (#[.int .i64 h] ++ #[a])) w = .ok (.enter 9 (#[.int .i64 h] ++ #[a])) w := by kernel_rfl
theorem run10 (h : Int) (a : Value) (w : World) : Sem.run Try.prog (callFunc 10 (#[.int .i64 h] ++ #[a])) w = .ok (.enter 10 (#[.int .i64 h] ++ #[a])) w := by kernel_rfl

theorem fact'_any (W : World) : Calls Try.prog 5 #[.int .i64 9, .func (.func 11) #[] #[]] W fun e w' => e = .returned (.tuple #[.int .i64 4, .nilIface]) ∧ W = w' := by
  refine (first_any 11 #[] 9 (by omega) (fun _ w => W = w) (fun h b => b = decide (4 ≤ h)) W rfl run11 ?_).mono ?_
  · rintro h k w _ _ _ rfl
    refine (ge4'_any h W).mono ?_
    rintro e w' ⟨rfl, rfl⟩
    exact ⟨_, rfl, rfl, rfl⟩
  · rintro e w' ⟨i, k, h, h1, h2, _, rfl⟩
    have hi : i = 4 := by
      rcases Nat.lt_trichotomy i 4 with h4 | h4 | h4
      · have := h2 (by omega); simp at this; omega
      · exact h4
      · have := h1 (by omega); simp at this; omega
    subst hi
    rcases h with ⟨h, _⟩ | ⟨_, rfl⟩
    · omega
    · exact ⟨rfl, rfl⟩

/-- Since a: the least one from a on. -/
theorem first_since (F : Nat) (n : Nat) (a : Int) (p : Addr) (W : World) (hn : n ≤ 1073741824) (hc : W.cell? p = some (.int .i64 a))
    (hrun : ∀ (h : Int) (a : Value) (w : World), Sem.run Try.prog (callFunc F (#[.int .i64 h] ++ #[a])) w = .ok (.enter F (#[.int .i64 h] ++ #[a])) w)
    (hF : ∀ (x a : Int) (p : Addr) (w : World), w.cell? p = some (.int .i64 a) → Calls Try.prog F #[.int .i64 x, .pointer (some p)] w fun e w' => e = .returned (.bool (decide (a ≤ x))) ∧ w = w') :
    Calls Try.prog 5 #[.int .i64 n, .func (.func F) #[] #[.pointer (some p)]] W fun e w' => (((n ≤ a ∨ n = 0) ∧ e = .returned (.tuple #[.int .i64 0, .iface 31 (.int .i64 2)])) ∨ (a < n ∧ 0 < n ∧ e = .returned (.tuple #[.int .i64 (max a 0), .nilIface]))) ∧ W = w' := by
  refine (first_any F #[.pointer (some p)] n hn (fun _ w => W = w) (fun h b => b = decide (a ≤ h)) W rfl (fun h w => hrun h _ w) ?_).mono ?_
  · rintro h k w _ _ _ rfl
    refine (hF h a p W hc).mono ?_
    rintro e w' ⟨rfl, rfl⟩
    exact ⟨_, rfl, rfl, rfl⟩
  · rintro e w' ⟨i, k, h, h1, h2, _, rfl⟩
    refine ⟨?_, rfl⟩
    rcases h with ⟨rfl, rfl⟩ | ⟨hi, rfl⟩
    · by_cases hna : (i : Int) ≤ a
      · exact .inl ⟨.inl hna, rfl⟩
      · rcases Nat.eq_zero_or_pos i with h0 | h0
        · exact .inl ⟨.inr h0, rfl⟩
        · have := h1 h0; simp at this; omega
    · have := h2 hi
      simp at this
      refine .inr ⟨by omega, by omega, ?_⟩
      have : (i : Int) = max a 0 := by
        rcases Nat.eq_zero_or_pos i with h0 | h0
        · subst h0; omega
        · have := h1 h0; simp at this; omega
      rw [this]

theorem rises_good (N : Nat) (a b : Int) (W : World) (hN : N ≤ 1073741824) :
    Calls Try.prog 4 #[.int .i64 N, .int .i64 a, .int .i64 b] W fun e w' => e = .returned (.bool true) ∧ Below W.heap.size W w' := by
  have hb : Below W.heap.size W ((W.alloc (.cells #[.int .i64 a] 3)).alloc (.cells #[.int .i64 b] 3)) :=
    ((Below.refl _ _).alloc (Nat.le_refl _) _).alloc (by simp) _
  go_enter Try.func4, Try.ntmps4
  go_wp2_with fail
  refine (first_since 9 N a _ _ hN (by simp [go_sem]) run9 ge_a).mono ?_
  rintro e w1 ⟨h1, rfl⟩
  have hc2 : ((W.alloc (.cells #[.int .i64 a] 3)).alloc (.cells #[.int .i64 b] 3)).cell? ⟨W.heap.size + 1, 0, none⟩ = some (.int .i64 b) := by simp [go_sem]
  rcases h1 with ⟨h1, rfl⟩ | ⟨h1, h1', rfl⟩
  · have H1 := Lib.hid h1; clear h1
    go_wp2_with fail
    refine (first_since 10 N b _ _ hN hc2 run10 ge_b).mono ?_
    rintro e w1 ⟨h2, rfl⟩
    rcases h2 with ⟨h2, rfl⟩ | ⟨h2, h2', rfl⟩
    · have H2 := Lib.hid h2; clear h2
      go_wp2_with (go_at_call 5; refine (fact'_any _).mono ?_; rintro e w' ⟨rfl, rfl⟩)
      all_goals
        go_ret
        exact ⟨rfl, hb⟩
    · have hab : b < a := by have := H1.out; omega
      go_wp2_with (go_at_call 5; refine (fact'_any _).mono ?_; rintro e w' ⟨rfl, rfl⟩)
      go_ret
      exact ⟨rfl, hb⟩
  · go_wp2_with fail
    refine (first_since 10 N b _ _ hN hc2 run10 ge_b).mono ?_
    rintro e w1 ⟨h2, rfl⟩
    rcases h2 with ⟨h2, rfl⟩ | ⟨h2, h2', rfl⟩
    · have H2 := Lib.hid h2; clear h2
      go_wp2_with (go_at_call 5; refine (fact'_any _).mono ?_; rintro e w' ⟨rfl, rfl⟩)
      all_goals
        go_ret
        exact ⟨rfl, hb⟩
    · by_cases hab : b < a
      · go_wp2_with (go_at_call 5; refine (fact'_any _).mono ?_; rintro e w' ⟨rfl, rfl⟩)
        go_ret
        exact ⟨rfl, hb⟩
      · have hm : max a 0 ≤ max b 0 := by omega
        go_wp2_with (go_at_call 5; refine (fact'_any _).mono ?_; rintro e w' ⟨rfl, rfl⟩)
        go_ret
        exact ⟨rfl, hb⟩

theorem rises_bad (n a b : Int) (W : World) (hn : n < 0 ∨ 1073741824 < n) :
    Calls Try.prog 4 #[.int .i64 n, .int .i64 a, .int .i64 b] W fun e w' => e = .returned (.bool true) ∧ Below W.heap.size W w' := by
  have hb : Below W.heap.size W ((W.alloc (.cells #[.int .i64 a] 3)).alloc (.cells #[.int .i64 b] 3)) :=
    ((Below.refl _ _).alloc (Nat.le_refl _) _).alloc (by simp) _
  have HN := Lib.hid hn; clear hn
  go_enter Try.func4, Try.ntmps4
  go_wp2_with fail
  refine (first_bad n _ _ HN.out).mono ?_
  rintro e w1 ⟨rfl, rfl⟩
  go_wp2_with fail
  refine (first_bad n _ _ HN.out).mono ?_
  rintro e w1 ⟨rfl, rfl⟩
  go_wp2_with (go_at_call 5; refine (fact'_any _).mono ?_; rintro e w' ⟨rfl, rfl⟩)
  all_goals
    go_ret
    exact ⟨rfl, hb⟩
end Go.Proofs.Ytpfinfgedfhipaa
