import Derived.Test.YtpfinfgedfhipaaB
namespace Go.Proofs.Ytpfinfgedfhipaa
open Go.RowKit

/-- What the closure of BisectAny leaves: so many were asked, all within; n and salt as they were. -/
def JAny (W : World) (n s : Int) (k : Nat) (w : World) : Prop :=
  w.cell? ⟨W.heap.size + 1 + 1, 0, none⟩ = some (.int .i64 k) ∧ w.frozen? ⟨W.heap.size + 1 + 1, 0, none⟩ = false ∧
  w.cell? ⟨W.heap.size + 1 + 1 + 1, 0, none⟩ = some (.bool true) ∧ w.frozen? ⟨W.heap.size + 1 + 1 + 1, 0, none⟩ = false ∧
  w.cell? ⟨W.heap.size, 0, none⟩ = some (.int .i64 n) ∧ w.cell? ⟨W.heap.size + 1, 0, none⟩ = some (.int .i64 s) ∧ W.heap.size + 4 ≤ w.heap.size ∧ Below W.heap.size W w

theorem asked_any (W : World) (n s h : Int) (k : Nat) (hk : k ≤ 40) (h0 : 0 ≤ h) (hn : h < n) (w : World) (hJ : JAny W n s k w) :
    Calls Try.prog 6 #[.int .i64 h, .pointer (some ⟨W.heap.size + 1 + 1, 0, none⟩), .pointer (some ⟨W.heap.size + 1 + 1 + 1, 0, none⟩), .pointer (some ⟨W.heap.size, 0, none⟩), .pointer (some ⟨W.heap.size + 1, 0, none⟩)] w
      fun e w' => ∃ b, e = .returned (.bool b) ∧ True ∧ JAny W n s (k + 1) w' := by
  obtain ⟨c1, f1, c2, f2, c3, c4, hs, hb⟩ := hJ
  go_enter Try.func6, Try.ntmps6
  go_wp2_with (go_at_call 7; refine (mix_any _ _).mono ?_; rintro e w' ⟨⟨z, rfl⟩, rfl⟩)
  go_ret
  refine ⟨_, rfl, trivial, ?_⟩
  refine ⟨?_, ?_, ?_, ?_, ?_, ?_, by simpa using hs, (hb.setCell (by dsimp; omega) _).setCell (by dsimp; omega) _⟩ <;> simp [go_sem, *]

theorem ge4_run (h : Int) (w : World) : Sem.run Try.prog (callFunc 8 (#[.int .i64 h] ++ #[])) w = .ok (.enter 8 (#[.int .i64 h] ++ #[])) w := by kernel_rfl

/-- The example in each statement: since 4 of 9. -/
theorem fact_any (W : World) : Calls Try.prog 5 #[.int .i64 9, .func (.func 8) #[] #[]] W fun e w' => e = .returned (.tuple #[.int .i64 4, .nilIface]) ∧ W = w' := by
  refine (first_any 8 #[] 9 (by omega) (fun _ w => W = w) (fun h b => b = decide (4 ≤ h)) W rfl ge4_run ?_).mono ?_
  · rintro h k w _ _ _ rfl
    refine (ge4_any h W).mono ?_
    rintro e w' ⟨rfl, rfl⟩
    exact ⟨_, rfl, rfl, rfl⟩
  · rintro e w' ⟨i, k, h, h1, h2, _, rfl⟩
    have hi : i = 4 := by
      rcases Nat.lt_trichotomy i 4 with h4 | h4 | h4
      · have := h2 (by omega); simp at this; omega
      · exact h4
      · have := h1 (by omega); simp at this; omega
    subst hi
    rcases h with ⟨h, _⟩ | ⟨_, rfl⟩
    · omega
    · exact ⟨rfl, rfl⟩

theorem run6 (h : Int) (a b c d : Value) (w : World) : Sem.run Try.prog (callFunc 6 (#[.int .i64 h] ++ #[a, b, c, d])) w = .ok (.enter 6 (#[.int .i64 h] ++ #[a, b, c, d])) w := by kernel_rfl

/-- bisect.First as BisectAny asks it. -/
theorem first_6 (W w : World) (n : Nat) (s : Int) (hn : n ≤ 1073741824) (hJ : JAny W n s 0 w) :
    Calls Try.prog 5 #[.int .i64 n, .func (.func 6) #[] #[.pointer (some ⟨W.heap.size + 1 + 1, 0, none⟩), .pointer (some ⟨W.heap.size + 1 + 1 + 1, 0, none⟩), .pointer (some ⟨W.heap.size, 0, none⟩), .pointer (some ⟨W.heap.size + 1, 0, none⟩)]] w
      fun e w' => ∃ (i : Nat) (k : Nat), ((i = n ∧ e = .returned (.tuple #[.int .i64 0, .iface 31 (.int .i64 2)])) ∨ (i < n ∧ e = .returned (.tuple #[.int .i64 i, .nilIface]))) ∧ (0 < k → 2 ^ (k - 1) ≤ n) ∧ JAny W n s k w' := by
  refine (first_any 6 _ n hn (JAny W n s) (fun _ _ => True) w hJ (fun h w => run6 h _ _ _ _ w) ?_).mono ?_
  · intro h k w hk h0 h1 hJ
    exact asked_any W n s h k hk h0 h1 w hJ
  · rintro e w' ⟨i, k, h, _, _, h3, hJ⟩
    exact ⟨i, k, h, h3, hJ⟩
end Go.Proofs.Ytpfinfgedfhipaa
