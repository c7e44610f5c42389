import Derived.Test.YtpfinfgedfhipaaC
namespace Go.Proofs.Ytpfinfgedfhipaa
open Go.RowKit

theorem few_of {k q n : Nat} (h : 0 < k → 2 ^ (k - 1) ≤ n) (hq : n / 2 ^ q = 0) : k ≤ q := by
  rcases Nat.eq_zero_or_pos k with h0 | h0
  · omega
  · have h1 := h h0
    have h2 : n < 2 ^ q := by
      rcases Nat.div_eq_zero_iff.1 hq with h3 | h3
      · have := Nat.two_pow_pos q; omega
      · exact h3
    have h4 : 2 ^ (k - 1) < 2 ^ q := Nat.lt_of_le_of_lt h1 h2
    have := (Nat.pow_lt_pow_iff_right (by omega : 1 < 2)).1 h4
    omega

theorem JAny.at {W : World} {n s : Int} {k : Nat} {w : World} (h : JAny W n s k w) : w.cell? ⟨W.heap.size + 1 + 1, 0, none⟩ = some (.int .i64 k) ∧ w.cell? ⟨W.heap.size + 1 + 1 + 1, 0, none⟩ = some (.bool true) ∧ w.cell? ⟨W.heap.size, 0, none⟩ = some (.int .i64 n) ∧ Below W.heap.size W w := by
  obtain ⟨c1, f1, c2, f2, c3, c4, hs, hb⟩ := h
  exact ⟨c1, c2, c3, hb⟩

theorem any_good (N : Nat) (s : Int) (W : World) (hN : N ≤ 1073741824) :
    Calls Try.prog 3 #[.int .i64 N, .int .i64 s] W fun e w' => e = .returned (.bool true) ∧ Below W.heap.size W w' := by
  go_enter Try.func3, Try.ntmps3
  go_wp2_with fail
  refine (first_6 W _ N s hN ?_).mono ?_
  · refine ⟨?_, ?_, ?_, ?_, ?_, ?_, by simp, ?_⟩
    case refine_7 => exact ((((Below.refl _ _).alloc (Nat.le_refl _) _).alloc (by simp) _).alloc (by simp; omega) _).alloc (by simp; omega) _
    all_goals simp [go_sem]
  rintro e w1 ⟨i, k, hi, hk, hJ⟩
  have HK := Lib.hid hk; clear hk
  obtain ⟨c1, c2, c3, hb⟩ := hJ.at
  rcases hi with ⟨rfl, rfl⟩ | ⟨hi, rfl⟩
  · go_wp2_with (go_at_call 5; refine (fact_any _).mono ?_; rintro e w' ⟨rfl, rfl⟩)
    go_loop [11, 12] (fun q m => ∃ a b : Nat, q = .int .i64 a ∧ m = .int .i64 b ∧ a + b ≤ i ∧ i / 2 ^ a = b) (fun _ m => (intOf m).toNat)
    case atStart => exact ⟨0, i, rfl, rfl, by omega, by simp⟩
    case round =>
      obtain ⟨a, b, rfl, rfl, hab, hd⟩ := hrel
      have HD := Lib.hid hd; clear hd
      by_cases hlt : 0 < b
      · go_wp2_with fail
        go_round
        case rel => exact ⟨a + 1, b / 2, by go_num, by go_num, by omega, by rw [Nat.pow_succ, ← Nat.div_div_eq_div_mul, HD.out]⟩
        case measure => simp [intOf]; omega
      · have hka : k ≤ a := few_of HK.out (by rw [HD.out]; omega)
        go_wp2_with fail
        go_ret
        exact ⟨rfl, hb⟩
  · have hne : (i : Int) < N := by omega
    go_wp2_with (go_at_call 5; refine (fact_any _).mono ?_; rintro e w' ⟨rfl, rfl⟩)
    go_loop [11, 12] (fun q m => ∃ a b : Nat, q = .int .i64 a ∧ m = .int .i64 b ∧ a + b ≤ N ∧ N / 2 ^ a = b) (fun _ m => (intOf m).toNat)
    case atStart => exact ⟨0, N, rfl, rfl, by omega, by simp⟩
    case round =>
      obtain ⟨a, b, rfl, rfl, hab, hd⟩ := hrel
      have HD := Lib.hid hd; clear hd
      by_cases hlt : 0 < b
      · go_wp2_with fail
        go_round
        case rel => exact ⟨a + 1, b / 2, by go_num, by go_num, by omega, by rw [Nat.pow_succ, ← Nat.div_div_eq_div_mul, HD.out]⟩
        case measure => simp [intOf]; omega
      · have hka : k ≤ a := few_of HK.out (by rw [HD.out]; omega)
        go_wp2_with fail
        go_ret
        exact ⟨rfl, hb⟩

theorem any_bad (n s : Int) (W : World) (hn : n < 0 ∨ 1073741824 < n) (hm : n ≤ 9223372036854775807) :
    Calls Try.prog 3 #[.int .i64 n, .int .i64 s] W fun e w' => e = .returned (.bool true) ∧ Below W.heap.size W w' := by
  have hb : Below W.heap.size W ((((W.alloc (.cells #[.int .i64 n] 3)).alloc (.cells #[.int .i64 s] 3)).alloc (.cells #[.int .i64 0] 3)).alloc (.cells #[.bool true] 4)) :=
    ((((Below.refl _ _).alloc (Nat.le_refl _) _).alloc (by simp) _).alloc (by simp; omega) _).alloc (by simp; omega) _
  have HN := Lib.hid hn; clear hn
  go_enter Try.func3, Try.ntmps3
  go_wp2_with fail
  refine (first_bad n _ _ HN.out).mono ?_
  rintro e w1 ⟨rfl, rfl⟩
  go_wp2_with (go_at_call 5; refine (fact_any _).mono ?_; rintro e w' ⟨rfl, rfl⟩)
  go_loop [11, 12] (fun q m => ∃ (a : Nat) (b : Int), q = .int .i64 a ∧ m = .int .i64 b ∧ (b ≤ 0 ∨ a + b ≤ n)) (fun _ m => (intOf m).toNat)
  case atStart => exact ⟨0, n, rfl, rfl, by omega⟩
  case round =>
    obtain ⟨a, b, rfl, rfl, hab⟩ := hrel
    by_cases hlt : 0 < b
    · have hab' : (a : Int) + b ≤ n := by omega
      go_wp2_with fail
      go_round
      case rel => exact ⟨a + 1, b / 2, by go_num, by go_num, by omega⟩
      case measure => simp [intOf]; omega
    · go_wp2_with fail
      go_ret
      exact ⟨rfl, hb⟩
end Go.Proofs.Ytpfinfgedfhipaa
