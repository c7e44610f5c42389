import Derived.Test.YtpfinfgedfhipaaA
namespace Go.Proofs.Ytpfinfgedfhipaa
open Go.RowKit

/-- So few were asked: each time half is left. -/
def Few (n d k : Nat) : Prop := 2 ^ k * d ≤ n ∧ (0 < k → 2 ^ (k - 1) ≤ n)
theorem Few.zero (n : Nat) : Few n n 0 := ⟨by simp, by omega⟩
theorem Few.half {n d d' k : Nat} (h : Few n d k) (hd : 0 < d) (h2 : d' ≤ d / 2) : Few n d' (k + 1) := by
  have h3 : 2 ^ k * (2 * d') ≤ 2 ^ k * d := Nat.mul_le_mul_left _ (by omega)
  have h4 : 2 ^ k * 1 ≤ 2 ^ k * d := Nat.mul_le_mul_left _ hd
  refine ⟨?_, fun _ => ?_⟩
  · rw [Nat.pow_succ, Nat.mul_assoc]; exact Nat.le_trans h3 h.1
  · have := h.1; simp; omega

theorem Few.le {n d k : Nat} (h : Few n d k) (hd : 0 < d) (hn : n ≤ 1073741824) : k ≤ 40 := by
  have h1 : 2 ^ k * 1 ≤ 2 ^ k * d := Nat.mul_le_mul_left _ hd
  have h2 : 2 ^ k ≤ 2 ^ 30 := by have := h.1; simp; omega
  have := (Nat.pow_le_pow_iff_right (by omega : 1 < 2)).1 h2
  omega

theorem search_any (F : Nat) (cap : Array Value) (n : Nat) (hn : n ≤ 1073741824) (J : Nat → World → Prop) (Ans : Int → Bool → Prop) (W : World) (hJ : J 0 W)
    (hrun : ∀ (h : Int) (w : World), Sem.run Try.prog (callFunc F (#[.int .i64 h] ++ cap)) w = .ok (.enter F (#[.int .i64 h] ++ cap)) w)
    (hf : ∀ (h : Int) (k : Nat) (w : World), k ≤ 40 → 0 ≤ h → h < n → J k w → Calls Try.prog F (#[.int .i64 h] ++ cap) w fun e w' => ∃ b, e = .returned (.bool b) ∧ Ans h b ∧ J (k + 1) w') :
    Calls Try.prog 12 #[.int .i64 n, .func (.func F) #[] cap] W fun e w' => ∃ (i : Nat) (k : Nat), e = .returned (.int .i64 i) ∧ i ≤ n ∧ (0 < i → Ans ((i : Int) - 1) false) ∧ (i < n → Ans i true) ∧ (0 < k → 2 ^ (k - 1) ≤ n) ∧ J k w' := by
  have HF := Lib.hid hf; clear hf
  go_enter Try.func12, Try.ntmps12
  go_wp2
  go_loopw [5, 6] (fun i j wr => ∃ a b k : Nat, i = .int .i64 a ∧ j = .int .i64 b ∧ a ≤ b ∧ b ≤ n ∧ (0 < a → Ans ((a : Int) - 1) false) ∧ (b < n → Ans b true) ∧ Few n (b - a) k ∧ J k wr) (fun i j _ => (intOf j - intOf i).toNat)
  case atStart => exact ⟨0, n, 0, rfl, rfl, by omega, by omega, by omega, by omega, Few.zero n, hJ⟩
  case round =>
    obtain ⟨a, b, k, rfl, rfl, hab, hbn, h1, h2, hfew, hk⟩ := hrel
    have H1 := Lib.hid h1; clear h1
    have H2 := Lib.hid h2; clear h2
    by_cases hlt : a < b
    · go_wp2_with fail
      refine (HF.out _ k _ (hfew.le (by omega) hn) (by omega) (by omega) hk).mono ?_
      rintro e w' ⟨c, rfl, hans, hk'⟩
      have hh : ((a : Int) + b) / 2 = ((a + b) / 2 : Nat) := by omega
      cases c
      all_goals have HA := Lib.hid hans; clear hans
      · have hh' := Lib.hid hh; clear hh
        go_wp2_with fail
        go_roundw
        case rel => exact ⟨(a + b) / 2 + 1, b, k + 1, by go_num, rfl, by omega, by omega, fun _ => (by have := HA.out; rw [hh'.out] at this; simpa using this), H2.out, hfew.half (by omega) (by omega), hk'⟩
        case measure => simp [intOf]; omega
      · have hh' := Lib.hid hh; clear hh
        go_wp2_with fail
        go_roundw
        case rel => exact ⟨a, (a + b) / 2, k + 1, rfl, by go_num, by omega, by omega, H1.out, fun _ => (by have := HA.out; rw [hh'.out] at this; exact this), hfew.half (by omega) (by omega), hk'⟩
        case measure => simp [intOf]; omega
    · go_wp2_with fail
      have : a = b := by omega
      subst this
      go_ret
      exact ⟨a, k, rfl, hbn, H1.out, H2.out, hfew.2, hk⟩

theorem first_bad (n : Int) (v : Value) (W : World) (hn : n < 0 ∨ 1073741824 < n) :
    Calls Try.prog 5 #[.int .i64 n, v] W fun e w' => e = .returned (.tuple #[.int .i64 0, .iface 31 (.int .i64 1)]) ∧ W = w' := by
  rcases hn with h | h
  · go_enter Try.func5, Try.ntmps5
    go_wp2
    go_ret2
    exact ⟨rfl, rfl⟩
  · have h' : ¬ n < 0 := by omega
    go_enter Try.func5, Try.ntmps5
    go_wp2
    go_ret2
    exact ⟨rfl, rfl⟩

/-- bisect.First, where n is right. -/
theorem first_any (F : Nat) (cap : Array Value) (n : Nat) (hn : n ≤ 1073741824) (J : Nat → World → Prop) (Ans : Int → Bool → Prop) (W : World) (hJ : J 0 W)
    (hrun : ∀ (h : Int) (w : World), Sem.run Try.prog (callFunc F (#[.int .i64 h] ++ cap)) w = .ok (.enter F (#[.int .i64 h] ++ cap)) w)
    (hf : ∀ (h : Int) (k : Nat) (w : World), k ≤ 40 → 0 ≤ h → h < n → J k w → Calls Try.prog F (#[.int .i64 h] ++ cap) w fun e w' => ∃ b, e = .returned (.bool b) ∧ Ans h b ∧ J (k + 1) w') :
    Calls Try.prog 5 #[.int .i64 n, .func (.func F) #[] cap] W fun e w' => ∃ (i : Nat) (k : Nat), ((i = n ∧ e = .returned (.tuple #[.int .i64 0, .iface 31 (.int .i64 2)])) ∨ (i < n ∧ e = .returned (.tuple #[.int .i64 i, .nilIface]))) ∧ (0 < i → Ans ((i : Int) - 1) false) ∧ (i < n → Ans i true) ∧ (0 < k → 2 ^ (k - 1) ≤ n) ∧ J k w' := by
  have HF := Lib.hid hf; clear hf
  have HR := Lib.hid hrun; clear hrun
  go_enter Try.func5, Try.ntmps5
  go_wp2_with fail
  refine (search_any F cap n hn J Ans W hJ HR.out HF.out).mono ?_
  rintro e w' ⟨i, k, rfl, hi, h1, h2, h3, hk⟩
  have H1 := Lib.hid h1; clear h1
  have H2 := Lib.hid h2; clear h2
  have H3 := Lib.hid h3; clear h3
  by_cases h : i = n
  · subst h
    go_wp2_with fail
    go_ret2
    exact ⟨i, k, .inl ⟨rfl, rfl⟩, H1.out, H2.out, H3.out, hk⟩
  · have hne : i < n := by omega
    go_wp2_with fail
    go_ret2
    exact ⟨i, k, .inr ⟨hne, rfl⟩, H1.out, H2.out, H3.out, hk⟩
end Go.Proofs.Ytpfinfgedfhipaa
