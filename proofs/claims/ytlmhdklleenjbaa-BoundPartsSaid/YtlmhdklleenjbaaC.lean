import Derived.Test.YtlmhdklleenjbaaB
namespace Go.Proofs.Ytlmhdklleenjbaa
open Go.RowKit Go.Mine

theorem St.step (low q r : Int) (i : Nat) : St low q r (i + 1) = St low q r i + (if (i : Int) < r then q + 1 else q) := rfl

/-- What a round needs of the numbers, beside the bounds. -/
theorem round_facts (low high q r : Int) (n k : Nat) (hq : 1 ≤ q) (hend : St low q r n = high + 1) (hk : k < n) :
    low ≤ St low q r k ∧ St low q r k ≤ St low q r (k + 1) - 1 ∧ St low q r (k + 1) - 1 ≤ high ∧
    (0 < k → low ≤ St low q r (k - 1) ∧ St low q r (k - 1) ≤ St low q r k - 1 ∧ St low q r (k + 1) - 1 - St low q r k ≤ St low q r k - 1 - St low q r (k - 1)) ∧
    St low q r 1 - 1 - low - 1 ≤ St low q r (k + 1) - 1 - St low q r k ∧ low ≤ St low q r 1 - 1 ∧ St low q r 1 - 1 ≤ high := by
  have m0 := St.mono low q r (by omega) (show 0 ≤ k by omega)
  have m1 := St.mono low q r (by omega) (show k + 1 ≤ n by omega)
  have m2 := St.mono low q r (by omega) (show 1 ≤ n by omega)
  have s0 : St low q r 0 = low := rfl
  have s1 : St low q r 1 = low + (if ((0 : Nat) : Int) < r then q + 1 else q) := rfl
  have sk := St.step low q r k
  refine ⟨by omega, by split at sk <;> omega, by omega, fun h0 => ?_, ?_, by split at s1 <;> omega, by omega⟩
  · obtain ⟨j, rfl⟩ : ∃ j, k = j + 1 := ⟨k - 1, by omega⟩
    have mj := St.mono low q r (by omega) (show 0 ≤ j by omega)
    have sj := St.step low q r j
    simp only [Nat.add_sub_cancel]
    refine ⟨by omega, ?_, ?_⟩
    · split at sj <;> omega
    · split at sj <;> split at sk <;> omega
  · split at s1 <;> split at sk <;> omega

set_option maxRecDepth 100000 in
set_option maxHeartbeats 1000000 in
theorem law_some (low high : Int) (n : Nat) (x : Int) (W : World) (h1 : low ≤ high) (h2 : -1073741824 ≤ low) (h3 : high ≤ 1073741824) (hn : 1 ≤ n) (hn2 : (n : Int) ≤ high - low + 1) (hn3 : n ≤ 1000) :
    Calls Try.prog 3 #[.int .i64 low, .int .i64 high, .int .i64 n, .int .i64 x] W fun e w' => e = .returned (.bool true) ∧ Below W.heap.size W w' := by
  obtain ⟨q, hq⟩ : ∃ q, q = (high - low + 1) / n := ⟨_, rfl⟩
  obtain ⟨r, hr⟩ : ∃ r, r = (high - low + 1) % n := ⟨_, rfl⟩
  have hr0 : 0 ≤ r := by rw [hr]; exact Int.emod_nonneg _ (by omega)
  have hr1 : r < n := by rw [hr]; exact Int.emod_lt_of_pos _ (by omega)
  have hq0 : 1 ≤ q := by rw [hq]; exact Int.le_ediv_of_mul_le (by omega) (by omega)
  have hend : St low q r n = high + 1 := by
    rw [St.lin low q r hr0, hq, hr]
    have := Int.mul_ediv_add_emod (high - low + 1) n
    rw [Int.min_eq_right (by omega)]
    omega
  have HP := Lib.hid (parts_ok low high n W h1 h2 h3 hn hn2 hn3)
  rw [← hq, ← hr] at HP
  obtain ⟨s, hs⟩ : ∃ s, s = St low q r := ⟨_, rfl⟩
  have RF : ∀ k, k < n → low ≤ s k ∧ s k ≤ s (k + 1) - 1 ∧ s (k + 1) - 1 ≤ high ∧ (0 < k → low ≤ s (k - 1) ∧ s (k - 1) ≤ s k - 1 ∧ s (k + 1) - 1 - s k ≤ s k - 1 - s (k - 1)) ∧ s 1 - 1 - low - 1 ≤ s (k + 1) - 1 - s k ∧ low ≤ s 1 - 1 ∧ s 1 - 1 ≤ high := fun k hk => by
    rw [hs]; exact round_facts low high q r n k hq0 hend hk
  have hmany : ∀ k, many s x k = if low ≤ x ∧ x < s k then 1 else 0 := fun k => by
    have := many_is s x (fun i => by rw [hs, St.step]; split <;> omega) k
    rw [this, hs]; rfl
  have hs0 : s 0 = low := by rw [hs]; rfl
  rw [← hs] at hend HP
  clear hs hq hr
  have HRF := Lib.hid RF; clear RF
  have HM := Lib.hid hmany; clear hmany
  have HE := Lib.hid hend; clear hend
  have HS0 := Lib.hid hs0; clear hs0
  go_enter Try.func3, Try.ntmps3
  go_wp2_with fail
  refine HP.out.mono ?_
  rintro e w1 ⟨g, cap, rfl, ho, hb⟩
  have hg : g < w1.heap.size := (ho.lt g rfl).2
  have HC := Lib.hid (show ∀ i, i < n → w1.cell? ⟨g, i * 2, none⟩ = some (.int .i64 (s i)) ∧ w1.cell? ⟨g, i * 2 + 1, none⟩ = some (.int .i64 (s (i + 1) - 1)) from fun i hi => by
    rw [ho.cellAt _ (by omega), ho.cellAt _ (by omega)]; exact pcells_at s n i hi)
  clear ho HP
  go_wp2_with fail
  refine (parts_ok 1 9 2 w1 (by omega) (by omega) (by omega) (by omega) (by omega) (by omega)).mono ?_
  rintro e w2 ⟨g2, cap2, rfl, ho, hb2⟩
  have HC2 := Lib.hid (show ∀ i, i < n → w2.cell? ⟨g, i * 2, none⟩ = some (.int .i64 (s i)) ∧ w2.cell? ⟨g, i * 2 + 1, none⟩ = some (.int .i64 (s (i + 1) - 1)) from fun i hi => by
    rw [hb2.cell hg, hb2.cell hg]; exact HC.out i hi)
  clear ho
  have hb3 := hb.trans (hb2.mono hb.size)
  clear hb hb2 HC hg
  have c0 : w2.cell? ⟨g, 0, none⟩ = some (.int .i64 low) := by have := (HC2.out 0 (by omega)).1; rw [HS0.out] at this; simpa using this
  have cn : w2.cell? ⟨g, (n - 1) * 2 + 1, none⟩ = some (.int .i64 high) := by
    have := (HC2.out (n - 1) (by omega)).2
    rw [show n - 1 + 1 = n by omega, HE.out] at this
    simpa using this
  go_wp2_with fail
  go_loopw [14, 13] (fun i m wr => ∃ k nq : Nat, i = .int .i64 k ∧ k ≤ n ∧ m = .int .i64 (many s x k) ∧ wr = w2.drewN nq) (fun i _ _ => n - (intOf i).toNat)
  case atStart => exact ⟨0, 0, rfl, by omega, rfl, rfl⟩
  case round =>
    obtain ⟨k, nq, rfl, hk, rfl, rfl⟩ := hrel
    by_cases hlt : k < n
    · obtain ⟨f1, f2, f3, f4, f5, f6, f7⟩ := HRF.out k hlt
      have hc := HC2.out k hlt
      have hc0 := (HC2.out 0 (by omega)).2
      simp only [Nat.zero_add, Nat.zero_mul] at hc0
      have hM : many s x k ≤ 1 := by rw [HM.out k]; split <;> omega
      obtain ⟨M, hM'⟩ : ∃ M, M = many s x k := ⟨_, rfl⟩
      rw [← hM'] at hM ⊢
      have HMk := Lib.hid hM'; clear hM'
      obtain ⟨a, ha⟩ : ∃ a, a = s k := ⟨_, rfl⟩
      obtain ⟨b, hb⟩ : ∃ b, b = s (k + 1) - 1 := ⟨_, rfl⟩
      obtain ⟨b0, hb0⟩ : ∃ b0, b0 = s 1 - 1 := ⟨_, rfl⟩
      rw [← ha, ← hb] at hc
      rw [← ha] at f1 f2 f4 f5
      rw [← hb] at f2 f3 f4 f5
      rw [← hb0] at hc0 f5 f6 f7
      have HMS := Lib.hid (show many s x (k + 1) = M + (if a ≤ x ∧ x ≤ b then 1 else 0) by rw [many, HMk.out, ha, hb])
      have HA := Lib.hid ha; clear ha
      have HB := Lib.hid hb; clear hb
      have HB0 := Lib.hid hb0; clear hb0
      obtain ⟨hca, hcb⟩ := hc
      have d1 : decide (b - a < 0) = false := by simp; omega
      by_cases h0 : k = 0
      · subst h0
        clear f4
        simp only [Nat.zero_mul, Nat.zero_add] at hca hcb
        have HCA := Lib.hid hca; clear hca hc0
        have hal : a = low := by rw [HA.out, HS0.out]
        have HAL := Lib.hid hal; clear hal
        have c0' : w2.cell? ⟨g, 0, none⟩ = some (.int .i64 a) := HCA.out
        clear c0
        by_cases hxa : a ≤ x
        · by_cases hxb : x ≤ b
          · go_wp2_with fail
            go_quiet (fail)
            go_wp2_with fail
            go_quiet (fail)
            go_wp2_with fail
            go_roundw
            case rel => exact ⟨1, _, rfl, by omega, by have := HMS.out; rw [if_pos ⟨hxa, hxb⟩] at this; simp only [Nat.zero_add] at this; go_num, rfl⟩
            case measure => simp [intOf]; omega
          · go_wp2_with fail
            go_quiet (fail)
            go_wp2_with fail
            go_quiet (fail)
            go_wp2_with fail
            go_roundw
            case rel => exact ⟨1, _, rfl, by omega, by have := HMS.out; rw [if_neg (by omega)] at this; simp only [Nat.zero_add] at this; go_num, rfl⟩
            case measure => simp [intOf]; omega
        · go_wp2_with fail
          go_quiet (fail)
          go_wp2_with fail
          go_quiet (fail)
          go_wp2_with fail
          go_roundw
          case rel => exact ⟨1, _, rfl, by omega, by have := HMS.out; rw [if_neg (by omega)] at this; simp only [Nat.zero_add] at this; go_num, rfl⟩
          case measure => simp [intOf]; omega
      · have h0' : 0 < k := by omega
        have g4 := f4 h0'
        clear f4
        have hp := HC2.out (k - 1) (by omega)
        rw [show k - 1 + 1 = k by omega, ← HA.out] at hp
        obtain ⟨a', ha'⟩ : ∃ a', a' = s (k - 1) := ⟨_, rfl⟩
        obtain ⟨b', hb'⟩ : ∃ b', b' = a - 1 := ⟨_, rfl⟩
        rw [← ha', ← hb'] at hp g4
        have HA' := Lib.hid ha'; clear ha'
        obtain ⟨hpa, hpb⟩ := hp
        obtain ⟨g1, g2, g3⟩ := g4
        have e1 : b' + 1 ≤ a := by omega
        have e2 : a ≤ b' + 1 := by omega
        clear hb'
        have d0 : decide (0 < k) = true := by simp; omega
        have d2 : (a != b' + 1) = false := by rw [bne_eq_false_iff_eq]; omega
        have d3 : decide (b' - a' < b - a) = false := by simp; omega
        have d4 : decide (b - a < b0 - low - 1) = false := by simp; omega
        by_cases hxa : a ≤ x
        · by_cases hxb : x ≤ b
          · go_wp2_with fail
            go_quiet (fail)
            go_wp2_with fail
            go_quiet (fail)
            go_wp2_with fail
            go_roundw
            case rel => exact ⟨k + 1, _, by go_num, by omega, by have := HMS.out; rw [if_pos ⟨hxa, hxb⟩] at this; go_num, rfl⟩
            case measure => simp [intOf]; omega
          · go_wp2_with fail
            go_quiet (fail)
            go_wp2_with fail
            go_quiet (fail)
            go_wp2_with fail
            go_roundw
            case rel => exact ⟨k + 1, _, by go_num, by omega, by have := HMS.out; rw [if_neg (by omega)] at this; go_num, rfl⟩
            case measure => simp [intOf]; omega
        · go_wp2_with fail
          go_quiet (fail)
          go_wp2_with fail
          go_quiet (fail)
          go_wp2_with fail
          go_roundw
          case rel => exact ⟨k + 1, _, by go_num, by omega, by have := HMS.out; rw [if_neg (by omega)] at this; go_num, rfl⟩
          case measure => simp [intOf]; omega
    · have hkn : k = n := by omega
      have hM : many s x k = if low ≤ x ∧ x < high + 1 then 1 else 0 := by rw [HM.out k, hkn, HE.out]
      have HMk := Lib.hid hM; clear hM
      by_cases hxl : low ≤ x
      · by_cases hxh : x ≤ high
        · rw [HMk.out, if_pos (by omega)]
          go_wp2_with fail
          go_ret
          exact ⟨rfl, below_drewN hb3 _⟩
        · rw [HMk.out, if_neg (by omega)]
          go_wp2_with fail
          go_ret
          exact ⟨rfl, below_drewN hb3 _⟩
      · rw [HMk.out, if_neg (by omega)]
        go_wp2_with fail
        go_ret
        exact ⟨rfl, below_drewN hb3 _⟩
end Go.Proofs.Ytlmhdklleenjbaa
