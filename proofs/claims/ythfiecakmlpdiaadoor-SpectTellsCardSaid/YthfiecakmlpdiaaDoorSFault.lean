/- assayerref2.SuiteFault. No conditions. -/
import Derived.Test.YthfiecakmlpdiaaDoorSuite1
namespace Go.Proofs.YthfiecakmlpdiaaDoor
open Go.RowKit Go.Mine Go.Mine.Suite

theorem so_eq (t i : Nat) : ((((t : Nat) : Int) / 2 ^ i).tmod 2 == 1) = t.testBit i := by
  have h : (((t : Nat) : Int) / 2 ^ i) = ((t / 2 ^ i : Nat) : Int) := by rw [Int.natCast_ediv, Int.natCast_pow]; rfl
  rw [h, show (2 : Int) = ((2 : Nat) : Int) from rfl, ← Int.ofNat_tmod, Nat.testBit_eq_decide_div_mod_eq, Bool.eq_iff_iff, beq_iff_eq, decide_eq_true_eq]
  omega
theorem so_emod (t i : Nat) : ((((t : Nat) : Int) / 2 ^ i) % 2 == 1) = t.testBit i := by
  have h : (((t : Nat) : Int) / 2 ^ i) = ((t / 2 ^ i : Nat) : Int) := by rw [Int.natCast_ediv, Int.natCast_pow]; rfl
  rw [h, Nat.testBit_eq_decide_div_mod_eq, Bool.eq_iff_iff, beq_iff_eq, decide_eq_true_eq]
  omega
theorem lt_of_bits {t m : Nat} (h32 : t < 4294967296) (h : ∀ j, m ≤ j → j < 32 → t.testBit j = false) : t < 2 ^ m := Nat.lt_pow_two_of_testBit t fun i hi => by
  by_cases h' : i < 32
  · exact h i hi h'
  · exact Nat.testBit_lt_two_pow (Nat.lt_of_lt_of_le h32 (Nat.pow_le_pow_right (Nat.succ_pos 1) (show 32 ≤ i by omega)))
theorem not_lt_of_bit {t m j : Nat} (h : t.testBit j = true) (hj : m ≤ j) : ¬ t < 2 ^ m := fun hlt => by
  rw [Nat.testBit_lt_two_pow (Nat.lt_of_lt_of_le hlt (Nat.pow_le_pow_right (Nat.succ_pos 1) hj))] at h
  cases h

set_option maxHeartbeats 1000000 in
theorem sfault_any (n : Int) (ts : List Nat) (ao : Option Addr) (c : Nat) (W : World) (hx : IntsAt .u32 W ao (cast ts)) (h32 : ∀ t ∈ ts, t < 4294967296) (hl : ts.length ≤ maxLen) :
    Calls Tryd.prog 5 #[.int .i64 n, .slice ao ts.length c] W fun e w' => e = .returned (.int .i64 (sfault n ts)) ∧ W = w' := by
  unfold maxLen at hl
  by_cases h1 : n < 0
  · have HF := Lib.hid (show sfault n ts = 1 by unfold sfault; rw [if_pos (.inl h1)])
    clear hx
    go_enter Tryd.func5, Tryd.ntmps5
    go_wp2_with fail
    go_ret
    exact ⟨by rw [HF.out]; rfl, rfl⟩
  · by_cases h2 : 32 < n
    · have HF := Lib.hid (show sfault n ts = 1 by unfold sfault; rw [if_pos (.inr h2)])
      clear hx
      go_enter Tryd.func5, Tryd.ntmps5
      go_wp2_with fail
      go_ret
      exact ⟨by rw [HF.out]; rfl, rfl⟩
    · obtain ⟨m, rfl⟩ : ∃ m : Nat, n = m := ⟨n.toNat, by omega⟩
      by_cases h3 : 12 < ts.length
      · have HF := Lib.hid (show sfault m ts = 4 by unfold sfault; rw [if_neg (by omega), if_pos h3])
        clear hx
        go_enter Tryd.func5, Tryd.ntmps5
        go_wp2_with fail
        go_ret
        exact ⟨by rw [HF.out]; rfl, rfl⟩
      · have HX := Lib.hid hx
        have H32 := Lib.hid h32
        clear hx h32
        go_enter Tryd.func5, Tryd.ntmps5
        go_wp2_with fail
        go_loop [5] (fun kv => ∃ k : Nat, kv = .int .i64 k ∧ k ≤ ts.length ∧ RowKit.Hid (∀ j, j < k → ts.getD j 0 < 2 ^ m)) (fun kv => ts.length - (intOf kv).toNat)
        case atStart => exact ⟨0, rfl, by omega, Lib.hid (fun j hj => by omega)⟩
        case round =>
          obtain ⟨k, rfl, hk, hall⟩ := hrel
          by_cases hlt : k < ts.length
          · obtain ⟨b, o, rfl, hc⟩ := HX.out k (by rw [cast_len]; exact hlt)
            rw [cast_get] at hc
            have hmem : ts.getD k 0 ∈ ts := by simp [hlt]
            obtain ⟨t, ht⟩ : ∃ t, t = ts.getD k 0 := ⟨_, rfl⟩
            rw [← ht] at hc hmem
            have ht32 := H32.out t hmem
            have HT := Lib.hid ht
            have HM := Lib.hid hmem
            clear ht hmem
            go_wp2_with fail
            go_loop [6] (fun qv => ∃ q : Nat, qv = .int .i64 q ∧ m ≤ q ∧ q ≤ 32 ∧ RowKit.Hid (∀ j, m ≤ j → j < q → t.testBit j = false)) (fun qv => 32 - (intOf qv).toNat)
            case atStart => exact ⟨m, rfl, by omega, by omega, Lib.hid (fun j h1 h2 => by omega)⟩
            case round =>
              obtain ⟨q, rfl, hmq, hq, hbits⟩ := hrel
              by_cases hq32 : q < 32
              · have hs1 := so_eq t q
                have hs2 := so_emod t q
                obtain ⟨tb, htb⟩ : ∃ tb, t.testBit q = tb := ⟨_, rfl⟩
                have HTB := Lib.hid htb
                rw [htb] at hs1 hs2
                clear htb
                cases tb
                · go_wp2_with fail
                  go_round
                  case rel => exact ⟨q + 1, by go_num, by omega, by omega, Lib.hid (fun j h1 h2 => by
                    by_cases e : j = q
                    · subst e; exact HTB.out
                    · exact hbits.out j h1 (by omega))⟩
                  case measure => simp [intOf]; omega
                · have HF := Lib.hid (show sfault m ts = 1 by unfold sfault; rw [if_neg (by omega), if_neg (by omega), if_neg (fun h => by have := h t HM.out; rw [Int.toNat_natCast] at this; exact not_lt_of_bit HTB.out hmq this)])
                  go_wp2_with fail
                  go_ret
                  exact ⟨by rw [HF.out]; rfl, rfl⟩
              · obtain rfl : q = 32 := by omega
                have HN := Lib.hid (show ∀ j, j < k + 1 → ts.getD j 0 < 2 ^ m from fun j hj => by
                  by_cases e : j = k
                  · subst e; rw [← HT.out]; exact lt_of_bits ht32 hbits.out
                  · exact hall.out j (by omega))
                clear hall hbits
                go_wp2_with fail
                go_round
                case rel => exact ⟨k + 1, by go_num, by omega, HN⟩
                case measure => simp [intOf]; omega
          · obtain rfl : k = ts.length := by omega
            have HO := Lib.hid (show sok m ts from ⟨by omega, by omega, by omega, fun t ht => by
              obtain ⟨j, hj, rfl⟩ := List.mem_iff_getElem.1 ht
              have := hall.out j hj
              rw [Int.toNat_natCast]
              simpa [hj] using this⟩)
            go_wp2_with fail
            go_ret
            exact ⟨by rw [sfault_ok HO.out]; rfl, rfl⟩
end Go.Proofs.YthfiecakmlpdiaaDoor
