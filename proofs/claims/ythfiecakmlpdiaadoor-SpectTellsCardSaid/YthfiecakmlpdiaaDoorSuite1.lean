/- suite.Check, assayerref2.SuiteFault. No conditions. -/
import Derived.Test.YthfiecakmlpdiaaDoorRows
import Derived.Test.YthfiecakmlpdiaaDoorInts
import Derived.Test.YthfiecakmlpdiaaDoorSuiteP
import Derived.Deep.QuietTactic
import Derived.BigQuiet
import Derived.Laws.BitsAllLaws
namespace Go.Proofs.YthfiecakmlpdiaaDoor
open Go.RowKit Go.Mine Go.Mine.Suite

/-- Natural numbers as ints. -/
def cast (l : List Nat) : List Int := l.map fun n : Nat => (n : Int)
theorem cast_len (l : List Nat) : (cast l).length = l.length := by simp [cast]
theorem cast_get (l : List Nat) (k : Nat) : (cast l).getD k 0 = ((l.getD k 0 : Nat) : Int) := by
  unfold cast
  by_cases h : k < l.length
  · simp [h]
  · simp [List.getElem?_eq_none (show l.length ≤ k by omega)]
/-- Right tests. -/
def sok (n : Int) (ts : List Nat) : Prop := 0 ≤ n ∧ n ≤ 32 ∧ ts.length ≤ 12 ∧ ∀ t ∈ ts, t < 2 ^ n.toNat
def sfault (n : Int) (ts : List Nat) : Int := if n < 0 ∨ 32 < n then 1 else if 12 < ts.length then 4 else if ∀ t ∈ ts, t < 2 ^ n.toNat then 0 else 1
theorem sfault_ok {n : Int} {ts : List Nat} (h : sok n ts) : sfault n ts = 0 := by
  unfold sfault
  rw [if_neg (by have := h.1; have := h.2.1; omega), if_neg (by have := h.2.2.1; omega), if_pos h.2.2.2]
theorem sfault_bad {n : Int} {ts : List Nat} (h : ¬ sok n ts) : sfault n ts = 1 ∨ sfault n ts = 4 := by
  unfold sfault
  split
  · exact .inl rfl
  · split
    · exact .inr rfl
    · split
      · rename_i h1 h2 h3
        exact absurd ⟨by omega, by omega, by omega, h3⟩ h
      · exact .inl rfl
theorem shr_zero {t m : Nat} : ((t : Int) / 2 ^ m != 0) = decide (¬ t < 2 ^ m) := by
  have h : ((t : Int) / 2 ^ m) = ((t / 2 ^ m : Nat) : Int) := by rw [Int.natCast_ediv, Int.natCast_pow]; rfl
  rw [h, Bool.eq_iff_iff, bne_iff_ne, decide_eq_true_eq]
  have : t / 2 ^ m = 0 ↔ t < 2 ^ m := Nat.div_eq_zero_iff_lt (Nat.two_pow_pos m)
  omega

set_option maxHeartbeats 1000000 in
theorem scheck_any (n : Int) (ts : List Nat) (ao : Option Addr) (c : Nat) (W : World) (hx : IntsAt .u32 W ao (cast ts)) (h32 : ∀ t ∈ ts, t < 4294967296) (hl : ts.length ≤ maxLen) :
    Calls Tryd.prog 15 #[.int .i64 n, .slice ao ts.length c] W fun e w' => ((sok n ts ∧ e = .returned .nilIface) ∨ (¬ sok n ts ∧ e = .returned (.iface 25 (.int .i64 (sfault n ts))))) ∧ W = w' := by
  unfold maxLen at hl
  by_cases h1 : n < 0
  · have HF := Lib.hid (show sfault n ts = 1 by unfold sfault; rw [if_pos (.inl h1)])
    have HNO := Lib.hid (show ¬ sok n ts by rintro ⟨h, _⟩; omega)
    clear hx
    go_enter Tryd.func15, Tryd.ntmps15
    go_wp2_with fail
    go_ret
    exact ⟨.inr ⟨HNO.out, by rw [HF.out]; rfl⟩, rfl⟩
  · by_cases h2 : 32 < n
    · have HF := Lib.hid (show sfault n ts = 1 by unfold sfault; rw [if_pos (.inr h2)])
      have HNO := Lib.hid (show ¬ sok n ts by rintro ⟨_, h, _⟩; omega)
      clear hx
      go_enter Tryd.func15, Tryd.ntmps15
      go_wp2_with fail
      go_ret
      exact ⟨.inr ⟨HNO.out, by rw [HF.out]; rfl⟩, rfl⟩
    · obtain ⟨m, rfl⟩ : ∃ m : Nat, n = m := ⟨n.toNat, by omega⟩
      by_cases h3 : 12 < ts.length
      · have HF := Lib.hid (show sfault m ts = 4 by unfold sfault; rw [if_neg (by omega), if_pos h3])
        have HNO := Lib.hid (show ¬ sok m ts by rintro ⟨_, _, h, _⟩; omega)
        clear hx
        go_enter Tryd.func15, Tryd.ntmps15
        go_wp2_with fail
        go_ret
        exact ⟨.inr ⟨HNO.out, by rw [HF.out]; rfl⟩, rfl⟩
      · have HX := Lib.hid hx
        have H32 := Lib.hid h32
        clear hx h32
        go_enter Tryd.func15, Tryd.ntmps15
        go_wp2_with fail
        go_loop [20] (fun kv => ∃ k : Nat, kv = .int .i64 k ∧ k ≤ ts.length ∧ RowKit.Hid (∀ j, j < k → ts.getD j 0 < 2 ^ m)) (fun kv => ts.length - (intOf kv).toNat)
        case atStart => exact ⟨0, rfl, by omega, Lib.hid (fun j hj => by omega)⟩
        case round =>
          obtain ⟨k, rfl, hk, hall⟩ := hrel
          by_cases hlt : k < ts.length
          · obtain ⟨b, o, rfl, hc⟩ := HX.out k (by rw [cast_len]; exact hlt)
            rw [cast_get] at hc
            have hmem : ts.getD k 0 ∈ ts := by simp [hlt]
            obtain ⟨t, ht⟩ : ∃ t, t = ts.getD k 0 := ⟨_, rfl⟩
            rw [← ht] at hc hmem
            have ht32 := H32.out t hmem
            have HT := Lib.hid ht
            have HM := Lib.hid hmem
            have hs := shr_zero (t := t) (m := m)
            clear ht hmem
            by_cases hlm : t < 2 ^ m
            · have HLM := Lib.hid hlm
              rw [decide_eq_false (by omega)] at hs
              have HN := Lib.hid (show ∀ j, j < k + 1 → ts.getD j 0 < 2 ^ m from fun j hj => by
                by_cases e : j = k
                · subst e; rw [← HT.out]; exact HLM.out
                · exact hall.out j (by omega))
              clear hlm hall
              go_wp2_with fail
              go_round
              case rel => exact ⟨k + 1, by go_num, by omega, HN⟩
              case measure => simp [intOf]; omega
            · have HLM := Lib.hid hlm
              rw [decide_eq_true hlm] at hs
              have HNO := Lib.hid (show ¬ sok m ts by rintro ⟨_, _, _, h⟩; have := h t HM.out; rw [Int.toNat_natCast] at this; exact HLM.out this)
              have HF := Lib.hid (show sfault m ts = 1 by unfold sfault; rw [if_neg (by omega), if_neg (by omega), if_neg (fun h => by have := h t HM.out; rw [Int.toNat_natCast] at this; exact HLM.out this)])
              clear hlm hall
              go_wp2_with fail
              go_ret
              exact ⟨.inr ⟨HNO.out, by rw [HF.out]; rfl⟩, rfl⟩
          · obtain rfl : k = ts.length := by omega
            have HO := Lib.hid (show sok m ts from ⟨by omega, by omega, by omega, fun t ht => by
              obtain ⟨j, hj, rfl⟩ := List.mem_iff_getElem.1 ht
              have := hall.out j hj
              rw [Int.toNat_natCast]
              simpa [hj] using this⟩)
            go_wp2_with fail
            go_ret
            exact ⟨.inl ⟨HO.out, rfl⟩, rfl⟩
end Go.Proofs.YthfiecakmlpdiaaDoor
