/- GramPals' walk. -/
import Derived.Test.YtfdjnofkoegbdaaDoorGram4
import Derived.Test.YtfdjnofkoegbdaaDoorErrIs
namespace Go.Mine.Gram
/-- The first k places are the same from behind, of two letters. -/
def palK (w : List Int) (k : Nat) : Bool := (List.range k).all fun i => decide (w.getD i 0 = w.getD (w.length - 1 - i) 0) && (decide (w.getD i 0 = 0) || decide (w.getD i 0 = 1))
theorem palK_succ (w : List Int) (k : Nat) : palK w (k + 1) = (palK w k && (decide (w.getD k 0 = w.getD (w.length - 1 - k) 0) && (decide (w.getD k 0 = 0) || decide (w.getD k 0 = 1)))) := by
  simp [palK, List.range_succ]
theorem palK_iff (w : List Int) : palK w w.length = true ↔ Word palsG w := by
  rw [pals_word]
  unfold palK Pal
  simp only [List.all_eq_true, List.mem_range, Bool.and_eq_true, Bool.or_eq_true, decide_eq_true_eq]
  constructor
  · intro h i _ hi
    rw [Nat.zero_add]
    exact h i hi
  · intro h i hi
    have := h i (Nat.zero_le _) hi
    rw [Nat.zero_add] at this
    exact this
end Go.Mine.Gram
namespace Go.Proofs.YtfdjnofkoegbdaaDoor
open Go.RowKit Go.Mine Go.Mine.Gram

set_option maxHeartbeats 2000000 in
theorem gramPals_walk (ws : List Int) (wo : Option Addr) (wc : Nat) (W : World) (hg : Laid W) (hw : IntsAt .i64 W wo ws) (hwl : ws.length ≤ maxLen) :
    Calls Tryd.prog 3 #[.slice wo ws.length wc] W fun e w' => e = .returned (.bool true) ∧ Below W.heap.size W w' := by
  have HG := Lib.hid hg
  have HW := Lib.hid (show ∀ w, Below W.heap.size W w → IntsAt .i64 w wo ws from fun w hb => hw.below (Nat.le_refl _) hb)
  clear hg hw
  have hwl2 := hwl
  unfold maxLen at hwl2
  go_enter Tryd.func3, Tryd.ntmps3
  go_wp2_with fail
  refine (pals_any W).mono ?_
  rintro e w1 ⟨ao, rfl, hg1, hb1⟩
  have HH := Lib.hid (has_any palsG ws ao wo 1 wc w1 hg1 (by decide) (HW.out w1 hb1) hwl)
  have HB1 := Lib.hid hb1
  clear hg1 hb1
  go_wp2_with fail
  refine HH.out.mono ?_
  clear HH
  rintro e w2 ⟨hp, hb2⟩
  have HB2 := Lib.hid (HB1.out.trans (hb2.mono HB1.out.size))
  clear hb2 HB1
  rcases hp with ⟨h, _⟩ | ⟨_, h8, rfl⟩ | ⟨_, h8, b, rfl, hbw⟩
  · exact absurd pals_ok h
  · go_wp2_with fail
    refine (error_is _ _ 4 (Num.err 4) w2 (HG.out.below HB2.out)).mono ?_
    rintro e w3 ⟨rfl, hb3⟩
    have HB3 := Lib.hid (HB2.out.trans (hb3.mono HB2.out.size))
    have e44 : ((4 : Int) == 4) = true := rfl
    rw [e44]
    clear hb3
    go_wp2_with fail
    refine (grammar_true w3).mono ?_
    rintro e w4 ⟨rfl, hb4⟩
    have HB4 := Lib.hid (HB3.out.trans (hb4.mono HB3.out.size))
    clear hb4
    go_wp2_with fail
    go_ret
    exact ⟨rfl, HB4.out⟩
  · have HBW := Lib.hid hbw
    clear hbw
    go_wp2_with fail
    go_loopw [6, 7] (fun sv iv wr => ∃ i nq : Nat, iv = .int .i64 i ∧ i ≤ ws.length ∧ sv = .bool (palK ws i) ∧ wr = w2.drewN nq) (fun _ iv _ => ws.length - (intOf iv).toNat)
    case atStart => exact ⟨0, 0, rfl, by omega, rfl, (drewN_zero w2).symm⟩
    case round =>
      obtain ⟨i, nq, rfl, hi, rfl, rfl⟩ := hrel
      by_cases hil : i < ws.length
      · obtain ⟨bw, ow, hwe, hc1⟩ := HW.out w2 HB2.out i hil
        obtain ⟨bw', ow', hwe', hc2⟩ := HW.out w2 HB2.out (ws.length - 1 - i) (by omega)
        subst hwe
        cases hwe'
        have HS := Lib.hid (palK_succ ws i)
        obtain ⟨x, hx⟩ : ∃ x, x = ws.getD i 0 := ⟨_, rfl⟩
        obtain ⟨y, hy⟩ : ∃ y, y = ws.getD (ws.length - 1 - i) 0 := ⟨_, rfl⟩
        obtain ⟨p, hp⟩ : ∃ p, p = palK ws i := ⟨_, rfl⟩
        rw [← hx] at hc1 HS
        rw [← hy] at hc2 HS
        rw [← hp] at HS ⊢
        obtain ⟨j, hj⟩ : ∃ j : Nat, j = ws.length - 1 - i := ⟨_, rfl⟩
        rw [← hj] at hc2
        have hji : (ws.length : Int) - 1 - (i : Int) = (j : Int) := by omega
        have hjl : j < ws.length := by omega
        clear hx hy hp hj
        cases p with
        | false =>
          go_wp2_with fail
          go_quiet (fail)
          go_wp2_with fail
          go_roundw
          case rel => exact ⟨i + 1, _, by go_num, by omega, by rw [HS.out]; rfl, rfl⟩
          case measure => simp [intOf]; omega
        | true =>
          by_cases hxy : x = y
          · have hb : (x == y) = true := by rw [beq_iff_eq]; exact hxy
            have hd : decide (x = y) = true := decide_eq_true hxy
            rw [hd] at HS
            clear hxy hd
            by_cases h0 : x = 0
            · have hb0 : (x == 0) = true := by rw [beq_iff_eq]; exact h0
              have hd : decide (x = 0) = true := decide_eq_true h0
              rw [hd] at HS
              clear h0 hd
              go_wp2_with fail
              go_quiet (fail)
              go_wp2_with fail
              go_roundw
              case rel => exact ⟨i + 1, _, by go_num, by omega, by rw [HS.out]; rfl, rfl⟩
              case measure => simp [intOf]; omega
            · have hb0 : (x == 0) = false := by rw [beq_eq_false_iff_ne]; exact h0
              have hd : decide (x = 0) = false := decide_eq_false h0
              rw [hd] at HS
              clear h0 hd
              by_cases h1 : x = 1
              · have hb1 : (x == 1) = true := by rw [beq_iff_eq]; exact h1
                have hd : decide (x = 1) = true := decide_eq_true h1
                rw [hd] at HS
                clear h1 hd
                go_wp2_with fail
                go_quiet (fail)
                go_wp2_with fail
                go_roundw
                case rel => exact ⟨i + 1, _, by go_num, by omega, by rw [HS.out]; rfl, rfl⟩
                case measure => simp [intOf]; omega
              · have hb1 : (x == 1) = false := by rw [beq_eq_false_iff_ne]; exact h1
                have hd : decide (x = 1) = false := decide_eq_false h1
                rw [hd] at HS
                clear h1 hd
                go_wp2_with fail
                go_quiet (fail)
                go_wp2_with fail
                go_roundw
                case rel => exact ⟨i + 1, _, by go_num, by omega, by rw [HS.out]; rfl, rfl⟩
                case measure => simp [intOf]; omega
          · have hb : (x == y) = false := by rw [beq_eq_false_iff_ne]; exact hxy
            have hd : decide (x = y) = false := decide_eq_false hxy
            rw [hd] at HS
            clear hxy hd
            go_wp2_with fail
            go_quiet (fail)
            go_wp2_with fail
            go_roundw
            case rel => exact ⟨i + 1, _, by go_num, by omega, by rw [HS.out]; rfl, rfl⟩
            case measure => simp [intOf]; omega
      · obtain rfl : i = ws.length := by omega
        have HE := Lib.hid (show b = palK ws ws.length by
          have := HBW.out.trans (palK_iff ws).symm
          cases b <;> cases h : palK ws ws.length <;> simp_all)
        rw [← HE.out]
        have HBE := Lib.hid (below_drewN HB2.out nq)
        go_wp2_with fail
        go_ret
        exact ⟨by simp, HBE.out⟩
end Go.Proofs.YtfdjnofkoegbdaaDoor
