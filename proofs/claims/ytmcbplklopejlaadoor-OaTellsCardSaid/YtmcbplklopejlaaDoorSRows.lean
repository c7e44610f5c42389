/- assayersame.Rows. No conditions. -/
import Derived.Test.YtmcbplklopejlaaDoorSInts
import Derived.Test.YtmcbplklopejlaaDoorRows3
import Derived.Deep.QuietTactic
import Derived.BigQuiet
namespace Go.Proofs.YtmcbplklopejlaaDoor
open Go.RowKit Go.Mine

theorem rows_take {xs ys : List (List Int)} {k : Nat} (hk : k < xs.length) (hk' : k < ys.length) : xs.take (k + 1) = ys.take (k + 1) ↔ xs.take k = ys.take k ∧ xs.getD k [] = ys.getD k [] := by
  rw [List.take_succ_eq_append_getElem hk, List.take_succ_eq_append_getElem hk']
  have hl : (xs.take k).length = (ys.take k).length := by simp; omega
  constructor
  · intro h
    obtain ⟨h1, h2⟩ := List.append_inj h hl
    refine ⟨h1, ?_⟩
    simp only [List.getD, List.getElem?_eq_getElem hk, List.getElem?_eq_getElem hk', Option.getD_some]
    simpa using h2
  · rintro ⟨h1, h2⟩
    simp only [List.getD, List.getElem?_eq_getElem hk, List.getElem?_eq_getElem hk', Option.getD_some] at h2
    rw [h1, h2]

set_option maxHeartbeats 1000000 in
theorem Rows_any (xs ys : List (List Int)) (a b : Option Addr) (ca cb : Nat) (w : World) (hx : RowsAt w a xs) (hy : RowsAt w b ys) (hl : xs.length ≤ 200) (hl2 : ys.length ≤ 200) :
    Calls Tryd.prog 6 #[.slice a xs.length ca, .slice b ys.length cb] w fun e w' => e = .returned (.bool (decide (xs = ys))) ∧ ∃ n, w' = w.drewN n := by
  by_cases hne : xs.length = ys.length
  · have HX := Lib.hid hx; clear hx
    have HY := Lib.hid hy; clear hy
    rw [← hne]
    have HNE := Lib.hid hne; clear hne
    go_enter Tryd.func6, Tryd.ntmps6
    go_wp2_with fail
    go_loopw [5] (fun i wr => ∃ k nq : Nat, i = .int .i64 k ∧ k ≤ xs.length ∧ RowKit.Hid (xs.take k = ys.take k) ∧ wr = w.drewN nq) (fun i _ => xs.length - (intOf i).toNat)
    case atStart => exact ⟨0, 0, rfl, by omega, Lib.hid (by simp), (drewN_zero w).symm⟩
    case round =>
      obtain ⟨k, nq, rfl, hk, HT, hw⟩ := hrel
      have HWR := Lib.hid hw
      by_cases hlt : k < xs.length
      · obtain ⟨b1, o1, r1, c1, rfl, hc1, hi1, hm1, _, _⟩ := HX.out k hlt
        obtain ⟨b2, o2, r2, c2, rfl, hc2, hi2, _, _, _⟩ := HY.out k (by rw [← HNE.out]; exact hlt)
        have HTS := Lib.hid (rows_take (ys := ys) hlt (by rw [← HNE.out]; exact hlt))
        obtain ⟨x, hx⟩ : ∃ x, x = xs.getD k [] := ⟨_, rfl⟩
        obtain ⟨y, hy⟩ : ∃ y, y = ys.getD k [] := ⟨_, rfl⟩
        rw [← hx] at hc1 HTS hi1 hm1
        rw [← hy] at hc2 HTS hi2
        have hd1 : wr.cell? ⟨b1, o1 + k, none⟩ = some (.slice r1 x.length c1) := by rw [hw]; exact hc1
        have hd2 : wr.cell? ⟨b2, o2 + k, none⟩ = some (.slice r2 y.length c2) := by rw [hw]; exact hc2
        have HI := Lib.hid (fun q => Ints_any x y r1 r2 c1 c2 (wr.drewN q) (by rw [hw]; exact (hi1.drewN nq).drewN q) (by rw [hw]; exact (hi2.drewN nq).drewN q) hm1)
        clear hx hy hi1 hi2 hc1 hc2 hw
        by_cases hxy : x = y
        · have hd : decide (x = y) = true := decide_eq_true hxy
          have HXY := Lib.hid hxy
          clear hxy
          go_wp2_with fail
          go_quiet (first | (go_at_call 10; (with_reducible exact Calls.quiet_of (HI.out _))))
          go_wp2_with fail
          go_roundw
          case rel => exact ⟨k + 1, _, by go_num, by omega, Lib.hid (HTS.out.2 ⟨HT.out, HXY.out⟩), by rw [HWR.out]; exact drewN_drewN _ _ _⟩
          case measure => simp [intOf]; omega
        · have hd : decide (x = y) = false := decide_eq_false hxy
          have HE := Lib.hid (show decide (xs = ys) = false from decide_eq_false (fun h => hxy (HTS.out.1 (by rw [h])).2))
          clear hxy
          go_wp2_with fail
          go_quiet (first | (go_at_call 10; (with_reducible exact Calls.quiet_of (HI.out _))))
          go_wp2_with fail
          go_ret
          exact ⟨by rw [HE.out]; rfl, _, by rw [HWR.out]; exact drewN_drewN _ _ _⟩
      · have HE := Lib.hid (show decide (xs = ys) = true from decide_eq_true (by
          have h := HT.out
          rwa [List.take_of_length_le (by omega), List.take_of_length_le (by rw [← HNE.out]; omega)] at h))
        clear hw
        go_wp2_with fail
        go_ret
        exact ⟨by rw [HE.out]; rfl, _, HWR.out⟩
  · have HE := Lib.hid (show decide (xs = ys) = false from decide_eq_false (fun h => hne (by rw [h])))
    have hb : ((xs.length : Int) != (ys.length : Int)) = true := by rw [bne_iff_ne]; omega
    have hb2 : ((xs.length : Int) == (ys.length : Int)) = false := by rw [beq_eq_false_iff_ne]; omega
    clear hne hx hy
    go_enter Tryd.func6, Tryd.ntmps6
    go_wp2_with fail
    go_ret
    exact ⟨by rw [HE.out]; rfl, 0, (drewN_zero w).symm⟩
end Go.Proofs.YtmcbplklopejlaaDoor
