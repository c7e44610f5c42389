/- assayersame.Sets: are two lists the same. No conditions. -/
import Derived.Test.YtbgcmemndaaopaaDoorRows
import Derived.Test.YtbgcmemndaaopaaDoorInts
import Derived.Deep.QuietTactic
import Derived.BigQuiet
namespace Go.Proofs.YtbgcmemndaaopaaDoor
open Go.RowKit Go.Mine

theorem take_succ_eq {xs ys : List Int} {k : Nat} (hk : k < xs.length) (hk' : k < ys.length) : xs.take (k + 1) = ys.take (k + 1) ↔ xs.take k = ys.take k ∧ xs.getD k 0 = ys.getD k 0 := by
  rw [List.take_succ_eq_append_getElem hk, List.take_succ_eq_append_getElem hk']
  have hl : (xs.take k).length = (ys.take k).length := by simp; omega
  constructor
  · intro h
    have := List.append_inj h hl
    simp [hk, hk']
    exact ⟨this.1, by simpa using this.2⟩
  · rintro ⟨h1, h2⟩
    simp [hk, hk'] at h2
    rw [h1, h2]

set_option maxHeartbeats 600000 in
theorem Sets_any (xs ys : List Int) (a b : Option Addr) (ca cb : Nat) (w : World) (hx : IntsAt .u32 w a xs) (hy : IntsAt .u32 w b ys) (hl : xs.length ≤ maxLen) :
    Calls Tryd.prog 11 #[.slice a xs.length ca, .slice b ys.length cb] w fun e w' => e = .returned (.bool (decide (xs = ys))) ∧ ∃ n, w' = w.drewN n := by
  unfold maxLen at hl
  by_cases hne : xs.length = ys.length
  · have HX := Lib.hid hx; clear hx
    have HY := Lib.hid hy; clear hy
    rw [← hne]
    have HNE := Lib.hid hne; clear hne
    go_enter Tryd.func11, Tryd.ntmps11
    go_wp2_with fail
    go_loopw [5] (fun i wr => ∃ k nq : Nat, i = .int .i64 k ∧ k ≤ xs.length ∧ xs.take k = ys.take k ∧ wr = w.drewN nq) (fun i _ => xs.length - (intOf i).toNat)
    case atStart => exact ⟨0, 0, rfl, by omega, by simp, (drewN_zero w).symm⟩
    case round =>
      obtain ⟨k, nq, rfl, hk, ht, rfl⟩ := hrel
      have HT := Lib.hid ht; clear ht
      by_cases hlt : k < xs.length
      · obtain ⟨b1, o1, rfl, hc1⟩ := HX.out k hlt
        obtain ⟨b2, o2, rfl, hc2⟩ := HY.out k (by rw [← HNE.out]; exact hlt)
        have hts := take_succ_eq (ys := ys) hlt (by rw [← HNE.out]; exact hlt)
        have HTS := Lib.hid hts; clear hts
        obtain ⟨x, hx⟩ : ∃ x, x = xs.getD k 0 := ⟨_, rfl⟩
        obtain ⟨y, hy⟩ : ∃ y, y = ys.getD k 0 := ⟨_, rfl⟩
        rw [← hx] at hc1 HTS
        rw [← hy] at hc2 HTS
        have HXX := Lib.hid hx; clear hx
        have HYY := Lib.hid hy; clear hy
        by_cases hxy : x = y
        · subst hxy
          have hb : (x != x) = false := by simp
          go_wp2_with fail
          go_quiet (fail)
          go_wp2_with fail
          go_roundw
          case rel => exact ⟨k + 1, _, by go_num, by omega, HTS.out.2 ⟨HT.out, by first | trivial | rfl⟩, rfl⟩
          case measure => simp [intOf]; omega
        · have hb : (x != y) = true := by simpa using hxy
          have hE : decide (xs = ys) = false := by
            rw [decide_eq_false_iff_not]
            intro h
            exact hxy (HTS.out.1 (by rw [h])).2
          have HE := Lib.hid hE; clear hE
          have HXY := Lib.hid hxy; clear hxy
          go_wp2_with fail
          go_quiet (fail)
          go_wp2_with fail
          go_ret
          exact ⟨by rw [HE.out]; rfl, _, drewN_drewN _ _ _⟩
      · have hE : decide (xs = ys) = true := by
          rw [decide_eq_true_iff]
          have h := HT.out
          rwa [List.take_of_length_le (by omega), List.take_of_length_le (by rw [← HNE.out]; omega)] at h
        have HE := Lib.hid hE; clear hE
        go_wp2_with fail
        go_ret
        exact ⟨by rw [HE.out]; rfl, _, rfl⟩
  · have hE : decide (xs = ys) = false := by
      rw [decide_eq_false_iff_not]
      intro h
      exact hne (by rw [h])
    have HE := Lib.hid hE; clear hE
    have hb : ((xs.length : Int) != (ys.length : Int)) = true := by rw [bne_iff_ne]; omega
    have hb2 : ((xs.length : Int) == (ys.length : Int)) = false := by rw [beq_eq_false_iff_ne]; omega
    have HNE := Lib.hid hne; clear hne
    go_enter Tryd.func11, Tryd.ntmps11
    go_wp2_with fail
    go_ret
    exact ⟨by rw [HE.out]; rfl, 0, (drewN_zero w).symm⟩
end Go.Proofs.YtbgcmemndaaopaaDoor
