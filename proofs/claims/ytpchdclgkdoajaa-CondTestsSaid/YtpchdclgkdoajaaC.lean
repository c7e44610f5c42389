/- CondTests' walk. -/
import Derived.Test.YtpchdclgkdoajaaCond5
import Derived.Test.YtpchdclgkdoajaaLessPlace
namespace Go.Proofs.Ytpchdclgkdoajaa
open Go.RowKit Go.Mine Go.Mine.Cond

theorem tests_bad (n : Int) (fs : List Bool) (fo : Option Addr) (fc : Nat) (W : World) (hok : ¬ cok n fs.length) :
    Calls Try.prog 7 #[.int .i64 n, .slice fo fs.length fc] W fun e w' => e = .returned (.tuple #[.slice none 0 0, .iface 37 (.int .i64 (cfault n fs.length))]) ∧ W = w' := by
  have HC := Lib.hid (ccheck_any n fo fs.length fc W)
  have HOK := Lib.hid hok
  clear hok
  go_enter Try.func7, Try.ntmps7
  go_wp2_with fail
  refine HC.out.mono ?_
  rintro e w' ⟨⟨h, _⟩ | ⟨_, rfl⟩, rfl⟩
  · exact absurd h HOK.out
  · go_wp2_with fail
    go_ret2
    exact ⟨rfl, rfl⟩

theorem rise_lt {ys : List Int} (h : Rise ys) {i j : Nat} (hij : i < j) (hj : j < ys.length) : ys.getD i 0 < ys.getD j 0 := by
  have := List.pairwise_iff_getElem.1 h i j (by omega) hj hij
  simpa [hj, show i < ys.length by omega] using this

set_option maxHeartbeats 4000000 in
set_option maxRecDepth 100000 in
theorem condTests_walk (n : Int) (fs : List Bool) (fo : Option Addr) (fc : Nat) (W : World) (hf : BoolsAt W fo fs) :
    Calls Try.prog 4 #[.int .i64 n, .slice fo fs.length fc] W fun e w' => e = .returned (.bool true) ∧ Below W.heap.size W w' := by
  have HF := Lib.hid (show ∀ w, Below W.heap.size W w → BoolsAt w fo fs from fun w hb => hf.below (Nat.le_refl _) hb)
  clear hf
  by_cases hok : cok n fs.length
  · have HOK := Lib.hid hok
    obtain ⟨N, rfl, hn1, hn6, hl⟩ := hok
    have HL := Lib.hid hl
    clear hl
    go_enter Try.func4, Try.ntmps4
    go_wp2_with fail
    refine (decided_true W).mono ?_
    rintro e w1 ⟨rfl, hb1⟩
    have HT := Lib.hid (tests_ok N fs fo fc w1 (HF.out _ hb1) HOK.out)
    have HB1 := Lib.hid hb1
    clear hb1
    go_wp2_with fail
    refine HT.out.mono ?_
    clear HT
    rintro e w2 ⟨v, L, rfl, ho, hpr, hb2⟩
    obtain ⟨ao, cap, rfl⟩ := owns_shape ho
    have hb := HB1.out.trans (hb2.mono HB1.out.size)
    have hcp : L.length ≤ cap := by
      rcases ho.2 with ⟨h, h0⟩ | ⟨g', cap', cur, hv, _, _, h1, _⟩
      · omega
      · cases hv; exact h1
    have HI := Lib.hid (show ∀ w, Below w2.heap.size w2 w → IntsAt .i64 w ao L from fun w hb => (IntsAt.of_owns ho).below (Nat.le_refl _) hb)
    have hll : L.length ≤ 2 * N := hpr.len
    have HPR := Lib.hid hpr
    have HC := Lib.hid (coversX_any N fs L fo ao fc cap w2 (HF.out _ hb) (IntsAt.of_owns ho) (by unfold maxLen; omega))
    have HB2 := Lib.hid hb
    clear ho hpr hb2 hb HB1
    go_wp2_with fail
    refine HC.out.mono ?_
    clear HC
    rintro e w3 ⟨hp, hb3⟩
    have hz3 := hb3.size
    have HB3 := Lib.hid (HB2.out.trans (hb3.mono HB2.out.size))
    have HQ3 := Lib.hid hb3
    clear hb3 HB2
    rcases hp with ⟨h, _⟩ | ⟨_, h, _⟩ | ⟨_, _, b, rfl, hbc⟩
    · exact absurd HOK.out h
    · exact absurd HPR.out.range h
    rw [Int.toNat_natCast] at hbc
    obtain rfl := hbc.2 HPR.out.cov
    clear hbc
    have hgt : ¬ (2 * (N : Int) < (L.length : Int)) := by omega
    go_wp2_with fail
    go_loopw [10] (fun iv wr => ∃ k : Nat, iv = .int .i64 k ∧ k ≤ L.length ∧ Below w2.heap.size w2 wr ∧ Below W.heap.size W wr) (fun iv _ => L.length - (intOf iv).toNat)
    case atStart => exact ⟨0, rfl, by omega, HQ3.out, HB3.out⟩
    case round =>
      obtain ⟨k, rfl, hk, hq, hb⟩ := hrel
      have HQ := Lib.hid hq
      have HB := Lib.hid hb
      by_cases hlt : k < L.length
      · have HLP := Lib.hid (less_place ao cap L k wr (HI.out _ hq) hlt (by omega) hcp)
        clear hq hb
        go_wp2_with fail
        refine HLP.out.mono ?_
        clear HLP
        rintro e w4 ⟨v4, rfl, ho4, hb4⟩
        obtain ⟨a4, c4, rfl⟩ := owns_shape ho4
        have hb5 := HB.out.trans (hb4.mono HB.out.size)
        have hq5 := HQ.out.trans (hb4.mono HQ.out.size)
        have hel : (L.eraseIdx k).length ≤ L.length := (List.eraseIdx_sublist _ _).length_le
        have hc := coversX_any N fs (L.eraseIdx k) fo a4 fc c4 w4 (HF.out _ hb5) (IntsAt.of_owns ho4) (by unfold maxLen; omega)
        have hneed := HPR.out.need k (by omega) hlt
        have hrange : ∀ x ∈ L.eraseIdx k, 0 ≤ x ∧ x < (fs.length : Int) := fun x hx => HPR.out.range x ((List.eraseIdx_sublist _ _).mem hx)
        obtain ⟨E, hE⟩ : ∃ E, E = L.eraseIdx k := ⟨_, rfl⟩
        rw [← hE] at hc hneed hrange ⊢
        have HC := Lib.hid hc
        have HNEED := Lib.hid hneed
        have HRANGE := Lib.hid hrange
        have HB5 := Lib.hid hb5
        have HQ5 := Lib.hid hq5
        clear ho4 hb4 hb5 hq5 hel hc hneed hrange hE HB HQ
        go_wp2_with fail
        refine HC.out.mono ?_
        clear HC
        rintro e w6 ⟨hp, hb6⟩
        have hb7 := HB5.out.trans (hb6.mono HB5.out.size)
        have hq7 := HQ5.out.trans (hb6.mono HQ5.out.size)
        rcases hp with ⟨h, _⟩ | ⟨_, h, _⟩ | ⟨_, _, b, rfl, hbc⟩
        · exact absurd HOK.out h
        · exact absurd HRANGE.out h
        rw [Int.toNat_natCast] at hbc
        have hbf : b = false := by
          cases b
          · rfl
          · exact absurd (hbc.1 rfl) HNEED.out
        subst hbf
        obtain ⟨b0, o0, rfl, hc⟩ := HI.out _ hq7 k hlt
        have HB7 := Lib.hid hb7
        have HQ7 := Lib.hid hq7
        by_cases hk0 : k = 0
        · subst hk0
          have hd : decide ((0 : Int) < ((0 : Nat) : Int)) = false := rfl
          clear hbc hb6 hb7 hq7
          go_wp2_with fail
          go_quiet (fail)
          go_wp2_with fail
          go_roundw
          case rel => exact ⟨0 + 1, by go_num, by omega, below_drewN HQ7.out _, below_drewN HB7.out _⟩
          case measure => simp [intOf]; omega
        · obtain ⟨j, rfl⟩ : ∃ j, k = j + 1 := ⟨k - 1, by omega⟩
          obtain ⟨b1, o1, e1, hc1⟩ := HI.out _ hq7 j (by omega)
          cases e1
          have hrl := rise_lt HPR.out.rise (show j < j + 1 by omega) hlt
          obtain ⟨x, hx⟩ : ∃ x, x = L.getD (j + 1) 0 := ⟨_, rfl⟩
          obtain ⟨y, hy⟩ : ∃ y, y = L.getD j 0 := ⟨_, rfl⟩
          rw [← hx] at hc hrl
          rw [← hy] at hc1 hrl
          have hd : decide ((0 : Int) < ((j + 1 : Nat) : Int)) = true := by rw [decide_eq_true_iff]; omega
          have hd2 : decide (x ≤ y) = false := by rw [decide_eq_false_iff_not]; omega
          clear hbc hb6 hb7 hq7 hx hy
          go_wp2_with fail
          go_quiet (fail)
          go_wp2_with fail
          go_roundw
          case rel => exact ⟨j + 1 + 1, by go_num, by omega, below_drewN HQ7.out _, below_drewN HB7.out _⟩
          case measure => simp [intOf]; omega
      · have hke : k = L.length := by omega
        subst hke
        go_wp2_with fail
        go_ret
        exact ⟨rfl, hb⟩
  · have HT := Lib.hid (fun w => tests_bad n fs fo fc w hok)
    clear hok
    go_enter Try.func4, Try.ntmps4
    go_wp2_with fail
    refine (decided_true W).mono ?_
    rintro e w1 ⟨rfl, hb1⟩
    have HB1 := Lib.hid hb1
    clear hb1
    go_wp2_with fail
    refine (HT.out w1).mono ?_
    rintro e w2 ⟨rfl, rfl⟩
    go_wp2_with fail
    go_ret
    exact ⟨rfl, HB1.out⟩
end Go.Proofs.Ytpchdclgkdoajaa
