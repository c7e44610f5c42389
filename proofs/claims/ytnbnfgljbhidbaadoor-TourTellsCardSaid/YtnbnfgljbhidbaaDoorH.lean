/- assayerref2.Tours. -/
import Derived.Test.YtnbnfgljbhidbaaDoorG
namespace Go.Proofs.YtnbnfgljbhidbaaDoor
open Go.RowKit Go.Mine Go.Mine.Tour Go.Deep
open Go.Mine.Flow (R natE M)

/-- There is a tour. -/
def TP (N : Nat) (es : List (Int × Int)) : Prop := Bal N es ∧ ∀ e ∈ es, R (natE es) (-1) e.1.toNat

set_option maxHeartbeats 400000 in
theorem tours_any (N : Nat) (es : List (Int × Int)) (lo : Option Addr) (lc : Nat) (W : World) (hx : PairsAt W lo es) (hok : ok N es) :
    Calls Tryd.prog 7 #[.int .i64 N, .slice lo es.length lc] W fun e w' => ((TP N es ∧ e = .returned (.bool true)) ∨ (¬ TP N es ∧ e = .returned (.bool false))) ∧ Below W.heap.size W w' := by
  have HOF := Lib.hid (offOf_any N es lo lc W hx hok)
  have HX := Lib.hid hx
  have HOK := Lib.hid hok
  have hn1 := hok.1
  have hn12 := hok.2.1
  have hl30 := hok.2.2.1
  clear hx hok
  go_enter Tryd.func7, Tryd.ntmps7
  go_wp2_with fail
  refine HOF.out.mono ?_
  rintro e w1 ⟨rfl, ho1, hb1⟩
  have HRE := Lib.hid (reachOf_any es lo lc (-1) N w1 (HX.out.below (Nat.le_refl _) hb1) HOK.out.2.2.2 (by omega) (by omega) (by omega))
  have HO1 := Lib.hid (IntsAt.of_owns ho1)
  have HB1 := Lib.hid hb1
  have hw1 := (ho1.lt W.heap.size rfl).2
  clear ho1 hb1
  go_wp2_with fail
  refine HRE.out.mono ?_
  rintro e w2 ⟨ys, rfl, hyl, hoy, hys, hb2⟩
  have HO2 := Lib.hid (HO1.out.below (Nat.le_refl _) hb2)
  have HB2 := Lib.hid (HB1.out.trans (hb2.mono HB1.out.size))
  have HOY := Lib.hid hoy
  have HYS := Lib.hid hys
  clear hoy hys hb2 HO1 HRE HOF HB1
  go_wp2_with fail
  go_loop [7] (fun t => ∃ k : Nat, t = .int .i64 k ∧ k ≤ N ∧ ∀ x ∈ (offs es N es.length).take k, x = 0) (fun t => N - (intOf t).toNat)
  case atStart => exact ⟨0, rfl, by omega, by simp⟩
  case round =>
    obtain ⟨k, rfl, hk, hz⟩ := hrel
    by_cases hlt : k < N
    · obtain ⟨b, o, hbo, hc⟩ := HO2.out k (by rw [offs_len]; exact hlt)
      simp only [Option.some.injEq, Addr.mk.injEq] at hbo
      obtain ⟨rfl, rfl, _⟩ := hbo
      rw [Nat.zero_add] at hc
      obtain ⟨u, hu⟩ : ∃ u, u = (offs es N es.length).getD k 0 := ⟨_, rfl⟩
      rw [← hu] at hc
      by_cases hu0 : u = 0
      · subst hu0
        have HZ := Lib.hid (zeros_succ (xs := offs es N es.length) (k := k) (by rw [offs_len]; exact hlt) hz hu.symm)
        clear hz hu
        go_wp2_with fail
        go_round
        case rel => exact ⟨k + 1, by go_num, by omega, HZ.out⟩
        case measure => simp [intOf]; omega
      · have hne : ¬ TP N es := fun h => (bal_iff N es).1 ⟨u, by rw [hu]; simp [offs_len, hlt], hu0⟩ h.1
        have HNE := Lib.hid hne
        clear hz hu hne
        go_wp2_with fail
        go_ret
        exact ⟨.inr ⟨HNE.out, rfl⟩, HB2.out⟩
    · have hke : k = N := by omega
      subst hke
      have hbal : Bal k es := by
        apply Classical.byContradiction
        intro hb
        obtain ⟨x, hx, hne⟩ := (bal_iff k es).2 hb
        exact hne (hz x (by rw [List.take_of_length_le (by rw [offs_len]; omega)]; exact hx))
      have HBAL := Lib.hid hbal
      clear hz hbal HO2
      go_wp2_with fail
      go_loop [8] (fun t => ∃ j : Nat, t = .int .i64 j ∧ j ≤ es.length ∧ ∀ i, i < j → M ys (es.getD i (0, 0)).1.toNat) (fun t => es.length - (intOf t).toNat)
      case atStart => exact ⟨0, rfl, by omega, fun i hi => by omega⟩
      case round =>
        obtain ⟨j, rfl, hj, hall⟩ := hrel
        have HALL := Lib.hid hall
        clear hall
        by_cases hlt2 : j < es.length
        · obtain ⟨b0, o0, rfl, hc1, hc2⟩ := (HX.out.below (Nat.le_refl _) HB2.out) j hlt2
          have hmem : es.getD j (0, 0) ∈ es := by simp [hlt2]
          obtain ⟨q1, q2, q3, q4⟩ := HOK.out.2.2.2 _ hmem
          obtain ⟨a, ha⟩ := Int.eq_ofNat_of_zero_le q1
          rw [ha] at hc1 q2
          have hak : a < k := by omega
          have hcy : w2.cell? ⟨w1.heap.size, a, none⟩ = some (.bool (ys.getD a false)) := by rw [HOY.out.cellAt a (by omega)]; exact bools_at ys a (by omega)
          obtain ⟨c, hc⟩ : ∃ c, c = ys.getD a false := ⟨_, rfl⟩
          rw [← hc] at hcy
          have HA := Lib.hid ha
          have HC := Lib.hid hc
          have HM := Lib.hid hmem
          clear ha hc hmem q3 q4 hc2 q1
          cases c
          · have hno : ¬ TP k es := fun h => by
              have h1 := (HYS.out _).2 (h.2 _ HM.out)
              rw [HA.out] at h1
              unfold M at h1
              rw [Int.toNat_natCast, ← HC.out] at h1
              cases h1
            have HNO := Lib.hid hno
            clear hno
            go_wp2_with fail
            go_ret
            exact ⟨.inr ⟨HNO.out, rfl⟩, HB2.out⟩
          · go_wp2_with fail
            go_round
            case rel =>
              refine ⟨j + 1, by go_num, by omega, fun i hi => ?_⟩
              by_cases e : i = j
              · subst e
                rw [HA.out]
                unfold M
                rw [Int.toNat_natCast, ← HC.out]
              · exact HALL.out i (by omega)
            case measure => simp [intOf]; omega
        · have hyes : TP k es := ⟨HBAL.out, fun e he => by
            obtain ⟨i, hi, rfl⟩ := List.mem_iff_getElem.1 he
            have := HALL.out i (by omega)
            have h2 := (HYS.out _).1 this
            simpa [hi] using h2⟩
          have HYES := Lib.hid hyes
          clear hyes
          go_wp2_with fail
          go_ret
          exact ⟨.inl ⟨HYES.out, rfl⟩, HB2.out⟩
end Go.Proofs.YtnbnfgljbhidbaaDoor
