/- CondTells' walk. -/
import Derived.Test.YtpchdclgkdoajaaDoorD
namespace Go.Proofs.YtpchdclgkdoajaaDoor
open Go.RowKit Go.Mine Go.Mine.Cond

theorem error_same (x : Value) (c : Int) (hx : (x = .nilIface ∧ c = 0) ∨ x = .iface 33 (.int .i64 c)) (w : World) (hg : Laid w) :
    Calls Tryd.prog 10 #[x, .int .i64 c] w fun e w' => e = .returned (.bool true) ∧ Below w.heap.size w w' := by
  have H := told_any x c hx w hg
  go_enter Tryd.func10, Tryd.ntmps10
  go_wp2_with fail
  refine H.mono ?_
  rintro e w' ⟨rfl, hb⟩
  clear H
  go_wp2_with fail
  go_ret
  exact ⟨by simp, hb⟩
theorem tests_bad (n : Int) (fs : List Bool) (fo : Option Addr) (fc : Nat) (W : World) (hok : ¬ cok n fs.length) :
    Calls Tryd.prog 15 #[.int .i64 n, .slice fo fs.length fc] W fun e w' => e = .returned (.tuple #[.slice none 0 0, .iface 33 (.int .i64 (cfault n fs.length))]) ∧ W = w' := by
  have HC := Lib.hid (ccheck_any n fo fs.length fc W)
  have HOK := Lib.hid hok
  clear hok
  go_enter Tryd.func15, Tryd.ntmps15
  go_wp2_with fail
  refine HC.out.mono ?_
  rintro e w' ⟨⟨h, _⟩ | ⟨_, rfl⟩, rfl⟩
  · exact absurd h HOK.out
  · go_wp2_with fail
    go_ret2
    exact ⟨rfl, rfl⟩

theorem matters_bad {n i : Int} {fs : List Bool} {e : Ending} (h : MattersPost n fs i e) (hok : ¬ cok n fs.length) : e = .returned (.tuple #[.bool false, .iface 33 (.int .i64 (cfault n fs.length))]) := by
  rcases h with ⟨_, h⟩ | ⟨h, _⟩ | ⟨h, _⟩ | ⟨h, _⟩
  · exact h
  all_goals exact absurd h hok
theorem pair_bad {n i : Int} {fs : List Bool} {e : Ending} (h : PairPost n fs i e) (hok : ¬ cok n fs.length) : e = .returned (.tuple #[.int .i64 0, .int .i64 0, .iface 33 (.int .i64 (cfault n fs.length))]) := by
  rcases h with ⟨_, h⟩ | ⟨h, _⟩ | ⟨h, _⟩ | ⟨h, _⟩
  · exact h
  all_goals exact absurd h hok
theorem covers_bad {n : Int} {fs : List Bool} {xs : List Int} {e : Ending} (h : CoversPost n fs xs e) (hok : ¬ cok n fs.length) : e = .returned (.tuple #[.bool false, .iface 33 (.int .i64 (cfault n fs.length))]) := by
  rcases h with ⟨_, h⟩ | ⟨h, _⟩ | ⟨h, _⟩
  · exact h
  all_goals exact absurd h hok
theorem check_bad {n : Int} {len : Nat} {e : Ending} (h : (cok n len ∧ e = .returned .nilIface) ∨ (¬ cok n len ∧ e = .returned (.iface 33 (.int .i64 (cfault n len))))) (hok : ¬ cok n len) : e = .returned (.iface 33 (.int .i64 (cfault n len))) := by
  rcases h with ⟨h, _⟩ | ⟨_, h⟩
  · exact absurd h hok
  · exact h

set_option maxHeartbeats 4000000 in
set_option maxRecDepth 100000 in
theorem tells_bad (n i : Int) (fs : List Bool) (xs : List Int) (fo mo : Option Addr) (fc tc : Nat) (W : World) (hg : Laid W) (hf : BoolsAt W fo fs) (hx : IntsAt .i64 W mo xs) (hxl : xs.length ≤ maxLen) (hok : ¬ cok n fs.length) :
    Calls Tryd.prog 4 #[.int .i64 n, .slice fo fs.length fc, .int .i64 i, .slice mo xs.length tc] W fun e w' => e = .returned (.bool true) ∧ Below W.heap.size W w' := by
  have HG := Lib.hid hg
  have HF := Lib.hid (show ∀ w, Below W.heap.size W w → BoolsAt w fo fs from fun w hb => hf.below (Nat.le_refl _) hb)
  have HX := Lib.hid (show ∀ w, Below W.heap.size W w → IntsAt .i64 w mo xs from fun w hb => hx.below (Nat.le_refl _) hb)
  have HXL := Lib.hid hxl
  have HOK := Lib.hid hok
  have hfa := cfault_bad hok
  have HCF := Lib.hid (fun w => condFault_any n fo fs.length fc w)
  have HCK := Lib.hid (fun w => (ccheck_any n fo fs.length fc w).mono fun e w' h => And.intro (check_bad h.1 HOK.out) h.2)
  have HMT := Lib.hid (fun w hb => (matters_any n i fs fo fc w (HF.out w hb)).mono fun e w' h => And.intro (matters_bad h.1 HOK.out) h.2)
  have HPR := Lib.hid (fun w hb => (pair_any n i fs fo fc w (HF.out w hb)).mono fun e w' h => And.intro (pair_bad h.1 HOK.out) h.2)
  have HCV := Lib.hid (fun w hb => (coversX_any n fs xs fo mo fc tc w (HF.out w hb) (HX.out w hb) HXL.out).mono fun e w' h => And.intro (covers_bad h.1 HOK.out) h.2)
  have HTS := Lib.hid (fun w => tests_bad n fs fo fc w HOK.out)
  clear hg hf hx hxl hok HF HX HXL HOK
  rcases hfa with hc | hc
  all_goals
    rw [hc] at HCF HCK HMT HPR HCV HTS
    clear hc
    go_enter Tryd.func4, Tryd.ntmps4
    go_wp2_with fail
    refine (decided_true W).mono ?_
    rintro e w1 ⟨rfl, hb1⟩
    have HB1 := Lib.hid hb1
    clear hb1
    go_wp2_with fail
    refine (HCF.out w1).mono ?_
    rintro e w2 ⟨rfl, rfl⟩
    go_wp2_with fail
    refine (HCK.out w1).mono ?_
    rintro e w2 ⟨rfl, rfl⟩
    go_wp2_with fail
    refine (error_same _ _ (.inr rfl) w1 (HG.out.below HB1.out)).mono ?_
    rintro e w2 ⟨rfl, hb⟩
    have HB2 := Lib.hid (HB1.out.trans (hb.mono HB1.out.size))
    clear hb
    go_wp2_with fail
    refine (HMT.out w2 HB2.out).mono ?_
    rintro e w3 ⟨rfl, q, hw⟩
    have HB3 := Lib.hid (show Below W.heap.size W w3 by rw [hw]; exact below_drewN HB2.out q)
    clear hw
    go_wp2_with fail
    refine (error_same _ _ (.inr rfl) w3 (HG.out.below HB3.out)).mono ?_
    rintro e w4 ⟨rfl, hb⟩
    have HB4 := Lib.hid (HB3.out.trans (hb.mono HB3.out.size))
    clear hb
    go_wp2_with fail
    refine (HPR.out w4 HB4.out).mono ?_
    rintro e w5 ⟨rfl, q2, hw⟩
    have HB5 := Lib.hid (show Below W.heap.size W w5 by rw [hw]; exact below_drewN HB4.out q2)
    clear hw
    go_wp2_with fail
    refine (error_same _ _ (.inr rfl) w5 (HG.out.below HB5.out)).mono ?_
    rintro e w6 ⟨rfl, hb⟩
    have HB6 := Lib.hid (HB5.out.trans (hb.mono HB5.out.size))
    clear hb
    go_wp2_with fail
    first
      | (go_loop [24, 25] (fun cv kv => cv = .int .i64 1 ∧ kv = .int .i64 0) (fun _ _ => 0); case atStart => exact ⟨rfl, rfl⟩)
      | (go_loop [24, 25] (fun cv kv => cv = .int .i64 3 ∧ kv = .int .i64 0) (fun _ _ => 0); case atStart => exact ⟨rfl, rfl⟩)
  all_goals
    obtain ⟨rfl, rfl⟩ := hrel
    go_wp2_with fail
    refine (HCV.out w6 HB6.out).mono ?_
    rintro e w7 ⟨rfl, hb⟩
    have HB7 := Lib.hid (HB6.out.trans (hb.mono HB6.out.size))
    clear hb
    go_wp2_with fail
    refine (error_same _ _ (.inr rfl) w7 (HG.out.below HB7.out)).mono ?_
    rintro e w8 ⟨rfl, hb⟩
    have HB8 := Lib.hid (HB7.out.trans (hb.mono HB7.out.size))
    clear hb
    go_wp2_with fail
    refine (HTS.out w8).mono ?_
    rintro e w9 ⟨rfl, rfl⟩
    go_wp2_with fail
    refine (error_same _ _ (.inr rfl) w8 (HG.out.below HB8.out)).mono ?_
    rintro e w9 ⟨rfl, hb⟩
    have HB9 := Lib.hid (HB8.out.trans (hb.mono HB8.out.size))
    clear hb
    go_wp2_with fail
    go_ret
    exact ⟨rfl, HB9.out⟩

set_option maxHeartbeats 8000000 in
set_option maxRecDepth 100000 in
theorem tells_ok (n : Nat) (i : Int) (fs : List Bool) (xs : List Int) (fo mo : Option Addr) (fc tc : Nat) (W : World) (hg : Laid W) (hf : BoolsAt W fo fs) (hx : IntsAt .i64 W mo xs) (hxl : xs.length ≤ maxLen) (hok : cok n fs.length) :
    Calls Tryd.prog 4 #[.int .i64 n, .slice fo fs.length fc, .int .i64 i, .slice mo xs.length tc] W fun e w' => e = .returned (.bool true) ∧ Below W.heap.size W w' := by
  have HG := Lib.hid hg
  have HF := Lib.hid (show ∀ w, Below W.heap.size W w → BoolsAt w fo fs from fun w hb => hf.below (Nat.le_refl _) hb)
  have HX := Lib.hid (show ∀ w, Below W.heap.size W w → IntsAt .i64 w mo xs from fun w hb => hx.below (Nat.le_refl _) hb)
  have HXL := Lib.hid hxl
  have HOK := Lib.hid hok
  obtain ⟨m, hm, hn1, hn6, hl⟩ := hok
  obtain rfl : n = m := by omega
  have HL := Lib.hid hl
  have hl64 : fs.length ≤ 64 := by have := pow_le hn6; omega
  have hcf0 := cfault_ok HOK.out
  have HCF := Lib.hid (fun w => condFault_any n fo fs.length fc w)
  rw [hcf0] at HCF
  unfold maxLen at hxl
  clear hm hl hcf0 hg hf hx
  have HCK := Lib.hid (fun w => ccheck_any n fo fs.length fc w)
  have HMT := Lib.hid (fun w hb => matters_any n i fs fo fc w (HF.out w hb))
  have HPR := Lib.hid (fun w hb => pair_any n i fs fo fc w (HF.out w hb))
  have HCV := Lib.hid (fun w hb => coversX_any n fs xs fo mo fc tc w (HF.out w hb) (HX.out w hb) HXL.out)
  have HTS := Lib.hid (fun w hb => tests_ok n fs fo fc w (HF.out w hb) HOK.out)
  go_enter Tryd.func4, Tryd.ntmps4
  go_wp2_with fail
  refine (decided_true W).mono ?_
  rintro e w1 ⟨rfl, hb1⟩
  have HB1 := Lib.hid hb1
  clear hb1
  go_wp2_with fail
  refine (HCF.out w1).mono ?_
  rintro e w2 ⟨rfl, rfl⟩
  go_wp2_with fail
  refine (HCK.out w1).mono ?_
  rintro e w2 ⟨⟨_, rfl⟩ | ⟨h, _⟩, rfl⟩
  rotate_left
  · exact absurd HOK.out h
  go_wp2_with fail
  refine (error_same _ 0 (.inl ⟨rfl, rfl⟩) w1 (HG.out.below HB1.out)).mono ?_
  rintro e w2 ⟨rfl, hb⟩
  have HB2 := Lib.hid (HB1.out.trans (hb.mono HB1.out.size))
  clear hb
  by_cases hin : 0 ≤ i ∧ i < n
  case' pos =>
    obtain ⟨k, rfl⟩ := Int.eq_ofNat_of_zero_le hin.1
    have hkn : k < n := by omega
    have hp := pow_wrap k (by omega)
    have HPO := Lib.hid (pairOf_any n k fs fo fc w2 (HF.out w2 HB2.out) HL.out hn6 hkn)
    have hin0 : ¬ ((k : Int) < 0) := by omega
    have hin1 : ¬ ((n : Int) ≤ (k : Int)) := by omega
    have hB64 : 2 ^ k ≤ 64 := pow_le (by omega)
    obtain ⟨B, hB⟩ : ∃ B, B = 2 ^ k := ⟨_, rfl⟩
    rw [← hB] at hp hB64
    have HBB := Lib.hid hB
    clear hB
    go_wp2_with fail
    refine HPO.out.mono ?_
    clear HPO
    rintro e w3 ⟨hp3, q, hw⟩
    have HB3 := Lib.hid (show Below W.heap.size W w3 by rw [hw]; exact below_drewN HB2.out q)
    clear hw
    rcases hp3 with ⟨hno, rfl⟩ | ⟨t, hfst, rfl⟩
    case' inl =>
      have HM := Lib.hid (fun w hb => (HMT.out w hb).mono fun e w' h => And.intro (show e = .returned (.tuple #[.bool false, .nilIface]) from by
        rcases h.1 with ⟨h, _⟩ | ⟨_, h, _⟩ | ⟨_, _, _, h⟩ | ⟨_, _, h, _⟩
        · exact absurd HOK.out h
        · exact absurd hin h
        · exact h
        · rw [Int.toNat_natCast] at h; exact absurd h hno) h.2)
      have HP := Lib.hid (fun w hb => (HPR.out w hb).mono fun e w' h => And.intro (show e = .returned (.tuple #[.int .i64 0, .int .i64 0, .iface 33 (.int .i64 2)]) from by
        rcases h.1 with ⟨h, _⟩ | ⟨_, h, _⟩ | ⟨_, _, _, h⟩ | ⟨_, _, t, h, _⟩
        · exact absurd HOK.out h
        · exact absurd hin h
        · exact h
        · rw [Int.toNat_natCast] at h; exact absurd h.mat hno) h.2)
      clear hno
    case' inr =>
      have htl := hfst.1
      obtain ⟨u, hu⟩ : ∃ u, u = t + B := ⟨_, rfl⟩
      have hui : (t : Int) + (B : Int) = (u : Int) := by omega
      have HM := Lib.hid (fun w hb => (HMT.out w hb).mono fun e w' h => And.intro (show e = .returned (.tuple #[.bool true, .nilIface]) from by
        rcases h.1 with ⟨h, _⟩ | ⟨_, h, _⟩ | ⟨_, _, h, _⟩ | ⟨_, _, _, h⟩
        · exact absurd HOK.out h
        · exact absurd hin h
        · rw [Int.toNat_natCast] at h; exact absurd hfst.mat h
        · exact h) h.2)
      have HP := Lib.hid (fun w hb => (HPR.out w hb).mono fun e w' h => And.intro (show e = .returned (.tuple #[.int .i64 t, .int .i64 u, .nilIface]) from by
        rcases h.1 with ⟨h, _⟩ | ⟨_, h, _⟩ | ⟨_, _, h, _⟩ | ⟨_, _, t', h, h2⟩
        · exact absurd HOK.out h
        · exact absurd hin h
        · rw [Int.toNat_natCast] at h; exact absurd hfst.mat h
        · rw [Int.toNat_natCast] at h h2
          obtain rfl := h.uniq hfst
          rw [h2, hu, HBB.out]) h.2)
      clear hfst hu
  case' neg =>
    have hcs : i < 0 ∨ (0 ≤ i ∧ (n : Int) ≤ i) := by omega
    have HB3 := HB2
    obtain ⟨w3, hw3⟩ : ∃ w3, w3 = w2 := ⟨_, rfl⟩
    rw [← hw3] at HB3 ⊢
    clear hw3
    have HM := Lib.hid (fun w hb => (HMT.out w hb).mono fun e w' h => And.intro (show e = .returned (.tuple #[.bool false, .iface 33 (.int .i64 1)]) from by
      rcases h.1 with ⟨h, _⟩ | ⟨_, _, h⟩ | ⟨_, h, _⟩ | ⟨_, h, _⟩
      · exact absurd HOK.out h
      · exact h
      · exact absurd h hin
      · exact absurd h hin) h.2)
    have HP := Lib.hid (fun w hb => (HPR.out w hb).mono fun e w' h => And.intro (show e = .returned (.tuple #[.int .i64 0, .int .i64 0, .iface 33 (.int .i64 1)]) from by
      rcases h.1 with ⟨h, _⟩ | ⟨_, _, h⟩ | ⟨_, h, _⟩ | ⟨_, h, _⟩
      · exact absurd HOK.out h
      · exact h
      · exact absurd h hin
      · exact absurd h hin) h.2)
    clear hin
    rcases hcs with h1 | ⟨h1, h2⟩
  all_goals
    clear HMT HPR HCF HCK
    go_wp2_with fail
    refine (HM.out w3 HB3.out).mono ?_
    clear HM
    rintro e w4 ⟨rfl, q4, hw⟩
    have HB4 := Lib.hid (show Below W.heap.size W w4 by rw [hw]; exact below_drewN HB3.out q4)
    clear hw
    go_wp2_with fail
    refine (error_same _ _ (by first | exact .inr rfl | exact .inl ⟨rfl, rfl⟩) w4 (HG.out.below HB4.out)).mono ?_
    rintro e w5 ⟨rfl, hb⟩
    have HB5 := Lib.hid (HB4.out.trans (hb.mono HB4.out.size))
    clear hb
    go_wp2_with fail
    refine (HP.out w5 HB5.out).mono ?_
    clear HP
    rintro e w6 ⟨rfl, q6, hw⟩
    have HB6 := Lib.hid (show Below W.heap.size W w6 by rw [hw]; exact below_drewN HB5.out q6)
    clear hw
    go_wp2_with fail
    refine (error_same _ _ (by first | exact .inr rfl | exact .inl ⟨rfl, rfl⟩) w6 (HG.out.below HB6.out)).mono ?_
    rintro e w7 ⟨rfl, hb⟩
    have HB7 := Lib.hid (HB6.out.trans (hb.mono HB6.out.size))
    clear hb
    have HX7 := Lib.hid (HX.out w7 HB7.out)
    go_wp2_with fail
    go_loop [24, 25] (fun cv kv => ∃ j : Nat, kv = .int .i64 j ∧ j ≤ xs.length ∧ ((cv = .int .i64 0 ∧ RowKit.Hid (∀ l, l < j → 0 ≤ xs.getD l 0 ∧ xs.getD l 0 < fs.length)) ∨ (cv = .int .i64 1 ∧ RowKit.Hid (¬ ∀ x ∈ xs, 0 ≤ x ∧ x < (fs.length : Int))))) (fun _ kv => xs.length - (intOf kv).toNat)
    case atStart => exact ⟨0, rfl, by omega, .inl ⟨rfl, Lib.hid (fun l hl => by omega)⟩⟩
    case round =>
      obtain ⟨j, rfl, hj, ⟨rfl, hall⟩ | ⟨rfl, hbad⟩⟩ := hrel
      · by_cases hlt : j < xs.length
        · obtain ⟨b, o, rfl, hc⟩ := HX7.out j hlt
          have hmem : xs.getD j 0 ∈ xs := by simp [hlt]
          obtain ⟨x, hx⟩ : ∃ x, x = xs.getD j 0 := ⟨_, rfl⟩
          rw [← hx] at hc hmem
          have HXE := Lib.hid hx
          have HMM := Lib.hid hmem
          clear hx hmem
          by_cases hx0 : x < 0
          · have HBAD := Lib.hid (show ¬ ∀ x ∈ xs, 0 ≤ x ∧ x < (fs.length : Int) from fun h => by have := h x HMM.out; omega)
            clear hall
            go_wp2_with fail
            go_round
            case rel => exact ⟨j + 1, by go_num, by omega, .inr ⟨rfl, HBAD⟩⟩
            case measure => simp [intOf]; omega
          · by_cases hx1 : (fs.length : Int) ≤ x
            · have HBAD := Lib.hid (show ¬ ∀ x ∈ xs, 0 ≤ x ∧ x < (fs.length : Int) from fun h => by have := h x HMM.out; omega)
              clear hall
              go_wp2_with fail
              go_round
              case rel => exact ⟨j + 1, by go_num, by omega, .inr ⟨rfl, HBAD⟩⟩
              case measure => simp [intOf]; omega
            · have HALL := Lib.hid (show ∀ l, l < j + 1 → 0 ≤ xs.getD l 0 ∧ xs.getD l 0 < (fs.length : Int) from fun l hl => by
                by_cases e : l = j
                · subst e; rw [← HXE.out]; omega
                · exact hall.out l (by omega))
              clear hall
              go_wp2_with fail
              go_round
              case rel => exact ⟨j + 1, by go_num, by omega, .inl ⟨rfl, HALL⟩⟩
              case measure => simp [intOf]; omega
        · have hr : ∀ x ∈ xs, 0 ≤ x ∧ x < (fs.length : Int) := fun x hx => by
            obtain ⟨l, hl, rfl⟩ := List.mem_iff_getElem.1 hx
            have := hall.out l (by omega)
            simpa [hl] using this
          have HR := Lib.hid hr
          have HCO := Lib.hid (coversOf_any n fs xs fo mo fc tc w7 (HF.out w7 HB7.out) (HX.out w7 HB7.out) hn1 hn6 HL.out hr HXL.out)
          clear hall hr
          go_wp2_with fail
          refine HCO.out.mono ?_
          clear HCO
          rintro e w8 ⟨⟨b, rfl, hb⟩, q8, hw⟩
          have HB8 := Lib.hid (show Below W.heap.size W w8 by rw [hw]; exact below_drewN HB7.out q8)
          have HBC := Lib.hid hb
          clear hw hb
          go_wp2_with fail
          refine (HCV.out w8 HB8.out).mono ?_
          rintro e w9 ⟨hp, hb⟩
          have HB9 := Lib.hid (HB8.out.trans (hb.mono HB8.out.size))
          clear hb
          rcases hp with ⟨h, _⟩ | ⟨_, h, _⟩ | ⟨_, _, b2, rfl, hbc⟩
          · exact absurd HOK.out h
          · exact absurd HR.out h
          rw [Int.toNat_natCast] at hbc
          obtain rfl : b2 = b := by rw [Bool.eq_iff_iff, hbc, HBC.out]
          clear hbc
          go_wp2_with fail
          refine (error_same _ 0 (.inl ⟨rfl, rfl⟩) w9 (HG.out.below HB9.out)).mono ?_
          rintro e w10 ⟨rfl, hb⟩
          have HB10 := Lib.hid (HB9.out.trans (hb.mono HB9.out.size))
          clear hb
          go_wp2_with fail
          refine (HTS.out w10 HB10.out).mono ?_
          rintro e w11 ⟨v, L, rfl, hoL, _, hb⟩
          have HB11 := Lib.hid (HB10.out.trans (hb.mono HB10.out.size))
          obtain ⟨aL, cL, rfl⟩ := owns_shape hoL
          clear hb hoL
          go_wp2_with fail
          refine (error_same _ 0 (.inl ⟨rfl, rfl⟩) w11 (HG.out.below HB11.out)).mono ?_
          rintro e w12 ⟨rfl, hb⟩
          have HB12 := Lib.hid (HB11.out.trans (hb.mono HB11.out.size))
          clear hb
          cases b2
          all_goals
            go_wp2_with fail
            go_ret
            exact ⟨by simp, HB12.out⟩
      · have HBAD := Lib.hid hbad.out
        clear hbad
        go_wp2_with fail
        refine (HCV.out w7 HB7.out).mono ?_
        rintro e w9 ⟨hp, hb⟩
        have HB9 := Lib.hid (HB7.out.trans (hb.mono HB7.out.size))
        clear hb
        rcases hp with ⟨h, _⟩ | ⟨_, _, rfl⟩ | ⟨_, h, _⟩
        · exact absurd HOK.out h
        · go_wp2_with fail
          refine (error_same _ 1 (.inr rfl) w9 (HG.out.below HB9.out)).mono ?_
          rintro e w10 ⟨rfl, hb⟩
          have HB10 := Lib.hid (HB9.out.trans (hb.mono HB9.out.size))
          clear hb
          go_wp2_with fail
          refine (HTS.out w10 HB10.out).mono ?_
          rintro e w11 ⟨v, L, rfl, hoL, _, hb⟩
          have HB11 := Lib.hid (HB10.out.trans (hb.mono HB10.out.size))
          obtain ⟨aL, cL, rfl⟩ := owns_shape hoL
          clear hb hoL
          go_wp2_with fail
          refine (error_same _ 0 (.inl ⟨rfl, rfl⟩) w11 (HG.out.below HB11.out)).mono ?_
          rintro e w12 ⟨rfl, hb⟩
          have HB12 := Lib.hid (HB11.out.trans (hb.mono HB11.out.size))
          clear hb
          go_wp2_with fail
          go_ret
          exact ⟨by simp, HB12.out⟩
        · exact absurd h HBAD.out
end Go.Proofs.YtpchdclgkdoajaaDoor
