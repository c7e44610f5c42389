/- InterBack. -/
import Derived.Test.YtkdfikjfbbnekaaG
import Derived.Test.YtkdfikjfbbnekaaSInts
namespace Go.Proofs.Ytkdfikjfbbnekaa
open Go.RowKit Go.Mine Go.Mine.Inter

set_option maxHeartbeats 1000000 in
theorem back_bad (xs ord : List Int) (k : Int) (ao oo : Option Addr) (ca co : Nat) (W : World) (hx : IntsAt .i64 W ao xs) (hl : xs.length ≤ maxLen) (hok : ¬ ok xs) :
    Calls Try.prog 4 #[.slice ao xs.length ca, .int .i64 k, .slice oo ord.length co] W fun e w' => e = .returned (.bool true) ∧ Below W.heap.size W w' := by
  have hx1 := hx.below (Nat.le_refl _) (((Below.refl W.heap.size W).alloc (Nat.le_refl _) (.cells #[.int .i64 1, .int .i64 2] 3)))
  have HX := Lib.hid hx1; clear hx hx1
  go_enter Try.func4, Try.ntmps4
  go_wp2_with fail
  refine (turned_any _).mono ?_
  rintro e w1 ⟨rfl, rfl⟩
  go_wp2_with fail
  refine (Count_any xs ao ca _ HX.out hl).mono ?_
  rintro e w1 ⟨hp, rfl⟩
  rcases hp with ⟨h, _⟩ | ⟨_, c, rfl⟩
  · exact absurd h hok
  · go_wp2_with fail
    go_ret
    exact ⟨rfl, (Below.refl _ _).alloc (Nat.le_refl _) _⟩

set_option maxHeartbeats 1000000 in
set_option maxRecDepth 100000 in
theorem back_ok (l : List Nat) (ord : List Int) (k : Int) (ao oo : Option Addr) (ca co : Nat) (W : World) (hx : IntsAt .i64 W ao (cast l)) (hn : ao = none → l.length = 0) (hok : ok (cast l)) (hk : -9223372036854775808 ≤ k ∧ k ≤ 9223372036854775807)
    (ho : IntsAt .i64 W oo ord) (hol : ord.length ≤ maxLen) :
    Calls Try.prog 4 #[.slice ao l.length ca, .int .i64 k, .slice oo ord.length co] W fun e w' => e = .returned (.bool true) ∧ Below W.heap.size W w' := by
  have h6 : l.length ≤ 6 := by simpa using hok.1
  have h20 : l.sum ≤ 20 := by have := (map_toNat _ hok.2.1).2; have h3 := hok.2.2; rw [toNat_map] at this; omega
  have hmb : mult l ≤ 2432902008176640000 := by have := mult_le l; have h2 := fac_mono h20; rw [fac20] at h2; omega
  have hmb0 := hmb
  have HX := Lib.hid hx; clear hx
  have HO := Lib.hid ho; clear ho
  have HOK := Lib.hid hok; clear hok
  have HN := Lib.hid hn; clear hn
  obtain ⟨W1, hW1⟩ : ∃ W1, W1 = W.alloc (.cells #[.int .i64 1, .int .i64 2] 3) := ⟨_, rfl⟩
  have hb1 : Below W.heap.size W W1 := by rw [hW1]; exact (Below.refl _ _).alloc (Nat.le_refl _) _
  have HB1 := Lib.hid hb1
  have hct := Count_any (cast l) ao ca W1 (HX.out.below (Nat.le_refl _) hb1) (by simp; unfold maxLen; omega)
  rw [List.length_map] at hct
  have HC := Lib.hid hct
  clear hb1 hct
  go_enter Try.func4, Try.ntmps4
  go_wp2_with fail
  refine (turned_any _).mono ?_
  rintro e w1 ⟨rfl, rfl⟩
  go_wp2_with fail
  rw [← hW1]
  clear hW1
  refine HC.out.mono ?_
  rintro e w1 ⟨hp, rfl⟩
  rcases hp with ⟨_, rfl⟩ | ⟨h, _⟩
  case inr => exact absurd HOK.out h
  rw [toNat_map]
  clear HC
  obtain ⟨N, hN⟩ : ∃ N, N = mult l := ⟨_, rfl⟩
  rw [← hN] at hmb ⊢
  have HNN := Lib.hid hN; clear hN
  have HNTH := Lib.hid (Nth_ok l k ao ca W1 (HX.out.below (Nat.le_refl _) HB1.out) HN.out HOK.out hk)
  go_wp2_with fail
  refine HNTH.out.mono ?_
  clear HNTH
  rintro e w2 ⟨hp, hb2⟩
  have HB2 := Lib.hid (HB1.out.trans (hb2.mono HB1.out.size))
  clear hb2
  rcases hp with ⟨v, o, rfl, hk0, hr, hown⟩ | ⟨hkn, c, rfl⟩
  case' inl =>
    obtain ⟨k0, rfl⟩ : ∃ k0 : Nat, k = k0 := ⟨k.toNat, by omega⟩
    simp only [Int.toNat_natCast] at hr
    have hlt := rankOf_lt _ _ _ hr
    obtain ⟨va, vc, rfl⟩ := owns_shape hown
    have hcount := rankOf_count _ _ _ hr
    have holen : o.length ≤ maxLen := by
      rcases hown.2 with ⟨_, h⟩ | ⟨_, _, _, _, _, _, h1, h2, _⟩
      · unfold maxLen; omega
      · exact Nat.le_trans h1 h2
    have HRK := Lib.hid (Rank_ok l o ao va ca vc w2 (HX.out.below (Nat.le_refl _) HB2.out) HN.out HOK.out (IntsAt.of_owns hown) holen)
    have HOW := Lib.hid (IntsAt.of_owns hown)
    unfold maxLen at holen
    have HR := Lib.hid hr
    have HCNT := Lib.hid hcount
    clear hown hr hcount
    go_wp2_with fail
    refine HRK.out.mono ?_
    clear HRK
    rintro e w3 ⟨hp3, hb3⟩
    have HO3 := Lib.hid (HOW.out.below (Nat.le_refl _) hb3)
    have HB3 := Lib.hid (HB2.out.trans (hb3.mono HB2.out.size))
    clear hb3 HOW
    obtain ⟨hr3, rfl⟩ : rankOf l o = some k0 ∧ e = .returned (.tuple #[.int .i64 k0, .nilIface]) := by
      rcases hp3 with ⟨r, h1, h2⟩ | ⟨h1, _⟩
      · rw [HR.out] at h1; cases h1; exact ⟨HR.out, h2⟩
      · rw [HR.out] at h1; cases h1
    clear hr3 hp3
    go_wp2_with fail
    go_loop [14] (fun i => ∃ ii : Nat, i = .int .i64 ii ∧ ii ≤ l.length) (fun i => l.length - (intOf i).toNat)
    case atStart => exact ⟨0, rfl, by omega⟩
    case' round =>
      obtain ⟨ii, rfl, hii⟩ := hrel
      have hk1 : (k0 : Int) < N := by have := HNN.out; omega
      by_cases hil : ii < l.length
      case' pos =>
        go_wp2_with fail
        go_loop [15, 16] (fun mv j => ∃ jj : Nat, j = .int .i64 jj ∧ mv = .int .i64 ((o.take jj).count (ii : Int) : Nat) ∧ jj ≤ o.length) (fun _ j => o.length - (intOf j).toNat)
        case atStart => exact ⟨0, rfl, rfl, by omega⟩
        case round =>
          obtain ⟨jj, rfl, rfl, hjj⟩ := hrel
          by_cases hjl : jj < o.length
          · obtain ⟨b, off, rfl, hc⟩ := HO3.out jj hjl
            have hts : (o.take (jj + 1)).count (ii : Int) = (o.take jj).count (ii : Int) + if o.getD jj 0 = ii then 1 else 0 := by
              rw [List.take_succ_eq_append_getElem hjl, List.count_append]
              simp only [List.count_singleton, List.getD_eq_getElem?_getD, List.getElem?_eq_getElem hjl, Option.getD_some, beq_iff_eq]
            have hcl := List.count_le_length (a := (ii : Int)) (l := o.take jj)
            rw [List.length_take] at hcl
            obtain ⟨cc, hcc⟩ : ∃ cc, cc = (o.take jj).count (ii : Int) := ⟨_, rfl⟩
            rw [← hcc] at hts hcl ⊢
            obtain ⟨x, hx⟩ : ∃ x, x = o.getD jj 0 := ⟨_, rfl⟩
            rw [← hx] at hts hc
            have HTS := Lib.hid hts
            clear hts hcc hx
            by_cases he : x = ii
            · subst he
              go_wp2_with fail
              go_round
              case rel => exact ⟨jj + 1, by go_num, by rw [HTS.out, if_pos rfl]; go_num, by omega⟩
              case measure => simp [intOf]; omega
            · go_wp2_with fail
              go_round
              case rel => exact ⟨jj + 1, by go_num, by rw [HTS.out, if_neg he]; rfl, by omega⟩
              case measure => simp [intOf]; omega
          · have hje : jj = o.length := by omega
            subst hje
            rw [List.take_length]
            have hcnt := HCNT.out ii hil
            have hx3 := HX.out.below (Nat.le_refl _) HB3.out
            obtain ⟨b, off, rfl, hc⟩ := hx3 ii (by simpa using hil)
            rw [cast_get' l ii hil, ← hcnt] at hc
            have hne : (o.count (ii : Int) : Int) = (o.count (ii : Int) : Int) := rfl
            clear hx3 hcnt
            obtain ⟨cc, hcc⟩ : ∃ cc, cc = o.count (ii : Int) := ⟨_, rfl⟩
            rw [← hcc] at hc ⊢
            clear hcc hne
            go_wp2_with fail
            go_round
            case rel => exact ⟨ii + 1, by go_num, by omega⟩
            case measure => simp [intOf]; omega
      case' neg =>
        have hie : ii = l.length := by omega
        subst hie
        go_wp2_with fail
        clear HNN
  case' inr =>
    have HKN := Lib.hid (show ¬ (0 ≤ k ∧ k < N) by have := HNN.out; omega)
    obtain ⟨w3, hw3⟩ : ∃ w3, w3 = w2 := ⟨_, rfl⟩
    subst hw3
    have HB3 := Lib.hid HB2.out
    clear HNN HB2
    go_wp2_with fail
  all_goals
    clear HB1
  all_goals
    refine (Rank_ok l ord ao oo ca co w3 (HX.out.below (Nat.le_refl _) HB3.out) HN.out HOK.out (HO.out.below (Nat.le_refl _) HB3.out) hol).mono ?_
    rintro e w4 ⟨hp4, hb4⟩
    have HB4 := Lib.hid (HB3.out.trans (hb4.mono HB3.out.size))
    clear hb4
    rcases hp4 with ⟨r, hr, rfl⟩ | ⟨hr, c4, rfl⟩
    · have hrl := rankOf_lt _ _ _ hr
      have HR4 := Lib.hid hr
      clear hr
      go_wp2_with fail
      refine (Nth_ok l r ao ca w4 (HX.out.below (Nat.le_refl _) HB4.out) HN.out HOK.out (by omega)).mono ?_
      rintro e w5 ⟨hp5, hb5⟩
      have HB5 := Lib.hid (HB4.out.trans (hb5.mono HB4.out.size))
      clear hb5
      rcases hp5 with ⟨v5, o5, rfl, _, hr5, hown5⟩ | ⟨h5, _⟩
      · obtain rfl := rankOf_inj _ _ _ _ hr5 HR4.out
        obtain ⟨va5, vc5, rfl⟩ := owns_shape hown5
        have HI := Lib.hid (IntsAt.of_owns hown5)
        clear hown5 hr5
        go_wp2_with fail
        refine (Ints_any o5 o5 va5 oo vc5 co w5 HI.out (HO.out.below (Nat.le_refl _) HB5.out) hol).mono ?_
        rintro e w6 ⟨rfl, n6, rfl⟩
        have HB6 := Lib.hid (below_drewN HB5.out n6)
        go_wp2_with fail
        go_ret
        exact ⟨by simp, HB6.out⟩
      · exact absurd ⟨by omega, by omega⟩ h5
    · clear hr
      go_wp2_with fail
      all_goals
        go_ret
        refine ⟨?_, HB4.out⟩
        first
          | (have h := HKN.out; simp; omega)
          | (simp; omega)
          | simp
end Go.Proofs.Ytkdfikjfbbnekaa
