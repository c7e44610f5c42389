/- InterTells' walk. -/
import Derived.Test.YtkdfikjfbbnekaaDoorH
namespace Go.Proofs.YtkdfikjfbbnekaaDoor
open Go.RowKit Go.Mine Go.Mine.Inter

theorem told_error (x : Value) (c d : Int) (hx : (x = .nilIface ∧ c = 0) ∨ x = .iface 24 (.int .i64 c)) (w : World) (hg : Laid w) :
    Calls Tryd.prog 9 #[x, .int .i64 d] w fun e w' => e = .returned (.bool (c == d)) ∧ Below w.heap.size w w' := by
  have H := told_any x c hx w hg
  go_enter Tryd.func9, Tryd.ntmps9
  go_wp2_with fail
  refine H.mono ?_
  rintro e w' ⟨rfl, hb⟩
  clear H
  go_wp2_with fail
  go_ret
  exact ⟨rfl, hb⟩
theorem error_same (x : Value) (c : Int) (hx : (x = .nilIface ∧ c = 0) ∨ x = .iface 24 (.int .i64 c)) (w : World) (hg : Laid w) :
    Calls Tryd.prog 9 #[x, .int .i64 c] w fun e w' => e = .returned (.bool true) ∧ Below w.heap.size w w' :=
  (told_error x c c hx w hg).mono fun e w' ⟨h, hb⟩ => ⟨by rw [h]; simp, hb⟩

set_option maxHeartbeats 1000000 in
set_option maxRecDepth 100000 in
theorem tells_bad (xs ord : List Int) (k c : Int) (ao oo : Option Addr) (ca co : Nat) (W : World) (hg : Laid W) (hx : IntsAt .i64 W ao xs) (hl : xs.length ≤ maxLen) (hok : ¬ ok xs) (hc : fault xs = c) :
    Calls Tryd.prog 3 #[.slice ao xs.length ca, .int .i64 k, .slice oo ord.length co] W fun e w' => e = .returned (.bool true) ∧ Below W.heap.size W w' := by
  have hc2 := fault_bad hok
  rw [hc] at hc2
  obtain ⟨W1, hW1⟩ : ∃ W1, W1 = W.alloc (.cells #[.int .i64 1, .int .i64 2] 3) := ⟨_, rfl⟩
  have hb1 : Below W.heap.size W W1 := by rw [hW1]; exact (Below.refl _ _).alloc (Nat.le_refl _) _
  have HX := Lib.hid hx; clear hx
  have HG := Lib.hid hg; clear hg
  have HB1 := Lib.hid hb1; clear hb1
  have HC := Lib.hid hc; clear hc
  have HOK := Lib.hid hok; clear hok
  have HW1 := Lib.hid hW1; clear hW1
  rcases hc2 with rfl | rfl
  all_goals
    go_enter Tryd.func3, Tryd.ntmps3
    go_wp2_with fail
    refine (turned_any _).mono ?_
    rintro e w1 ⟨rfl, rfl⟩
    go_wp2_with fail
    rw [← HW1.out]
    refine (lensFault_any xs ao ca W1 (HX.out.below (Nat.le_refl _) HB1.out) hl).mono ?_
    rintro e w1 ⟨rfl, rfl⟩
    rw [HC.out]
    go_wp2_with fail
    refine (Count_any xs ao ca W1 (HX.out.below (Nat.le_refl _) HB1.out) hl).mono ?_
    rintro e w1 ⟨hp, rfl⟩
    rcases hp with ⟨h, _⟩ | ⟨_, c, rfl, hc⟩
    · exact absurd h HOK.out
    rw [HC.out] at hc
    subst hc
    go_wp2_with fail
    refine (error_same _ _ (.inr rfl) W1 (HG.out.below HB1.out)).mono ?_
    rintro e w2 ⟨rfl, hb2⟩
    have HB2 := Lib.hid (HB1.out.trans (hb2.mono HB1.out.size)); clear hb2
    go_wp2_with fail
    refine (Nth_bad xs k ao ca w2 (HX.out.below (Nat.le_refl _) HB2.out) hl HOK.out).mono ?_
    rintro e w3 ⟨rfl, rfl⟩
    rw [HC.out]
    go_wp2_with fail
    refine (error_same _ _ (.inr rfl) w2 (HG.out.below HB2.out)).mono ?_
    rintro e w3 ⟨rfl, hb3⟩
    have HB3 := Lib.hid (HB2.out.trans (hb3.mono HB2.out.size)); clear hb3
    go_wp2_with fail
    refine (Rank_bad xs ord ao oo ca co w3 (HX.out.below (Nat.le_refl _) HB3.out) hl HOK.out).mono ?_
    rintro e w4 ⟨rfl, rfl⟩
    rw [HC.out]
    go_wp2_with fail
    refine (error_same _ _ (.inr rfl) w3 (HG.out.below HB3.out)).mono ?_
    rintro e w4 ⟨rfl, hb4⟩
    have HB4 := Lib.hid (HB3.out.trans (hb4.mono HB3.out.size)); clear hb4
    go_wp2_with fail
    go_ret
    exact ⟨by simp, HB4.out⟩

theorem owns_len {w : World} {B n : Nat} {ao : Option Addr} {cap : Nat} {xs : List Value} (h : w.ownsRow B 3 1 (.slice ao n cap) n xs) : n ≤ maxLen := by
  rcases h.2 with ⟨_, h⟩ | ⟨_, _, _, _, _, _, h1, h2, _⟩
  · unfold maxLen; omega
  · exact Nat.le_trans h1 h2

set_option maxHeartbeats 2000000 in
set_option maxRecDepth 100000 in
theorem tells_low (l : List Nat) (ord : List Int) (k : Int) (ao oo : Option Addr) (ca co : Nat) (W : World) (hg : Laid W) (hx : IntsAt .i64 W ao (cast l)) (hn : ao = none → l.length = 0) (hok : ok (cast l)) (hk : -9223372036854775808 ≤ k ∧ k ≤ 9223372036854775807)
    (hc : k < 0 ∧ 0 < mult l) (ho : IntsAt .i64 W oo ord) (hol : ord.length ≤ maxLen) :
    Calls Tryd.prog 3 #[.slice ao l.length ca, .int .i64 k, .slice oo ord.length co] W fun e w' => e = .returned (.bool true) ∧ Below W.heap.size W w' := by
  have h6 : l.length ≤ 6 := by simpa using hok.1
  have h20 : l.sum ≤ 20 := by have := (map_toNat _ hok.2.1).2; have h3 := hok.2.2; rw [toNat_map] at this; omega
  have hmb : mult l ≤ 2432902008176640000 := by have := mult_le l; have h2 := fac_mono h20; rw [fac20] at h2; omega
  have HX := Lib.hid hx; clear hx
  have HO := Lib.hid ho; clear ho
  have HOK := Lib.hid hok; clear hok
  have HN := Lib.hid hn; clear hn
  have HG := Lib.hid hg; clear hg
  obtain ⟨W1, hW1⟩ : ∃ W1, W1 = W.alloc (.cells #[.int .i64 1, .int .i64 2] 3) := ⟨_, rfl⟩
  have hb1 : Below W.heap.size W W1 := by rw [hW1]; exact (Below.refl _ _).alloc (Nat.le_refl _) _
  have HB1 := Lib.hid hb1
  have hct := lensFault_any (cast l) ao ca W1 (HX.out.below (Nat.le_refl _) hb1) (by simp; unfold maxLen; omega)
  rw [List.length_map, fault_ok HOK.out] at hct
  have HC := Lib.hid hct
  clear hb1 hct
  go_enter Tryd.func3, Tryd.ntmps3
  go_wp2_with fail
  refine (turned_any _).mono ?_
  rintro e w1 ⟨rfl, rfl⟩
  go_wp2_with fail
  rw [← hW1]
  clear hW1
  refine HC.out.mono ?_
  rintro e w1 ⟨rfl, rfl⟩
  clear HC
  go_wp2_with fail
  refine (interCount_any l ao ca W1 (HX.out.below (Nat.le_refl _) HB1.out) h20 h6).mono ?_
  rintro e w1 ⟨rfl, rfl⟩
  obtain ⟨N, hN⟩ : ∃ N, N = mult l := ⟨_, rfl⟩
  rw [← hN] at hmb ⊢
  rw [← hN] at hc
  have HNN := Lib.hid hN; clear hN
  have HCASE := Lib.hid (show ¬ (0 ≤ k ∧ k < N) by omega)
  obtain ⟨hc, _⟩ := hc
  all_goals
    go_wp2_with fail
    refine (interRank_any l ord ao oo ca co W1 (HX.out.below (Nat.le_refl _) HB1.out) HN.out h20 h6 (HO.out.below (Nat.le_refl _) HB1.out) hol).mono ?_
    rintro e w2 ⟨hp, hb2⟩
    have HB2 := Lib.hid (HB1.out.trans (hb2.mono HB1.out.size)); clear hb2
    rcases hp with ⟨r, hr, rfl⟩ | ⟨hr, rfl⟩
  all_goals
    have HR := Lib.hid hr; clear hr
    have hct := Count_any (cast l) ao ca w2 (HX.out.below (Nat.le_refl _) HB2.out) (by simp; unfold maxLen; omega)
    rw [List.length_map] at hct
    have HC := Lib.hid hct; clear hct
    go_wp2_with fail
    refine HC.out.mono ?_
    rintro e w3 ⟨hp, rfl⟩
    clear HC
    obtain rfl : e = .returned (.tuple #[.int .i64 N, .nilIface]) := by
      rcases hp with ⟨_, h⟩ | ⟨h, _⟩
      · rw [h, toNat_map, HNN.out]
      · exact absurd HOK.out h
    clear hp
    go_wp2_with fail
    refine (error_same .nilIface 0 (.inl ⟨rfl, rfl⟩) w2 (HG.out.below HB2.out)).mono ?_
    rintro e w3 ⟨rfl, hb3⟩
    have HB3 := Lib.hid (HB2.out.trans (hb3.mono HB2.out.size)); clear hb3
    have HNTH := Lib.hid (Nth_ok l k ao ca w3 (HX.out.below (Nat.le_refl _) HB3.out) HN.out HOK.out hk)
    go_wp2_with fail
    refine HNTH.out.mono ?_
    rintro e w4 ⟨hp, hb4⟩
    have HB4 := Lib.hid (HB3.out.trans (hb4.mono HB3.out.size)); clear hb4 HNTH
    rcases hp with ⟨v, o, rfl, hk0, hr4, hown⟩ | ⟨hkn, rfl⟩
  all_goals
    first
    | (exact absurd HCASE.out (by have h1 := rankOf_lt _ _ _ hr4; have h2 := HNN.out; omega))
    | (exact absurd HCASE.out (by rw [HNN.out]; exact hkn))
    | skip
  all_goals
    go_wp2_with fail
    first
    | (with_reducible refine (error_same .nilIface 0 (.inl ⟨rfl, rfl⟩) w4 (HG.out.below HB4.out)).mono ?_)
    | (with_reducible refine (error_same (.iface 24 (.int .i64 1)) 1 (.inr rfl) w4 (HG.out.below HB4.out)).mono ?_)
    rintro e w5 ⟨rfl, hb5⟩
    have HB5 := Lib.hid (HB4.out.trans (hb5.mono HB4.out.size))
    have HK5 := Lib.hid hb5
    clear hb5
    have hrk := Rank_ok l ord ao oo ca co w5 (HX.out.below (Nat.le_refl _) HB5.out) HN.out HOK.out (HO.out.below (Nat.le_refl _) HB5.out) hol
    have HRK := Lib.hid hrk; clear hrk
    go_wp2_with fail
    refine HRK.out.mono ?_
    rintro e w6 ⟨hp6, hb6⟩
    have HB6 := Lib.hid (HB5.out.trans (hb6.mono HB5.out.size))
    have HK6 := Lib.hid (HK5.out.trans (hb6.mono HK5.out.size))
    clear hb6 HRK
    rcases hp6 with ⟨r6, hr6, rfl⟩ | ⟨hr6, rfl⟩
  all_goals
    first
    | (exfalso; rw [HR.out] at hr6; cases hr6; done)
    | (rw [HR.out] at hr6; cases hr6)
  all_goals
    go_wp2_with fail
    first
    | (with_reducible refine (error_same .nilIface 0 (.inl ⟨rfl, rfl⟩) w6 (HG.out.below HB6.out)).mono ?_)
    | (with_reducible refine (error_same (.iface 24 (.int .i64 3)) 3 (.inr rfl) w6 (HG.out.below HB6.out)).mono ?_)
    rintro e w7 ⟨rfl, hb7⟩
    have HB7 := Lib.hid (HB6.out.trans (hb7.mono HB6.out.size))
    have HK7 := Lib.hid (HK6.out.trans (hb7.mono HK6.out.size))
    clear hb7
  all_goals
    go_wp2_with fail
    go_ret
    exact ⟨by simp, HB7.out⟩

set_option maxHeartbeats 2000000 in
set_option maxRecDepth 100000 in
theorem tells_high (l : List Nat) (ord : List Int) (k : Int) (ao oo : Option Addr) (ca co : Nat) (W : World) (hg : Laid W) (hx : IntsAt .i64 W ao (cast l)) (hn : ao = none → l.length = 0) (hok : ok (cast l)) (hk : -9223372036854775808 ≤ k ∧ k ≤ 9223372036854775807)
    (hc : (mult l : Int) ≤ k) (ho : IntsAt .i64 W oo ord) (hol : ord.length ≤ maxLen) :
    Calls Tryd.prog 3 #[.slice ao l.length ca, .int .i64 k, .slice oo ord.length co] W fun e w' => e = .returned (.bool true) ∧ Below W.heap.size W w' := by
  have h6 : l.length ≤ 6 := by simpa using hok.1
  have h20 : l.sum ≤ 20 := by have := (map_toNat _ hok.2.1).2; have h3 := hok.2.2; rw [toNat_map] at this; omega
  have hmb : mult l ≤ 2432902008176640000 := by have := mult_le l; have h2 := fac_mono h20; rw [fac20] at h2; omega
  have HX := Lib.hid hx; clear hx
  have HO := Lib.hid ho; clear ho
  have HOK := Lib.hid hok; clear hok
  have HN := Lib.hid hn; clear hn
  have HG := Lib.hid hg; clear hg
  obtain ⟨W1, hW1⟩ : ∃ W1, W1 = W.alloc (.cells #[.int .i64 1, .int .i64 2] 3) := ⟨_, rfl⟩
  have hb1 : Below W.heap.size W W1 := by rw [hW1]; exact (Below.refl _ _).alloc (Nat.le_refl _) _
  have HB1 := Lib.hid hb1
  have hct := lensFault_any (cast l) ao ca W1 (HX.out.below (Nat.le_refl _) hb1) (by simp; unfold maxLen; omega)
  rw [List.length_map, fault_ok HOK.out] at hct
  have HC := Lib.hid hct
  clear hb1 hct
  go_enter Tryd.func3, Tryd.ntmps3
  go_wp2_with fail
  refine (turned_any _).mono ?_
  rintro e w1 ⟨rfl, rfl⟩
  go_wp2_with fail
  rw [← hW1]
  clear hW1
  refine HC.out.mono ?_
  rintro e w1 ⟨rfl, rfl⟩
  clear HC
  go_wp2_with fail
  refine (interCount_any l ao ca W1 (HX.out.below (Nat.le_refl _) HB1.out) h20 h6).mono ?_
  rintro e w1 ⟨rfl, rfl⟩
  obtain ⟨N, hN⟩ : ∃ N, N = mult l := ⟨_, rfl⟩
  rw [← hN] at hmb ⊢
  rw [← hN] at hc
  have HNN := Lib.hid hN; clear hN
  have HCASE := Lib.hid (show ¬ (0 ≤ k ∧ k < N) by omega)
  all_goals
    go_wp2_with fail
    refine (interRank_any l ord ao oo ca co W1 (HX.out.below (Nat.le_refl _) HB1.out) HN.out h20 h6 (HO.out.below (Nat.le_refl _) HB1.out) hol).mono ?_
    rintro e w2 ⟨hp, hb2⟩
    have HB2 := Lib.hid (HB1.out.trans (hb2.mono HB1.out.size)); clear hb2
    rcases hp with ⟨r, hr, rfl⟩ | ⟨hr, rfl⟩
  all_goals
    have HR := Lib.hid hr; clear hr
    have hct := Count_any (cast l) ao ca w2 (HX.out.below (Nat.le_refl _) HB2.out) (by simp; unfold maxLen; omega)
    rw [List.length_map] at hct
    have HC := Lib.hid hct; clear hct
    go_wp2_with fail
    refine HC.out.mono ?_
    rintro e w3 ⟨hp, rfl⟩
    clear HC
    obtain rfl : e = .returned (.tuple #[.int .i64 N, .nilIface]) := by
      rcases hp with ⟨_, h⟩ | ⟨h, _⟩
      · rw [h, toNat_map, HNN.out]
      · exact absurd HOK.out h
    clear hp
    go_wp2_with fail
    refine (error_same .nilIface 0 (.inl ⟨rfl, rfl⟩) w2 (HG.out.below HB2.out)).mono ?_
    rintro e w3 ⟨rfl, hb3⟩
    have HB3 := Lib.hid (HB2.out.trans (hb3.mono HB2.out.size)); clear hb3
    have HNTH := Lib.hid (Nth_ok l k ao ca w3 (HX.out.below (Nat.le_refl _) HB3.out) HN.out HOK.out hk)
    go_wp2_with fail
    refine HNTH.out.mono ?_
    rintro e w4 ⟨hp, hb4⟩
    have HB4 := Lib.hid (HB3.out.trans (hb4.mono HB3.out.size)); clear hb4 HNTH
    rcases hp with ⟨v, o, rfl, hk0, hr4, hown⟩ | ⟨hkn, rfl⟩
  all_goals
    first
    | (exact absurd HCASE.out (by have h1 := rankOf_lt _ _ _ hr4; have h2 := HNN.out; omega))
    | (exact absurd HCASE.out (by rw [HNN.out]; exact hkn))
    | skip
  all_goals
    go_wp2_with fail
    first
    | (with_reducible refine (error_same .nilIface 0 (.inl ⟨rfl, rfl⟩) w4 (HG.out.below HB4.out)).mono ?_)
    | (with_reducible refine (error_same (.iface 24 (.int .i64 1)) 1 (.inr rfl) w4 (HG.out.below HB4.out)).mono ?_)
    rintro e w5 ⟨rfl, hb5⟩
    have HB5 := Lib.hid (HB4.out.trans (hb5.mono HB4.out.size))
    have HK5 := Lib.hid hb5
    clear hb5
    have hrk := Rank_ok l ord ao oo ca co w5 (HX.out.below (Nat.le_refl _) HB5.out) HN.out HOK.out (HO.out.below (Nat.le_refl _) HB5.out) hol
    have HRK := Lib.hid hrk; clear hrk
    go_wp2_with fail
    refine HRK.out.mono ?_
    rintro e w6 ⟨hp6, hb6⟩
    have HB6 := Lib.hid (HB5.out.trans (hb6.mono HB5.out.size))
    have HK6 := Lib.hid (HK5.out.trans (hb6.mono HK5.out.size))
    clear hb6 HRK
    rcases hp6 with ⟨r6, hr6, rfl⟩ | ⟨hr6, rfl⟩
  all_goals
    first
    | (exfalso; rw [HR.out] at hr6; cases hr6; done)
    | (rw [HR.out] at hr6; cases hr6)
  all_goals
    go_wp2_with fail
    first
    | (with_reducible refine (error_same .nilIface 0 (.inl ⟨rfl, rfl⟩) w6 (HG.out.below HB6.out)).mono ?_)
    | (with_reducible refine (error_same (.iface 24 (.int .i64 3)) 3 (.inr rfl) w6 (HG.out.below HB6.out)).mono ?_)
    rintro e w7 ⟨rfl, hb7⟩
    have HB7 := Lib.hid (HB6.out.trans (hb7.mono HB6.out.size))
    have HK7 := Lib.hid (HK6.out.trans (hb7.mono HK6.out.size))
    clear hb7
  all_goals
    go_wp2_with fail
    go_ret
    exact ⟨by simp, HB7.out⟩

set_option maxHeartbeats 2000000 in
set_option maxRecDepth 100000 in
theorem tells_in (l : List Nat) (ord : List Int) (k : Int) (ao oo : Option Addr) (ca co : Nat) (W : World) (hg : Laid W) (hx : IntsAt .i64 W ao (cast l)) (hn : ao = none → l.length = 0) (hok : ok (cast l)) (hk : -9223372036854775808 ≤ k ∧ k ≤ 9223372036854775807)
    (hc : 0 ≤ k ∧ k < mult l) (ho : IntsAt .i64 W oo ord) (hol : ord.length ≤ maxLen) :
    Calls Tryd.prog 3 #[.slice ao l.length ca, .int .i64 k, .slice oo ord.length co] W fun e w' => e = .returned (.bool true) ∧ Below W.heap.size W w' := by
  have h6 : l.length ≤ 6 := by simpa using hok.1
  have h20 : l.sum ≤ 20 := by have := (map_toNat _ hok.2.1).2; have h3 := hok.2.2; rw [toNat_map] at this; omega
  have hmb : mult l ≤ 2432902008176640000 := by have := mult_le l; have h2 := fac_mono h20; rw [fac20] at h2; omega
  have HX := Lib.hid hx; clear hx
  have HO := Lib.hid ho; clear ho
  have HOK := Lib.hid hok; clear hok
  have HN := Lib.hid hn; clear hn
  have HG := Lib.hid hg; clear hg
  obtain ⟨W1, hW1⟩ : ∃ W1, W1 = W.alloc (.cells #[.int .i64 1, .int .i64 2] 3) := ⟨_, rfl⟩
  have hb1 : Below W.heap.size W W1 := by rw [hW1]; exact (Below.refl _ _).alloc (Nat.le_refl _) _
  have HB1 := Lib.hid hb1
  have hct := lensFault_any (cast l) ao ca W1 (HX.out.below (Nat.le_refl _) hb1) (by simp; unfold maxLen; omega)
  rw [List.length_map, fault_ok HOK.out] at hct
  have HC := Lib.hid hct
  clear hb1 hct
  go_enter Tryd.func3, Tryd.ntmps3
  go_wp2_with fail
  refine (turned_any _).mono ?_
  rintro e w1 ⟨rfl, rfl⟩
  go_wp2_with fail
  rw [← hW1]
  clear hW1
  refine HC.out.mono ?_
  rintro e w1 ⟨rfl, rfl⟩
  clear HC
  go_wp2_with fail
  refine (interCount_any l ao ca W1 (HX.out.below (Nat.le_refl _) HB1.out) h20 h6).mono ?_
  rintro e w1 ⟨rfl, rfl⟩
  obtain ⟨N, hN⟩ : ∃ N, N = mult l := ⟨_, rfl⟩
  rw [← hN] at hmb ⊢
  rw [← hN] at hc
  have HNN := Lib.hid hN; clear hN
  have HCASE := Lib.hid hc
  obtain ⟨hc0, hc⟩ := hc
  all_goals
    go_wp2_with fail
    refine (interRank_any l ord ao oo ca co W1 (HX.out.below (Nat.le_refl _) HB1.out) HN.out h20 h6 (HO.out.below (Nat.le_refl _) HB1.out) hol).mono ?_
    rintro e w2 ⟨hp, hb2⟩
    have HB2 := Lib.hid (HB1.out.trans (hb2.mono HB1.out.size)); clear hb2
    rcases hp with ⟨r, hr, rfl⟩ | ⟨hr, rfl⟩
  all_goals
    have HR := Lib.hid hr; clear hr
    have hct := Count_any (cast l) ao ca w2 (HX.out.below (Nat.le_refl _) HB2.out) (by simp; unfold maxLen; omega)
    rw [List.length_map] at hct
    have HC := Lib.hid hct; clear hct
    go_wp2_with fail
    refine HC.out.mono ?_
    rintro e w3 ⟨hp, rfl⟩
    clear HC
    obtain rfl : e = .returned (.tuple #[.int .i64 N, .nilIface]) := by
      rcases hp with ⟨_, h⟩ | ⟨h, _⟩
      · rw [h, toNat_map, HNN.out]
      · exact absurd HOK.out h
    clear hp
    go_wp2_with fail
    refine (error_same .nilIface 0 (.inl ⟨rfl, rfl⟩) w2 (HG.out.below HB2.out)).mono ?_
    rintro e w3 ⟨rfl, hb3⟩
    have HB3 := Lib.hid (HB2.out.trans (hb3.mono HB2.out.size)); clear hb3
    have HNTH := Lib.hid (Nth_ok l k ao ca w3 (HX.out.below (Nat.le_refl _) HB3.out) HN.out HOK.out hk)
    go_wp2_with fail
    refine HNTH.out.mono ?_
    rintro e w4 ⟨hp, hb4⟩
    have HB4 := Lib.hid (HB3.out.trans (hb4.mono HB3.out.size)); clear hb4 HNTH
    rcases hp with ⟨v, o, rfl, hk0, hr4, hown⟩ | ⟨hkn, rfl⟩
  all_goals
    first
    | (exact absurd HCASE.out (by have h1 := rankOf_lt _ _ _ hr4; have h2 := HNN.out; omega))
    | (exact absurd HCASE.out (by rw [HNN.out]; exact hkn))
    | skip
  all_goals
    go_wp2_with fail
    first
    | (with_reducible refine (error_same .nilIface 0 (.inl ⟨rfl, rfl⟩) w4 (HG.out.below HB4.out)).mono ?_)
    | (with_reducible refine (error_same (.iface 24 (.int .i64 1)) 1 (.inr rfl) w4 (HG.out.below HB4.out)).mono ?_)
    rintro e w5 ⟨rfl, hb5⟩
    have HB5 := Lib.hid (HB4.out.trans (hb5.mono HB4.out.size))
    have HK5 := Lib.hid hb5
    clear hb5
    have hrk := Rank_ok l ord ao oo ca co w5 (HX.out.below (Nat.le_refl _) HB5.out) HN.out HOK.out (HO.out.below (Nat.le_refl _) HB5.out) hol
    have HRK := Lib.hid hrk; clear hrk
    go_wp2_with fail
    refine HRK.out.mono ?_
    rintro e w6 ⟨hp6, hb6⟩
    have HB6 := Lib.hid (HB5.out.trans (hb6.mono HB5.out.size))
    have HK6 := Lib.hid (HK5.out.trans (hb6.mono HK5.out.size))
    clear hb6 HRK
    rcases hp6 with ⟨r6, hr6, rfl⟩ | ⟨hr6, rfl⟩
  all_goals
    first
    | (exfalso; rw [HR.out] at hr6; cases hr6; done)
    | (rw [HR.out] at hr6; cases hr6)
  all_goals
    go_wp2_with fail
    first
    | (with_reducible refine (error_same .nilIface 0 (.inl ⟨rfl, rfl⟩) w6 (HG.out.below HB6.out)).mono ?_)
    | (with_reducible refine (error_same (.iface 24 (.int .i64 3)) 3 (.inr rfl) w6 (HG.out.below HB6.out)).mono ?_)
    rintro e w7 ⟨rfl, hb7⟩
    have HB7 := Lib.hid (HB6.out.trans (hb7.mono HB6.out.size))
    have HK7 := Lib.hid (HK6.out.trans (hb7.mono HK6.out.size))
    clear hb7
  all_goals
    obtain ⟨va, vc, rfl⟩ := owns_shape hown
    have hol2 := owns_len hown
    have hir := interRank_any l o ao va ca vc w7 (HX.out.below (Nat.le_refl _) HB7.out) HN.out h20 h6 ((IntsAt.of_owns hown).below (Nat.le_refl _) HK7.out) hol2
    have HIR := Lib.hid hir
    have HR4 := Lib.hid hr4
    clear hir hown hr4
    unfold maxLen at hol2
    go_wp2_with fail
    refine HIR.out.mono ?_
    rintro e w8 ⟨hp8, hb8⟩
    have HB8 := Lib.hid (HB7.out.trans (hb8.mono HB7.out.size))
    clear hb8 HIR
    rcases hp8 with ⟨r8, hr8, rfl⟩ | ⟨hr8, rfl⟩
    case inr => rw [HR4.out] at hr8; cases hr8
    rw [HR4.out] at hr8
    obtain rfl : k.toNat = r8 := by simpa using hr8
    rw [Int.toNat_of_nonneg hc0]
    clear hr8
    go_wp2_with fail
    go_ret
    exact ⟨by simp, HB8.out⟩

end Go.Proofs.YtkdfikjfbbnekaaDoor
