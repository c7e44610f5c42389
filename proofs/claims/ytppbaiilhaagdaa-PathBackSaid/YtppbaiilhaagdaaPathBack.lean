/- PathBack's walk: a number's path has this number; a path is that of its number. No conditions but what the reading tells. -/
import Derived.Test.YtppbaiilhaagdaaPath7
namespace Go.Proofs.Ytppbaiilhaagdaa
open Go.RowKit Go.Mine Go.Mine.Path Go.Mine.Flow Go.Deep

theorem ints_inj {u v : List Nat} (h : ints u = ints v) : u = v := nat_inj h
theorem paths_rk {es : List (Nat × Nat)} {n K : Nat} {w : List Nat} (hes : ∀ e ∈ es, e.1 < n ∧ e.2 < n) (hg : Go.Mine.Path.Good es 0) (hn : 0 < n) (h : (paths es n 0)[K]? = some w) : rk es n w = K :=
  paths_one (rk_get hes (paths_isPath (List.mem_of_getElem? h)) hg hn) h
theorem rk_lt {es : List (Nat × Nat)} {n : Nat} {w : List Nat} (hes : ∀ e ∈ es, e.1 < n ∧ e.2 < n) (hg : Go.Mine.Path.Good es 0) (hn : 0 < n) (h : IsPath es n 0 w) : rk es n w < np es n 0 := by
  have := rk_get hes h hg hn
  unfold np
  rcases Nat.lt_or_ge (rk es n w) (paths es n 0).length with h | h
  · exact h
  · rw [List.getElem?_eq_none h] at this; cases this
set_option maxHeartbeats 2000000 in
set_option maxRecDepth 100000 in
theorem pathBack_any (n : Int) (es : List (Int × Int)) (k : Int) (way : List Int) (lo wo : Option Addr) (lc wcap : Nat) (W : World) (hx : PairsAt W lo es) (hl : es.length ≤ maxLen) (hc : lo ≠ none → es.length ≤ lc) (hw : IntsAt .i64 W wo way) (hwl : way.length ≤ maxLen) (hwc : wo ≠ none → way.length ≤ wcap) :
    Calls Try.prog 5 #[.int .i64 n, .slice lo es.length lc, .int .i64 k, .slice wo way.length wcap] W fun e w' => e = .returned (.bool true) ∧ Below W.heap.size W w' := by
  have HX := Lib.hid (show ∀ w, Below W.heap.size W w → PairsAt w lo es ∧ IntsAt .i64 w wo way from fun w hb => ⟨hx.below (Nat.le_refl _) hb, hw.below (Nat.le_refl _) hb⟩)
  have HL := Lib.hid (And.intro hl (And.intro hc (And.intro hwl hwc)))
  have HF := Lib.hid (pathed_any W)
  clear hx hl hc hw hwl hwc
  go_enter Try.func5, Try.ntmps5
  go_wp2_with fail
  refine HF.out.mono ?_
  clear HF
  rintro e w1 ⟨rfl, hb1⟩
  have HB1 := Lib.hid hb1
  have HC := Lib.hid (pcount_any n es lo lc w1 (HX.out w1 hb1).1 HL.out.1 HL.out.2.1)
  clear hb1
  go_wp2_with fail
  refine HC.out.mono ?_
  clear HC
  rintro e w2 ⟨hb, ⟨hok, rfl⟩ | ⟨hno, c, rfl, _, _⟩⟩
  rotate_left
  · have HB2 := Lib.hid (HB1.out.trans (hb.mono HB1.out.size))
    clear hb hno
    go_wp2_with fail
    go_ret
    exact ⟨rfl, HB2.out⟩
  have HB2 := Lib.hid (HB1.out.trans (hb.mono HB1.out.size))
  have HP := Lib.hid hok
  obtain ⟨N, rfl⟩ := Int.eq_ofNat_of_zero_le (show 0 ≤ n by have := hok.1.1; omega)
  have hN0 : 0 < N := by have := hok.1.1; omega
  have hN12 : N ≤ 12 := by have := hok.1.2.1; omega
  have HES := Lib.hid (show ∀ e ∈ natE es, e.1 < N ∧ e.2 < N from nat_ok hok.1)
  have HGO := Lib.hid (show Go.Mine.Path.Good (natE es) 0 from good_of_acy (nat_ok hok.1) hok.2.2 0)
  rw [show ((N : Int)).toNat = N from rfl]
  obtain ⟨z, hz⟩ : ∃ z, z = np (natE es) N 0 := ⟨_, rfl⟩
  rw [← hz]
  have hzb : z ≤ 1792160394037 := by rw [hz]; exact np_le _ _ _ hN12
  have HZ := Lib.hid hz
  have HN := Lib.hid (nth_any N es k lo lc w2 (HX.out w2 HB2.out).1 HL.out.1 HL.out.2.1)
  clear hb hok hz HB1
  go_wp2_with fail
  refine HN.out.mono ?_
  clear HN
  rintro e w3 ⟨hb, ⟨_, w, ao, cap, hk0, hkw, rfl, hiw, hwcap⟩ | ⟨_, hkn, rfl⟩ | ⟨hno, _⟩⟩
  · rw [show ((N : Int)).toNat = N from rfl] at hkw
    obtain ⟨K, rfl⟩ := Int.eq_ofNat_of_zero_le hk0
    rw [show ((K : Int)).toNat = K from rfl] at hkw
    have HB3 := Lib.hid (HB2.out.trans (hb.mono HB2.out.size))
    have hwp := paths_isPath (List.mem_of_getElem? hkw)
    have HWP := Lib.hid hwp
    have hrk := paths_rk HES.out HGO.out hN0 hkw
    have hKz : K < z := by rw [HZ.out, ← hrk]; exact rk_lt HES.out HGO.out hN0 hwp
    have HRK := Lib.hid hrk
    have hwlen : w.length ≤ 12 := by
      obtain ⟨r, rfl⟩ := hwp.start
      exact Nat.le_trans (hwp.walk.short HES.out HGO.out hN0) hN12
    have HRA := Lib.hid (rank_any N es (ints w) lo ao lc cap w3 (HX.out w3 HB3.out).1 HL.out.1 HL.out.2.1 hiw (by rw [ints_len]; unfold maxLen; omega) (fun _ => by rw [ints_len]; exact hwcap))
    rw [ints_len] at HRA
    clear hb hwp hrk hkw hiw hwlen hwcap HB2
    go_wp2_with fail
    refine HRA.out.mono ?_
    clear HRA
    rintro e w4 ⟨hb, ⟨_, v, hv, _, rfl⟩ | ⟨_, hno, _⟩ | ⟨hno, _⟩⟩
    rotate_left
    · exact absurd HWP.out (hno w rfl)
    · exact absurd HP.out hno
    obtain rfl := ints_inj hv
    rw [show ((N : Int)).toNat = N from rfl, HRK.out]
    have HB4 := Lib.hid (HB3.out.trans (hb.mono HB3.out.size))
    have hkk : ((K : Int) != (K : Int)) = false := by rw [bne_eq_false_iff_eq]
    clear hb hv
    have hq1 : decide ((0 : Int) ≤ (K : Int)) = true := by simp
    have hq2 : decide ((K : Int) < (z : Int)) = true := by simp; omega
    have hq3 : decide (K < z) = true := by simp; omega
    have HRW := Lib.hid (rank_any N es way lo wo lc wcap w4 (HX.out w4 HB4.out).1 HL.out.1 HL.out.2.1 (HX.out w4 HB4.out).2 HL.out.2.2.1 HL.out.2.2.2)
    go_wp2_with fail
    refine HRW.out.mono ?_
    clear HRW
    rintro e w5 ⟨hb, ⟨_, v2, hv2, hp2, rfl⟩ | ⟨_, hno, rfl⟩ | ⟨hno, _⟩⟩
    · rw [show ((N : Int)).toNat = N from rfl] at hp2 ⊢
      have HB5 := Lib.hid (HB4.out.trans (hb.mono HB4.out.size))
      have hrl := rk_lt HES.out HGO.out hN0 hp2
      rw [← HZ.out] at hrl
      have HG2 := Lib.hid (rk_get HES.out hp2 HGO.out hN0)
      obtain ⟨r, hr⟩ : ∃ r, r = rk (natE es) N v2 := ⟨_, rfl⟩
      rw [← hr] at hrl HG2 ⊢
      have HV2 := Lib.hid hv2
      have HN2 := Lib.hid (nth_any N es (r : Int) lo lc w5 (HX.out w5 HB5.out).1 HL.out.1 HL.out.2.1)
      clear hb hv2 hp2 hr
      go_wp2_with fail
      refine HN2.out.mono ?_
      clear HN2
      rintro e w6 ⟨hb, ⟨_, w6p, ao6, cap6, _, hkw6, rfl, hiw6, _⟩ | ⟨_, hkn6, rfl⟩ | ⟨hno, _⟩⟩
      rotate_left
      · exact absurd ⟨by omega, by rw [show ((N : Int)).toNat = N from rfl, ← HZ.out]; omega⟩ hkn6
      · exact absurd HP.out hno
      rw [show ((N : Int)).toNat = N from rfl, show ((r : Int)).toNat = r from rfl, HG2.out] at hkw6
      obtain rfl : v2 = w6p := by simpa using hkw6
      have HB6 := Lib.hid (HB5.out.trans (hb.mono HB5.out.size))
      have HI := Lib.hid (Ints_any (ints v2) way ao6 wo cap6 wcap w6 hiw6 (HX.out w6 HB6.out).2 (by rw [show ints v2 = way from HV2.out.symm]; exact HL.out.2.2.1))
      rw [ints_len, show decide (ints v2 = way) = true from decide_eq_true HV2.out.symm] at HI
      have hr0 : decide ((0 : Int) ≤ (r : Int)) = true := by simp
      have hr1 : decide ((r : Int) < (z : Int)) = true := by simp; omega
      have hr2 : decide (r < z) = true := by simp; omega
      clear hb hkw6 hiw6
      go_wp2_with fail
      refine HI.out.mono ?_
      clear HI
      rintro e w7 ⟨rfl, nq, rfl⟩
      go_wp2_with fail
      go_ret
      exact ⟨rfl, below_drewN HB6.out nq⟩
    · have HB5 := Lib.hid (HB4.out.trans (hb.mono HB4.out.size))
      clear hb hno
      go_wp2_with fail
      go_ret
      exact ⟨by simp, HB5.out⟩
    · exact absurd HP.out hno
  · rw [show ((N : Int)).toNat = N from rfl, ← HZ.out] at hkn
    have HB3 := Lib.hid (HB2.out.trans (hb.mono HB2.out.size))
    have HKN := Lib.hid hkn
    clear hb hkn HB2
    by_cases hk0 : 0 ≤ k
    · have hq1 : decide ((0 : Int) ≤ k) = true := decide_eq_true hk0
      have hq2 : decide (k < (z : Int)) = false := decide_eq_false fun h => HKN.out ⟨hk0, h⟩
      have HRW := Lib.hid (rank_any N es way lo wo lc wcap w3 (HX.out w3 HB3.out).1 HL.out.1 HL.out.2.1 (HX.out w3 HB3.out).2 HL.out.2.2.1 HL.out.2.2.2)
      go_wp2_with fail
      refine HRW.out.mono ?_
      clear HRW
      rintro e w5 ⟨hb, ⟨_, v2, hv2, hp2, rfl⟩ | ⟨_, hno, rfl⟩ | ⟨hno, _⟩⟩
      · rw [show ((N : Int)).toNat = N from rfl] at hp2 ⊢
        have HB5 := Lib.hid (HB3.out.trans (hb.mono HB3.out.size))
        have hrl := rk_lt HES.out HGO.out hN0 hp2
        rw [← HZ.out] at hrl
        have HG2 := Lib.hid (rk_get HES.out hp2 HGO.out hN0)
        obtain ⟨r, hr⟩ : ∃ r, r = rk (natE es) N v2 := ⟨_, rfl⟩
        rw [← hr] at hrl HG2 ⊢
        have HV2 := Lib.hid hv2
        have HN2 := Lib.hid (nth_any N es (r : Int) lo lc w5 (HX.out w5 HB5.out).1 HL.out.1 HL.out.2.1)
        clear hb hv2 hp2 hr
        go_wp2_with fail
        refine HN2.out.mono ?_
        clear HN2
        rintro e w6 ⟨hb, ⟨_, w6p, ao6, cap6, _, hkw6, rfl, hiw6, _⟩ | ⟨_, hkn6, rfl⟩ | ⟨hno, _⟩⟩
        rotate_left
        · exact absurd ⟨by omega, by rw [show ((N : Int)).toNat = N from rfl, ← HZ.out]; omega⟩ hkn6
        · exact absurd HP.out hno
        rw [show ((N : Int)).toNat = N from rfl, show ((r : Int)).toNat = r from rfl, HG2.out] at hkw6
        obtain rfl : v2 = w6p := by simpa using hkw6
        have HB6 := Lib.hid (HB5.out.trans (hb.mono HB5.out.size))
        have HI := Lib.hid (Ints_any (ints v2) way ao6 wo cap6 wcap w6 hiw6 (HX.out w6 HB6.out).2 (by rw [show ints v2 = way from HV2.out.symm]; exact HL.out.2.2.1))
        rw [ints_len, show decide (ints v2 = way) = true from decide_eq_true HV2.out.symm] at HI
        have hr0 : decide ((0 : Int) ≤ (r : Int)) = true := by simp
        have hr1 : decide ((r : Int) < (z : Int)) = true := by simp; omega
        have hr2 : decide (r < z) = true := by simp; omega
        clear hb hkw6 hiw6
        go_wp2_with fail
        refine HI.out.mono ?_
        clear HI
        rintro e w7 ⟨rfl, nq, rfl⟩
        go_wp2_with fail
        go_ret
        exact ⟨rfl, below_drewN HB6.out nq⟩
      · have HB5 := Lib.hid (HB3.out.trans (hb.mono HB3.out.size))
        clear hb hno
        go_wp2_with fail
        go_ret
        exact ⟨by simp, HB5.out⟩
      · exact absurd HP.out hno
    · have hq1 : decide ((0 : Int) ≤ k) = false := decide_eq_false hk0
      have HRW := Lib.hid (rank_any N es way lo wo lc wcap w3 (HX.out w3 HB3.out).1 HL.out.1 HL.out.2.1 (HX.out w3 HB3.out).2 HL.out.2.2.1 HL.out.2.2.2)
      go_wp2_with fail
      refine HRW.out.mono ?_
      clear HRW
      rintro e w5 ⟨hb, ⟨_, v2, hv2, hp2, rfl⟩ | ⟨_, hno, rfl⟩ | ⟨hno, _⟩⟩
      · rw [show ((N : Int)).toNat = N from rfl] at hp2 ⊢
        have HB5 := Lib.hid (HB3.out.trans (hb.mono HB3.out.size))
        have hrl := rk_lt HES.out HGO.out hN0 hp2
        rw [← HZ.out] at hrl
        have HG2 := Lib.hid (rk_get HES.out hp2 HGO.out hN0)
        obtain ⟨r, hr⟩ : ∃ r, r = rk (natE es) N v2 := ⟨_, rfl⟩
        rw [← hr] at hrl HG2 ⊢
        have HV2 := Lib.hid hv2
        have HN2 := Lib.hid (nth_any N es (r : Int) lo lc w5 (HX.out w5 HB5.out).1 HL.out.1 HL.out.2.1)
        clear hb hv2 hp2 hr
        go_wp2_with fail
        refine HN2.out.mono ?_
        clear HN2
        rintro e w6 ⟨hb, ⟨_, w6p, ao6, cap6, _, hkw6, rfl, hiw6, _⟩ | ⟨_, hkn6, rfl⟩ | ⟨hno, _⟩⟩
        rotate_left
        · exact absurd ⟨by omega, by rw [show ((N : Int)).toNat = N from rfl, ← HZ.out]; omega⟩ hkn6
        · exact absurd HP.out hno
        rw [show ((N : Int)).toNat = N from rfl, show ((r : Int)).toNat = r from rfl, HG2.out] at hkw6
        obtain rfl : v2 = w6p := by simpa using hkw6
        have HB6 := Lib.hid (HB5.out.trans (hb.mono HB5.out.size))
        have HI := Lib.hid (Ints_any (ints v2) way ao6 wo cap6 wcap w6 hiw6 (HX.out w6 HB6.out).2 (by rw [show ints v2 = way from HV2.out.symm]; exact HL.out.2.2.1))
        rw [ints_len, show decide (ints v2 = way) = true from decide_eq_true HV2.out.symm] at HI
        have hr0 : decide ((0 : Int) ≤ (r : Int)) = true := by simp
        have hr1 : decide ((r : Int) < (z : Int)) = true := by simp; omega
        have hr2 : decide (r < z) = true := by simp; omega
        clear hb hkw6 hiw6
        go_wp2_with fail
        refine HI.out.mono ?_
        clear HI
        rintro e w7 ⟨rfl, nq, rfl⟩
        go_wp2_with fail
        go_ret
        exact ⟨rfl, below_drewN HB6.out nq⟩
      · have HB5 := Lib.hid (HB3.out.trans (hb.mono HB3.out.size))
        clear hb hno
        go_wp2_with fail
        go_ret
        exact ⟨by simp, HB5.out⟩
      · exact absurd HP.out hno
  · exact absurd HP.out hno
end Go.Proofs.Ytppbaiilhaagdaa
