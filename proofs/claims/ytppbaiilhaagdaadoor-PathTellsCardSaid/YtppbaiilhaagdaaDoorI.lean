/- PathTells' walk where the edges are right. CONDITION: errors.errorType holds what start-up lays there. -/
import Derived.Test.YtppbaiilhaagdaaDoorH
namespace Go.Proofs.YtppbaiilhaagdaaDoor
open Go.RowKit Go.Mine Go.Mine.Path Go.Mine.Flow Go.Deep

set_option maxHeartbeats 4000000 in
set_option maxRecDepth 100000 in
theorem pathTells_good (N : Nat) (es : List (Int × Int)) (k : Int) (way : List Int) (lo wo : Option Addr) (lc wcap : Nat) (W : World) (hg : Laid W) (hx : PairsAt W lo es) (hl : es.length ≤ maxLen) (hc : lo ≠ none → es.length ≤ lc) (hw : IntsAt .i64 W wo way) (hwl : way.length ≤ maxLen) (hwc : wo ≠ none → way.length ≤ wcap) (hok : pathOk N es) :
    Calls Tryd.prog 3 #[.int .i64 N, .slice lo es.length lc, .int .i64 k, .slice wo way.length wcap] W fun e w' => e = .returned (.bool true) ∧ Below W.heap.size W w' := by
  have HX := Lib.hid (show ∀ w, Below W.heap.size W w → Laid w ∧ PairsAt w lo es ∧ IntsAt .i64 w wo way from fun w hb => ⟨hg.below hb, hx.below (Nat.le_refl _) hb, hw.below (Nat.le_refl _) hb⟩)
  have HL := Lib.hid (And.intro hl (And.intro hc (And.intro hwl hwc)))
  have HOK := Lib.hid hok
  have hN0 : 0 < N := by have := hok.1.1; omega
  have hN12 : N ≤ 12 := by have := hok.1.2.1; omega
  have HES := Lib.hid (show ∀ e ∈ natE es, e.1 < N ∧ e.2 < N from nat_ok hok.1)
  have HGO := Lib.hid (show Go.Mine.Path.Good (natE es) 0 from good_of_acy (nat_ok hok.1) hok.2.2 0)
  have HF := Lib.hid (pathed_any W)
  clear hg hx hl hc hw hwl hwc hok
  go_enter Tryd.func3, Tryd.ntmps3
  go_wp2_with fail
  refine HF.out.mono ?_
  clear HF
  rintro e w1 ⟨rfl, hb1⟩
  have HB1 := Lib.hid hb1
  have HPF := Lib.hid (pathFault_any N es lo lc w1 (HX.out w1 hb1).2.1 HL.out.1 HL.out.2.1)
  clear hb1
  go_wp2_with fail
  refine HPF.out.mono ?_
  clear HPF
  rintro e w2 ⟨⟨c, rfl, hpe⟩, hb2⟩
  obtain rfl : c = 0 := hpe.zero HOK.out
  have HB2 := Lib.hid (HB1.out.trans (hb2.mono HB1.out.size))
  have HCK := Lib.hid (pathCheck_any N es 0 lo lc w2 (HX.out w2 HB2.out).2.1 HL.out.1 HL.out.2.1 hpe)
  clear hpe hb2 HB1
  go_wp2_with fail
  refine HCK.out.mono ?_
  clear HCK
  rintro e w3 ⟨⟨x, rfl, hxn⟩, hb3⟩
  have HB3 := Lib.hid (HB2.out.trans (hb3.mono HB2.out.size))
  have HER := Lib.hid (error_is x 0 0 hxn w3 (HX.out w3 HB3.out).1)
  clear hxn hb3 HB2
  go_wp2_with fail
  refine HER.out.mono ?_
  clear HER
  rintro e w4 ⟨rfl, hb4⟩
  rw [eqself]
  have HB4 := Lib.hid (HB3.out.trans (hb4.mono HB3.out.size))
  have HP := Lib.hid (pathsFrom_any N es lo lc HOK.out.1 0 HGO.out hN0 w4 (HX.out w4 HB4.out).2.1)
  clear hb4 HB3
  go_wp2_with fail
  refine HP.out.mono ?_
  clear HP
  rintro e w5 ⟨mv, rfl, hrn, hb⟩
  obtain ⟨mo, mc, rfl⟩ := hrn.shape
  have hml : ((paths (natE es) N 0).map ints).length = (paths (natE es) N 0).length := by simp
  rw [hml] at hrn ⊢
  have HRN := Lib.hid hrn
  have HB5 := Lib.hid (HB4.out.trans (hb.mono HB4.out.size))
  obtain ⟨A, hA⟩ : ∃ A, A = paths (natE es) N 0 := ⟨_, rfl⟩
  have hzb : A.length ≤ 1792160394037 := by rw [hA]; exact np_le _ _ _ hN12
  rw [← hA] at HRN ⊢
  have HA := Lib.hid hA
  clear hrn hb hml hA HB4
  -- the path that is wanted
  go_upto_region 9 with fail
  go_cut [51] from 40 to 51 (fun bv wx => ∃ b : Bool, bv = .bool b ∧ RowKit.Hid (b = true ↔ ¬ (0 ≤ k ∧ k < (A.length : Int))) ∧ wx = w5)
  case first =>
    by_cases h1 : k < 0
    · have hd : decide (k < 0) = true := decide_eq_true h1
      have HH := Lib.hid (show ¬ (0 ≤ k ∧ k < (A.length : Int)) from fun h => by omega)
      clear h1
      go_wp2_with fail
      go_meet
      exact ⟨true, rfl, Lib.hid ⟨fun _ => HH.out, fun _ => rfl⟩, rfl⟩
    · have hd : decide (k < 0) = false := decide_eq_false h1
      by_cases h2 : (A.length : Int) ≤ k
      · have hd2 : decide ((A.length : Int) ≤ k) = true := decide_eq_true h2
        have HH := Lib.hid (show ¬ (0 ≤ k ∧ k < (A.length : Int)) from fun h => by omega)
        clear h1 h2
        go_wp2_with fail
        go_meet
        exact ⟨true, rfl, Lib.hid ⟨fun _ => HH.out, fun _ => rfl⟩, rfl⟩
      · have hd2 : decide ((A.length : Int) ≤ k) = false := decide_eq_false h2
        have HH := Lib.hid (show 0 ≤ k ∧ k < (A.length : Int) from ⟨by omega, by omega⟩)
        clear h1 h2
        go_wp2_with fail
        go_meet
        exact ⟨false, rfl, Lib.hid ⟨fun h => (by cases h), fun h => (h HH.out).elim⟩, rfl⟩
  case rest =>
    obtain ⟨b, rfl, hbi, rfl⟩ := hcut
    obtain ⟨w5, hw5⟩ : ∃ w5, w5 = wc := ⟨_, rfl⟩
    subst hw5
    go_upto_if 51 with fail
    go_cut [13, 14] from 52 to 57 (fun fv tv wx => ∃ (f : Int) (ao : Option Addr) (cap : Nat) (want : List Int), fv = .int .i64 f ∧ tv = .slice ao want.length cap ∧ want.length ≤ 12 ∧ RowKit.Hid (FR A k f want) ∧ RowKit.Hid (IntsAt .i64 w5 ao want) ∧ wx = w5)
    case first =>
      cases b with
      | true =>
        have HH := Lib.hid (show FR A k 1 [] from .inr ⟨hbi.out.1 rfl, rfl, rfl⟩)
        clear hbi
        go_wp2_with fail
        go_meet
        exact ⟨1, none, 0, [], rfl, rfl, by simp, HH, Lib.hid (IntsAt.nil _ _ _), rfl⟩
      | false =>
        have hin : 0 ≤ k ∧ k < (A.length : Int) := Decidable.byContradiction fun h => by have := hbi.out.2 h; cases this
        obtain ⟨K, rfl⟩ := Int.eq_ofNat_of_zero_le hin.1
        have hKA : K < A.length := by omega
        obtain ⟨g, ro, rc, hmo, hce, hrow, _⟩ := HRN.out.cell (i := K) (by simpa using hKA)
        subst hmo
        have hpk : A[K]? = some (A.getD K []) := by simp [List.getD_eq_getElem?_getD, hKA]
        obtain ⟨p, hp⟩ : ∃ p, p = A.getD K [] := ⟨_, rfl⟩
        have hrq : (A.map ints).getD K [] = ints p := by rw [hp]; simp [List.getD_eq_getElem?_getD, hKA]
        rw [hrq] at hce hrow
        rw [← hp] at hpk
        have hpl : (ints p).length ≤ 12 := by
          rw [ints_len]
          have h := paths_isPath (by rw [← HA.out]; exact List.mem_of_getElem? hpk)
          obtain ⟨r, hr⟩ := h.start
          have hw := h.walk
          rw [hr] at hw ⊢
          exact Nat.le_trans (hw.short HES.out HGO.out hN0) hN12
        have HH := Lib.hid (show FR A (K : Int) 0 (ints p) from .inl ⟨by omega, by omega, rfl, p, hpk, rfl⟩)
        obtain ⟨want, hwant⟩ : ∃ want, want = ints p := ⟨_, rfl⟩
        rw [← hwant] at HH hce hrow hpl
        have HRW := Lib.hid hrow
        have hK0 : (0 : Int) ≤ (K : Int) := by omega
        have hKl : (K : Int) < (A.length : Int) := by omega
        clear hbi hin hp hrq hpk hrow hwant
        go_wp2_with fail
        go_meet
        exact ⟨0, ro, rc, want, rfl, rfl, hpl, HH, HRW, rfl⟩
    case rest =>
      obtain ⟨f, ao, cap, want, rfl, rfl, hwl12, hfr, hwa, rfl⟩ := hcut
      have HFR := Lib.hid hfr.out
      have HWA := Lib.hid hwa.out
      obtain ⟨w5, hw5⟩ : ∃ w5, w5 = wc := ⟨_, rfl⟩
      subst hw5
      clear hfr hwa hbi
      -- where the way stands
      go_upto_block 0 with fail
      go_cut [16] from 61 to 75 (fun av wx => ∃ a : Nat, av = .int .i64 (a : Int) ∧ a ≤ A.length ∧ RowKit.Hid (∀ j p, j < a → A[j]? = some p → way ≠ ints p) ∧ RowKit.Hid (∀ p, A[a]? = some p → way = ints p) ∧ RowKit.Hid (∃ nq, wx = w5.drewN nq))
      case first =>
        go_wp2_with fail
        go_loopw [16] (fun av wr => ∃ a nq : Nat, av = .int .i64 (a : Int) ∧ a ≤ A.length ∧ RowKit.Hid (∀ j p, j < a → A[j]? = some p → way ≠ ints p) ∧ RowKit.Hid (wr = w5.drewN nq)) (fun av _ => A.length - (intOf av).toNat)
        case atStart => exact ⟨0, 0, rfl, by omega, Lib.hid (fun _ _ h => by omega), Lib.hid (drewN_zero _).symm⟩
        case round =>
          obtain ⟨a, nq, rfl, ha, hall, hwr⟩ := hrel
          have HALL := Lib.hid hall.out
          have HWR := Lib.hid hwr.out
          clear hall hwr
          by_cases haA : a < A.length
          · obtain ⟨g, ro, rc, hmo, hce, hrow, _⟩ := HRN.out.cell (i := a) (by simpa using haA)
            subst hmo
            have hpk : A[a]? = some (A.getD a []) := by simp [List.getD_eq_getElem?_getD, haA]
            obtain ⟨p, hp⟩ : ∃ p, p = A.getD a [] := ⟨_, rfl⟩
            have hrq : (A.map ints).getD a [] = ints p := by rw [hp]; simp [List.getD_eq_getElem?_getD, haA]
            rw [hrq] at hce hrow
            rw [← hp] at hpk
            have HPK := Lib.hid hpk
            have hpl : (ints p).length ≤ 12 := by
              rw [ints_len]
              have h := paths_isPath (by rw [← HA.out]; exact List.mem_of_getElem? hpk)
              obtain ⟨r, hr⟩ := h.start
              have hw := h.walk
              rw [hr] at hw ⊢
              exact Nat.le_trans (hw.short HES.out HGO.out hN0) hN12
            have hbw : Below W.heap.size W wr := by rw [HWR.out]; exact below_drewN HB5.out nq
            have hce2 : wr.cell? ⟨g, a, none⟩ = some (.slice ro (ints p).length rc) := by rw [HWR.out]; exact hce
            have hrow2 : IntsAt .i64 wr ro (ints p) := by rw [HWR.out]; exact hrow.drewN nq
            have HI := Lib.hid (Ints_any (ints p) way ro wo rc wcap wr hrow2 (HX.out wr hbw).2.2 (by unfold maxLen; omega))
            obtain ⟨d, hd⟩ : ∃ d, d = decide (ints p = way) := ⟨_, rfl⟩
            rw [← hd] at HI
            have HD := Lib.hid hd
            obtain ⟨pl, hple⟩ : ∃ pl, pl = (ints p).length := ⟨_, rfl⟩
            rw [← hple] at hce2 HI
            have haI : (a : Int) < (A.length : Int) := by omega
            have ha0 : (0 : Int) ≤ (a : Int) := by omega
            clear hp hrq hpk hce hrow hrow2 hpl hd hple hbw
            go_wp2_with fail
            refine HI.out.mono ?_
            clear HI
            rintro e w6 ⟨rfl, nq2, rfl⟩
            cases d with
            | true =>
              have HE := Lib.hid (show ∀ p', A[a]? = some p' → way = ints p' from fun p' hp' => by
                rw [HPK.out] at hp'
                cases hp'
                exact (of_decide_eq_true HD.out.symm).symm)
              have HDR := Lib.hid (show ∃ q, wr.drewN nq2 = w5.drewN q from ⟨nq + nq2, by rw [HWR.out]; exact drewN_drewN _ _ _⟩)
              go_wp2_with fail
              go_meet
              exact ⟨a, rfl, by omega, HALL, HE, HDR⟩
            | false =>
              have HE := Lib.hid (show ∀ j p', j < a + 1 → A[j]? = some p' → way ≠ ints p' from fun j p' hj hp' => by
                by_cases e : j = a
                · subst e
                  rw [HPK.out] at hp'
                  cases hp'
                  exact fun h => of_decide_eq_false HD.out.symm h.symm
                · exact HALL.out j p' (by omega) hp')
              have HDR := Lib.hid (show wr.drewN nq2 = w5.drewN (nq + nq2) by rw [HWR.out]; exact drewN_drewN _ _ _)
              go_wp2_with fail
              go_roundw
              case rel => exact ⟨a + 1, nq + nq2, by go_num, by omega, HE, HDR⟩
              case measure => simp [intOf]; omega
          · obtain rfl : a = A.length := by omega
            have HE := Lib.hid (show ∀ p, A[A.length]? = some p → way = ints p from fun p hp => by simp at hp)
            go_wp2_with fail
            go_meet
            exact ⟨A.length, rfl, Nat.le_refl _, HALL, HE, Lib.hid ⟨nq, HWR.out⟩⟩
      case rest =>
        obtain ⟨a, rfl, ha, hall, hat, hwx⟩ := hcut
        have HALL := Lib.hid hall.out
        have HAT := Lib.hid hat.out
        obtain ⟨w6, hw6⟩ : ∃ w6, w6 = wc := ⟨_, rfl⟩
        subst hw6
        have HB6 := Lib.hid (show Below W.heap.size W w6 by obtain ⟨nq, h⟩ := hwx.out; rw [h]; exact below_drewN HB5.out nq)
        have HW6 := Lib.hid (show ∀ w, Below w6.heap.size w6 w → IntsAt .i64 w ao want from fun w hb => by
          obtain ⟨nq, h⟩ := hwx.out
          exact (show IntsAt .i64 w6 ao want by rw [h]; exact HWA.out.drewN nq).below (Nat.le_refl _) hb)
        clear hall hat hwx HWA
        go_upto_if 79 with fail
        go_cut [15, 16] from 80 to 80 (fun gv av wx => ∃ g a' : Int, gv = .int .i64 g ∧ av = .int .i64 a' ∧ RowKit.Hid (GR A way g a') ∧ wx = w6)
        case first =>
          by_cases haA : a = A.length
          · have hb : ((a : Int) == (A.length : Int)) = true := by rw [beq_iff_eq]; omega
            have HH := Lib.hid (show GR A way 3 0 from .inr ⟨fun p hp => by
              obtain ⟨j, hj, rfl⟩ := List.mem_iff_getElem.1 hp
              exact HALL.out j _ (by omega) (List.getElem?_eq_getElem hj), rfl, rfl⟩)
            clear haA
            go_wp2_with fail
            go_meet
            exact ⟨3, 0, rfl, rfl, HH, rfl⟩
          · have hb : ((a : Int) == (A.length : Int)) = false := by rw [beq_eq_false_iff_ne]; omega
            have hlt : a < A.length := by omega
            have HH := Lib.hid (show GR A way 0 (a : Int) from .inl ⟨a, A[a], List.getElem?_eq_getElem hlt, HAT.out _ (List.getElem?_eq_getElem hlt), rfl, rfl⟩)
            clear haA hlt
            go_wp2_with fail
            go_meet
            exact ⟨0, a, rfl, rfl, HH, rfl⟩
        case rest =>
          obtain ⟨g, a', rfl, rfl, hgr, rfl⟩ := hcut
          have HGR := Lib.hid hgr.out
          obtain ⟨w6, hw6⟩ : ∃ w6, w6 = wc := ⟨_, rfl⟩
          subst hw6
          have HC := Lib.hid (pcount_any N es lo lc w6 (HX.out w6 HB6.out).2.1 HL.out.1 HL.out.2.1)
          clear hgr ha
          go_wp2_with fail
          refine HC.out.mono ?_
          clear HC
          rintro e v1 ⟨hb, ⟨_, rfl⟩ | ⟨hno, _⟩⟩
          rotate_left
          · exact absurd HOK.out hno
          rw [show np (natE es) ((N : Int)).toNat 0 = A.length by rw [HA.out]; rfl]
          have HV1 := Lib.hid hb
          have HB7 := Lib.hid (HB6.out.trans (hb.mono HB6.out.size))
          have HER := Lib.hid (error_is _ 0 0 Num.nil v1 (HX.out v1 HB7.out).1)
          clear hb HB6
          go_wp2_with fail
          refine HER.out.mono ?_
          clear HER
          rintro e v2 ⟨rfl, hb⟩
          rw [eqself]
          have HV2 := Lib.hid (HV1.out.trans (hb.mono HV1.out.size))
          have HB8 := Lib.hid (HB7.out.trans (hb.mono HB7.out.size))
          have HN := Lib.hid (nth_any N es k lo lc v2 (HX.out v2 HB8.out).2.1 HL.out.1 HL.out.2.1)
          clear hb HB7 HV1
          go_wp2_with fail
          refine HN.out.mono ?_
          clear HN
          rintro e v3 ⟨hb, hp⟩
          have HV3 := Lib.hid (HV2.out.trans (hb.mono HV2.out.size))
          have HB9 := Lib.hid (HB8.out.trans (hb.mono HB8.out.size))
          obtain ⟨a2, c2, x2, rfl, hn2, hz⟩ : ∃ a2 c2 x2, e = .returned (.tuple #[.slice a2 want.length c2, x2]) ∧ Num x2 f ∧ IntsAt .i64 v3 a2 want := by
            rcases hp with ⟨_, w, a2, c2, hk0, hkw, rfl, hiw, _⟩ | ⟨_, hkn, rfl⟩ | ⟨hno, _⟩
            · rcases HFR.out with ⟨_, _, rfl, p, hp, rfl⟩ | ⟨hno, _⟩
              · rw [show ((N : Int)).toNat = N from rfl, ← HA.out, hp] at hkw
                cases hkw
                exact ⟨a2, c2, _, by rw [ints_len], Num.nil, hiw⟩
              · refine absurd ⟨hk0, ?_⟩ hno
                rw [show ((N : Int)).toNat = N from rfl, ← HA.out] at hkw
                have := (List.getElem?_eq_some_iff.1 hkw).1
                omega
            · rcases HFR.out with ⟨h1, h2, _⟩ | ⟨_, rfl, rfl⟩
              · refine absurd ⟨h1, ?_⟩ hkn
                rw [show np (natE es) ((N : Int)).toNat 0 = A.length by rw [HA.out]; rfl]
                exact h2
              · exact ⟨none, 0, _, rfl, Num.err _, IntsAt.nil _ _ _⟩
            · exact absurd HOK.out hno
          have HZ := Lib.hid (show ∀ w, Below v3.heap.size v3 w → IntsAt .i64 w a2 want from fun w h => hz.below (Nat.le_refl _) h)
          have HER := Lib.hid (error_is x2 f f hn2 v3 (HX.out v3 HB9.out).1)
          clear hp hb hn2 hz HB8 HV2
          go_wp2_with fail
          refine HER.out.mono ?_
          clear HER
          rintro e v4 ⟨rfl, hb⟩
          rw [eqself]
          have HV4 := Lib.hid (HV3.out.trans (hb.mono HV3.out.size))
          have HB10 := Lib.hid (HB9.out.trans (hb.mono HB9.out.size))
          have HI := Lib.hid (Ints_any want want a2 ao c2 cap v4 (HZ.out v4 hb) (HW6.out v4 HV4.out) (by unfold maxLen; omega))
          clear hb HB9 HV3 HZ
          go_wp2_with fail
          refine HI.out.mono ?_
          clear HI
          rintro e v5 ⟨rfl, nq, rfl⟩
          rw [decide_true]
          have HB11 := Lib.hid (below_drewN HB10.out nq)
          obtain ⟨v5, hv5⟩ : ∃ v5, v5 = v4.drewN nq := ⟨_, rfl⟩
          rw [← hv5] at HB11 ⊢
          have HR := Lib.hid (rank_any N es way lo wo lc wcap v5 (HX.out v5 HB11.out).2.1 HL.out.1 HL.out.2.1 (HX.out v5 HB11.out).2.2 HL.out.2.2.1 HL.out.2.2.2)
          clear hv5 HB10
          go_wp2_with fail
          refine HR.out.mono ?_
          clear HR
          rintro e v6 ⟨hb, hp⟩
          have HB12 := Lib.hid (HB11.out.trans (hb.mono HB11.out.size))
          obtain ⟨x3, rfl, hn3⟩ : ∃ x3, e = .returned (.tuple #[.int .i64 a', x3]) ∧ Num x3 g := by
            rcases hp with ⟨_, w, hw, hpw, rfl⟩ | ⟨_, hno, rfl⟩ | ⟨hno, _⟩
            · rw [show ((N : Int)).toNat = N from rfl] at hpw ⊢
              have hge := rk_get HES.out hpw HGO.out hN0
              rw [← HA.out] at hge
              rcases HGR.out with ⟨j, p, hp, hwp, rfl, rfl⟩ | ⟨hall, _⟩
              · have hwp2 : w = p := nat_inj (by rw [show w.map (fun k : Nat => (k : Int)) = ints w from rfl, ← hw, hwp]; rfl)
                subst hwp2
                rw [HA.out] at hp
                rw [paths_rk HES.out HGO.out hN0 hp]
                exact ⟨_, rfl, Num.nil⟩
              · exact absurd hw (hall w (List.mem_of_getElem? hge))
            · rcases HGR.out with ⟨j, p, hp, hwp, _⟩ | ⟨_, rfl, rfl⟩
              · rw [HA.out] at hp
                exact absurd (paths_isPath (List.mem_of_getElem? hp)) (hno p hwp)
              · exact ⟨_, rfl, Num.err _⟩
            · exact absurd HOK.out hno
          have HER := Lib.hid (error_is x3 g g hn3 v6 (HX.out v6 HB12.out).1)
          clear hp hb hn3 HB11
          go_wp2_with fail
          refine HER.out.mono ?_
          clear HER
          rintro e v7 ⟨rfl, hb⟩
          rw [eqself]
          have HB13 := Lib.hid (HB12.out.trans (hb.mono HB12.out.size))
          clear hb
          go_wp2_with fail
          go_ret
          exact ⟨by first | rfl | simp, HB13.out⟩
end Go.Proofs.YtppbaiilhaagdaaDoor
