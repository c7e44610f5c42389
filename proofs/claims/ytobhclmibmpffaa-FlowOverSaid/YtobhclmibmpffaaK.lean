/- FlowOver's walk. No condition. -/
import Derived.Test.YtobhclmibmpffaaG
import Derived.Test.YtobhclmibmpffaaJ
import Derived.Test.YtobhclmibmpffaaLeft
namespace Go.Proofs.Ytobhclmibmpffaa
open Go.RowKit Go.Mine Go.Mine.Flow

theorem passed_at {es : List (Nat × Nat)} {i n : Nat} {a : Nat} (ha : a < (passed es i n).length) : ∃ v : Nat, (passed es i n).getD a 0 = v ∧ v < n ∧ ¬ R es v i := by
  have hm : (passed es i n).getD a 0 ∈ passed es i n := by simp [ha]
  exact (passed_mem es i _ n).1 hm
set_option maxHeartbeats 2000000 in
set_option maxRecDepth 100000 in
theorem flowOver_walk (n : Int) (es : List (Int × Int)) (i : Int) (way : List Int) (lo wo : Option Addr) (lc wc : Nat) (W : World) (hx : PairsAt W lo es) (hn : lo = none → es.length = 0) (hl : es.length ≤ maxLen) (hw : IntsAt .i64 W wo way) (hwl : way.length ≤ maxLen) :
    Calls Try.prog 4 #[.int .i64 n, .slice lo es.length lc, .int .i64 i, .slice wo way.length wc] W fun e w' => e = .returned (.bool true) ∧ Below W.heap.size W w' := by
  have HX := Lib.hid (show ∀ w, Below W.heap.size W w → PairsAt w lo es ∧ IntsAt .i64 w wo way from fun w hb => ⟨hx.below (Nat.le_refl _) hb, hw.below (Nat.le_refl _) hb⟩)
  have HL := Lib.hid hl
  have HN := Lib.hid hn
  have HWL := Lib.hid hwl
  unfold maxLen at hl hwl
  clear hx hn hw
  go_enter Try.func4, Try.ntmps4
  go_wp2_with fail
  refine (flowed_true W).mono ?_
  rintro e w1 ⟨rfl, hb1⟩
  have HO := Lib.hid (over_any n es i lo lc w1 (HX.out w1 hb1).1 HL.out)
  have HB1 := Lib.hid hb1
  clear hb1
  go_wp2_with fail
  refine HO.out.mono ?_
  clear HO
  rintro e w2 ⟨hp, hb2⟩
  have HB2 := Lib.hid (HB1.out.trans (hb2.mono HB1.out.size))
  clear hb2 HB1
  rcases hp with ⟨hok, hp⟩ | ⟨hno, c, rfl⟩
  rotate_left
  · clear hno
    go_wp2_with fail
    go_ret
    exact ⟨rfl, HB2.out⟩
  rcases hp with ⟨_, c, rfl⟩ | ⟨⟨hi0, hin, hr⟩, ao, cap, zs, rfl, hz, hz12, hzs⟩
  · clear hok
    go_wp2_with fail
    go_ret
    exact ⟨rfl, HB2.out⟩
  obtain ⟨I, hI⟩ : ∃ I, I = i.toNat := ⟨_, rfl⟩
  obtain ⟨N, hN⟩ : ∃ N, N = n.toNat := ⟨_, rfl⟩
  rw [← hI, ← hN] at hzs
  rw [← hI] at hr
  have hnN : n = (N : Int) := by have := hok.1; omega
  have hiI : i = (I : Int) := by omega
  subst hnN
  subst hiI
  have HOK := Lib.hid hok
  have HR := Lib.hid hr
  have HZS := Lib.hid hzs
  have HZ := Lib.hid (show ∀ w, Below w2.heap.size w2 w → IntsAt .i64 w ao zs from fun w hb => hz.below (Nat.le_refl _) hb)
  have HAT := Lib.hid (show ∀ a, a < zs.length → ∃ v : Nat, zs.getD a 0 = v ∧ v < N ∧ ¬ R (nat es) v I from fun a ha => by
    rw [hzs] at ha ⊢
    exact passed_at ha)
  clear hok hr hzs hz hI hN
  go_wp2_with fail
  go_loopw [12] (fun av wr => ∃ a : Nat, av = .int .i64 a ∧ a ≤ zs.length ∧ RowKit.Hid (Below w2.heap.size w2 wr)) (fun av _ => zs.length - (intOf av).toNat)
  case atStart => exact ⟨0, rfl, by omega, Lib.hid (Below.refl _ _)⟩
  case round =>
    obtain ⟨a, rfl, ha, hq⟩ := hrel
    have hbW := HB2.out.trans (hq.out.mono HB2.out.size)
    by_cases hal : a < zs.length
    · obtain ⟨b1, o1, hae, hc1⟩ := HZ.out wr hq.out a hal
      subst hae
      obtain ⟨v, hv, hvN, hvR⟩ := HAT.out a hal
      rw [hv] at hc1
      have HV := Lib.hid hv
      have HVR := Lib.hid hvR
      have hmet := dom_met hvR HR.out
      have HO := Lib.hid (over_any (N : Int) es (v : Int) lo lc wr (HX.out wr hbW).1 HL.out)
      have HMET := Lib.hid hmet
      have HQ := Lib.hid hq.out
      have HBW := Lib.hid hbW
      clear hv hvR hmet hq hbW
      go_wp2_with fail
      refine HO.out.mono ?_
      clear HO
      rintro e w3 ⟨hp, hb3⟩
      rcases hp with ⟨_, hp⟩ | ⟨hno, _⟩
      rotate_left
      · exact absurd HOK.out hno
      rcases hp with ⟨hno, _⟩ | ⟨_, po, pc, ps, rfl, hpi, hp12, hps⟩
      · exact absurd ⟨by omega, by omega, by rw [Int.toNat_natCast]; exact HMET.out⟩ hno
      rw [Int.toNat_natCast, Int.toNat_natCast] at hps
      have HQ3 := Lib.hid (HQ.out.trans (hb3.mono HQ.out.size))
      have HPI := Lib.hid (show ∀ w, Below w3.heap.size w3 w → IntsAt .i64 w po ps from fun w hb => hpi.below (Nat.le_refl _) hb)
      have HPS := Lib.hid hps
      have HPAT := Lib.hid (show ∀ b, b < ps.length → ∃ u : Nat, ps.getD b 0 = u ∧ u < N ∧ ¬ R (nat es) u v from fun b hb => by
        rw [hps] at hb ⊢
        exact passed_at hb)
      clear hb3 hpi hps
      go_wp2_with fail
      go_loop [15] (fun bv => ∃ b : Nat, bv = .int .i64 b ∧ b ≤ ps.length) (fun bv => ps.length - (intOf bv).toNat)
      case atStart => exact ⟨0, rfl, by omega⟩
      case round =>
        obtain ⟨b, rfl, hb⟩ := hrel
        by_cases hbl : b < ps.length
        · obtain ⟨b2, o2, hpe, hc2⟩ := HPI.out w3 (Below.refl _ _) b hbl
          subst hpe
          obtain ⟨u, hu, huN, huR⟩ := HPAT.out b hbl
          rw [hu] at hc2
          have HIN := Lib.hid (In_any zs (u : Int) (some ⟨b1, o1, none⟩) cap w3 (HZ.out w3 HQ3.out) (by unfold maxLen; omega))
          rw [decide_eq_true (show (u : Int) ∈ zs by rw [HZS.out]; exact (passed_mem _ _ _ _).2 ⟨u, rfl, huN, dom_trans huR HVR.out⟩)] at HIN
          clear hu huR
          go_wp2_with fail
          refine HIN.out.mono ?_
          clear HIN
          rintro e w4 ⟨rfl, rfl⟩
          go_wp2_with fail
          go_round
          case rel => exact ⟨b + 1, by go_num, by omega⟩
          case measure => simp [intOf]; omega
        · go_wp2_with fail
          go_loopw [16] (fun bv wr => ∃ b : Nat, bv = .int .i64 b ∧ b ≤ zs.length ∧ RowKit.Hid (Below w3.heap.size w3 wr)) (fun bv _ => zs.length - (intOf bv).toNat)
          case atStart => exact ⟨0, rfl, by omega, Lib.hid (Below.refl _ _)⟩
          case round =>
            obtain ⟨b', rfl, hb', hq4⟩ := hrel
            have hq24 := HQ3.out.trans (hq4.out.mono HQ3.out.size)
            have hbW4 := HB2.out.trans (hq24.mono HB2.out.size)
            by_cases hbl' : b' < zs.length
            · obtain ⟨_, _, hae, hc3⟩ := HZ.out wr hq24 b' hbl'
              cases hae
              obtain ⟨u, hu, huN, huR⟩ := HAT.out b' hbl'
              rw [hu] at hc3
              have HUR := Lib.hid huR
              have HU := Lib.hid hu
              have HUMET := Lib.hid (dom_met huR HR.out)
              have HO := Lib.hid (over_any (N : Int) es (u : Int) lo lc wr (HX.out wr hbW4).1 HL.out)
              have HQ4 := Lib.hid hq4.out
              clear hu huR hq4 hq24 hbW4
              go_wp2_with fail
              refine HO.out.mono ?_
              clear HO
              rintro e w5 ⟨hp, hb5⟩
              rcases hp with ⟨_, hp⟩ | ⟨hno, _⟩
              rotate_left
              · exact absurd HOK.out hno
              rcases hp with ⟨hno, _⟩ | ⟨_, qo, qc, qs, rfl, hqi, hq12, hqs⟩
              · exact absurd ⟨by omega, by omega, by rw [Int.toNat_natCast]; exact HUMET.out⟩ hno
              rw [Int.toNat_natCast, Int.toNat_natCast] at hqs
              have HQ5 := Lib.hid (HQ4.out.trans (hb5.mono HQ4.out.size))
              have hz5 := HZ.out w5 (HQ3.out.trans (HQ5.out.mono HQ3.out.size))
              obtain ⟨_, _, hae, hc4⟩ := hz5 a hal
              cases hae
              rw [HV.out] at hc4
              obtain ⟨_, _, hae, hc5⟩ := hz5 b' hbl'
              cases hae
              rw [HU.out] at hc5
              have HIP := Lib.hid (In_any ps (u : Int) po pc w5 (HPI.out w5 HQ5.out) (by unfold maxLen; omega))
              have HIQ := Lib.hid (In_any qs (v : Int) qo qc w5 hqi (by unfold maxLen; omega))
              have hnx : 0 ≤ zs.length := Nat.zero_le _
              by_cases hup : (u : Int) ∈ ps
              · rw [decide_eq_true hup] at HIP
                clear hup hz5 hqi hb5 hqs
                go_wp2_with fail
                refine HIP.out.mono ?_
                clear HIP
                rintro e w6 ⟨rfl, rfl⟩
                go_wp2_with fail
                go_roundw
                case rel => exact ⟨b' + 1, by go_num, by omega, HQ5⟩
                case measure => simp [intOf]; omega
              · have hvq : (v : Int) ∈ qs := by
                  rw [hqs]
                  refine (passed_mem _ _ _ _).2 ⟨v, rfl, hvN, ?_⟩
                  rcases dom_two HR.out HVR.out HUR.out with h | h
                  · exact absurd ((passed_mem _ _ _ _).2 ⟨u, rfl, huN, h⟩) (by rw [← HPS.out]; exact hup)
                  · exact h
                rw [decide_eq_false hup] at HIP
                rw [decide_eq_true hvq] at HIQ
                clear hup hvq hz5 hqi hb5 hqs
                go_wp2_with fail
                refine HIP.out.mono ?_
                clear HIP
                rintro e w6 ⟨rfl, rfl⟩
                go_wp2_with fail
                refine HIQ.out.mono ?_
                clear HIQ
                rintro e w6 ⟨rfl, rfl⟩
                go_wp2_with fail
                go_roundw
                case rel => exact ⟨b' + 1, by go_num, by omega, HQ5⟩
                case measure => simp [intOf]; omega
            · go_wp2_with fail
              go_roundw
              case rel => exact ⟨a + 1, by go_num, by omega, Lib.hid hq24⟩
              case measure => simp [intOf]; omega
    · have HLF := Lib.hid (left_any (N : Int) es way lo wo lc wc wr (HX.out wr hbW).1 HN.out HL.out (HX.out wr hbW).2 HWL.out)
      have HQ := Lib.hid hq.out
      have HBW := Lib.hid hbW
      clear hq hbW
      go_wp2_with fail
      refine HLF.out.mono ?_
      clear HLF
      rintro e w3 ⟨hp, hb3⟩
      have hb3' := HBW.out.trans (hb3.mono HBW.out.size)
      have HB3 := Lib.hid hb3'
      have HQ3 := Lib.hid (HQ.out.trans (hb3.mono HQ.out.size))
      rcases hp with ⟨hno, _⟩ | ⟨_, hno, rfl⟩ | ⟨_, hway, fo, fc, rfl, _⟩
      · exact absurd HOK.out hno
      · clear hno
        go_wp2_with fail
        go_ret
        exact ⟨rfl, HB3.out⟩
      obtain ⟨m, hm⟩ : ∃ m, m + 1 = way.length := ⟨way.length - 1, by have := hway.1; omega⟩
      obtain ⟨b2, o2, hwe, hcw⟩ := (HX.out w3 hb3').2 m (by omega)
      subst hwe
      have hm1 : (way.length : Int) - 1 = (m : Int) := by omega
      have hml : (m : Int) < (way.length : Int) := by omega
      have hml2 : m < way.length := by omega
      obtain ⟨x, hx⟩ : ∃ x, x = way.getD m 0 := ⟨_, rfl⟩
      rw [← hx] at hcw
      have HWAY := Lib.hid hway
      have HM := Lib.hid hm
      have HXE := Lib.hid hx
      clear hway hm hx hb3 hb3'
      by_cases hxi : x = (I : Int)
      rotate_left
      · have hbx : (x != (I : Int)) = true := by rw [bne_iff_ne]; exact hxi
        go_wp2_with fail
        go_ret
        exact ⟨rfl, HB3.out⟩
      have hbx : (x != (I : Int)) = false := by rw [bne_eq_false_iff_eq]; exact hxi
      have HALL := Lib.hid (show ∀ v : Nat, ¬ R (nat es) v I → (v : Int) ∈ way from fun v hv => by
        have hlast : (way.getD m 0).toNat = I := by rw [← HXE.out, hxi]; simp
        have hstep : ∀ k, k < m → ((way.getD k 0).toNat, (way.getD (k + 1) 0).toNat) ∈ nat es := fun k hk => by
          have h1 := HWAY.out.2.2 k (by have := HM.out; omega)
          unfold nat
          exact List.mem_map.2 ⟨_, h1, rfl⟩
        obtain ⟨k, hk, hkv⟩ := dom_way (f := fun k => (way.getD k 0).toNat) (m := m) (by show (way.getD 0 0).toNat = 0; rw [HWAY.out.2.1]; rfl) hstep (v := v) (by show ¬ R (nat es) v (way.getD m 0).toNat; rw [hlast]; exact hv)
        have h0 : 0 ≤ way.getD k 0 := by
          cases k with
          | zero => rw [HWAY.out.2.1]; exact Int.le_refl _
          | succ k =>
            have h1 := HWAY.out.2.2 k (by have := HM.out; omega)
            exact (HOK.out.2.2.2 _ h1).2.2.1
        have hkv' : (way.getD k 0).toNat = v := hkv
        have e : way.getD k 0 = (v : Int) := by omega
        rw [← e]
        simp [show k < way.length by have := HM.out; omega])
      clear hxi
      go_wp2_with fail
      go_loop [21] (fun av => ∃ a : Nat, av = .int .i64 a ∧ a ≤ zs.length) (fun av => zs.length - (intOf av).toNat)
      case atStart => exact ⟨0, rfl, by omega⟩
      case round =>
        obtain ⟨a', rfl, ha'⟩ := hrel
        by_cases hal' : a' < zs.length
        · obtain ⟨b1, o1, hae, hc1⟩ := HZ.out w3 HQ3.out a' hal'
          subst hae
          obtain ⟨v, hv, hvN, hvR⟩ := HAT.out a' hal'
          rw [hv] at hc1
          have HIN := Lib.hid (In_any way (v : Int) (some ⟨b2, o2, none⟩) wc w3 (HX.out w3 HB3.out).2 HWL.out)
          rw [decide_eq_true (HALL.out v hvR)] at HIN
          clear hv hvR
          go_wp2_with fail
          refine HIN.out.mono ?_
          clear HIN
          rintro e w4 ⟨rfl, rfl⟩
          go_wp2_with fail
          go_round
          case rel => exact ⟨a' + 1, by go_num, by omega⟩
          case measure => simp [intOf]; omega
        · go_wp2_with fail
          go_ret
          exact ⟨rfl, HB3.out⟩
end Go.Proofs.Ytobhclmibmpffaa
