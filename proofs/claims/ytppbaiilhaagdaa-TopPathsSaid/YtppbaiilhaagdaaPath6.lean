/- path.Rank. No conditions. -/
import Derived.Test.YtppbaiilhaagdaaPath5
import Derived.Test.YtppbaiilhaagdaaPathR
import Derived.Test.YtppbaiilhaagdaaContains
namespace Go.Proofs.Ytppbaiilhaagdaa
open Go.RowKit Go.Mine Go.Mine.Path Go.Mine.Flow Go.Deep

/-- What Rank answers. -/
def RPost (n : Int) (es : List (Int × Int)) (way : List Int) (W : World) (e : Ending) (w' : World) : Prop :=
  Below W.heap.size W w' ∧ ((pathOk n es ∧ ∃ w : List Nat, way = ints w ∧ IsPath (natE es) n.toNat 0 w ∧ e = .returned (.tuple #[.int .i64 (rk (natE es) n.toNat w : Nat), .nilIface])) ∨
    (pathOk n es ∧ NoPath (natE es) n.toNat way ∧ e = .returned (.tuple #[.int .i64 0, .iface 48 (.int .i64 3)])) ∨
    (¬ pathOk n es ∧ ∃ c : Int, e = .returned (.tuple #[.int .i64 0, .iface 48 (.int .i64 c)]) ∧ (ok n es → c = 3) ∧ (¬ ok n es → c = efault n es)))
set_option maxHeartbeats 2000000 in
set_option maxRecDepth 100000 in
theorem rank_any (n : Int) (es : List (Int × Int)) (way : List Int) (lo wo : Option Addr) (lc wcap : Nat) (W : World) (hx : PairsAt W lo es) (hl : es.length ≤ maxLen) (hc : lo ≠ none → es.length ≤ lc)
    (hw : IntsAt .i64 W wo way) (hwl : way.length ≤ maxLen) (hwc : wo ≠ none → way.length ≤ wcap) :
    Calls Try.prog 12 #[.int .i64 n, .slice lo es.length lc, .slice wo way.length wcap] W (RPost n es way W) := by
  have HK := Lib.hid (checked_any n es lo lc W hx hl hc)
  have HW := Lib.hid (show ∀ w, Below W.heap.size W w → IntsAt .i64 w wo way from fun w hb => hw.below (Nat.le_refl _) hb)
  unfold maxLen at hwl
  obtain ⟨L, hL⟩ : ∃ L, L = way.length := ⟨_, rfl⟩
  rw [← hL] at hwl hwc ⊢
  have HL := Lib.hid hL
  clear hx hw hL
  go_enter Try.func12, Try.ntmps12
  go_wp2_with fail
  refine HK.out.mono ?_
  clear HK
  rintro e w1 ⟨hb, ⟨hok, gs, rfl, hgr⟩ | ⟨hno, c, rfl, hc1, hc2⟩⟩
  rotate_left
  · have HN := Lib.hid (And.intro hno (And.intro hc1 hc2))
    have HB := Lib.hid hb
    clear hno hc1 hc2 hb
    go_wp2_with fail
    go_ret2
    exact ⟨HB.out, .inr (.inr ⟨HN.out.1, c, rfl, HN.out.2.1, HN.out.2.2⟩)⟩
  have HP := Lib.hid hok
  have HB1 := Lib.hid hb
  obtain ⟨N, rfl⟩ := Int.eq_ofNat_of_zero_le (show 0 ≤ n by have := hok.1.1; omega)
  have hN0 : 0 < N := by have := hok.1.1; omega
  have hN12 : N ≤ 12 := by have := hok.1.2.1; omega
  have HES := Lib.hid (nat_ok hok.1)
  have HGO := Lib.hid (show ∀ i, Go.Mine.Path.Good (natE es) i from good_of_acy (nat_ok hok.1) hok.2.2)
  rw [show ((N : Int)).toNat = N from rfl] at hgr HES
  obtain ⟨bn, bp, h1, h2, h3, h4⟩ := hgr
  have H3 := Lib.hid h3
  have H4 := Lib.hid h4
  clear hok hb h3 h4
  by_cases hL0 : L = 0
  · subst hL0
    have HN := Lib.hid (show NoPath (natE es) N way from noPath_ends (.inl (List.eq_nil_of_length_eq_zero HL.out.symm)) hN0)
    clear h1 h2
    go_wp2_with fail
    go_ret2
    exact ⟨HB1.out, .inr (.inl ⟨HP.out, HN.out, rfl⟩)⟩
  obtain ⟨m, rfl⟩ : ∃ m, L = m + 1 := ⟨L - 1, by omega⟩
  have hcells : ∃ b o, wo = some ⟨b, o, none⟩ ∧ ∀ j, j < m + 1 → w1.cell? ⟨b, o + j, none⟩ = some (.int .i64 (way.getD j 0)) := by
    obtain ⟨b, o, rfl, _⟩ := HW.out w1 HB1.out 0 (by rw [← HL.out]; omega)
    refine ⟨b, o, rfl, fun j hj => ?_⟩
    obtain ⟨b2, o2, e2, h2⟩ := HW.out w1 HB1.out j (by rw [← HL.out]; exact hj)
    cases e2
    exact h2
  obtain ⟨b, o, rfl, hcell⟩ := hcells
  have hwc2 := hwc (by simp)
  have HC := Lib.hid hcell
  have c0 := hcell 0 (by omega)
  have cm := hcell m (by omega)
  rw [Nat.add_zero] at c0
  obtain ⟨x0, hx0⟩ : ∃ x0, x0 = way.getD 0 0 := ⟨_, rfl⟩
  obtain ⟨xm, hxm⟩ : ∃ xm, xm = way.getD m 0 := ⟨_, rfl⟩
  rw [← hx0] at c0
  rw [← hxm] at cm
  have HXM := Lib.hid hxm
  have HX0 := Lib.hid hx0
  have hmi : (m : Int) < (m : Int) + 1 := by omega
  have hm0 : (0 : Int) ≤ (m : Int) := by omega
  have hmc : (m : Int) ≤ (wcap : Int) := by omega
  clear hcell hL0 hwc hx0 hxm
  by_cases hz0 : x0 = 0
  rotate_left
  · have HN := Lib.hid (show NoPath (natE es) N way from noPath_ends (.inr (.inl (by rw [← HX0.out]; exact hz0))) hN0)
    have hbz : (x0 != 0) = true := by rw [bne_iff_ne]; exact hz0
    clear h1 h2 hz0 cm
    go_wp2_with fail
    go_ret2
    exact ⟨HB1.out, .inr (.inl ⟨HP.out, HN.out, rfl⟩)⟩
  subst hz0
  by_cases hzm : xm = (N : Int) - 1
  rotate_left
  · have HN := Lib.hid (show NoPath (natE es) N way from noPath_ends (.inr (.inr (by rw [← HL.out, Nat.add_sub_cancel, ← HXM.out]; exact hzm))) hN0)
    have hbz : (xm != (N : Int) - 1) = true := by rw [bne_iff_ne]; exact hzm
    clear h1 h2 hzm
    go_wp2_with fail
    go_ret2
    exact ⟨HB1.out, .inr (.inl ⟨HP.out, HN.out, rfl⟩)⟩
  have hbz : (xm != (N : Int) - 1) = false := by rw [bne_eq_false_iff_eq]; exact hzm
  have HZM := Lib.hid hzm
  have HSO := Lib.hid (show So (natE es) N way 0 0 [] from ⟨hN0, HGO.out 0, rfl, by
    have hl : 0 < way.length := by rw [← HL.out]; omega
    rw [List.take_succ_eq_append_getElem hl]
    have : way[0] = (0 : Int) := by have := HX0.out; simp [hl] at this; exact this.symm
    rw [this]; rfl, trivial, rfl⟩)
  clear hzm
  go_wp2_with fail
  clear c0 cm hbz
  go_loopw [10, 51] (fun kv qv wr => ∃ (q i k nq : Nat) (u : List Nat), qv = .int .i64 (q : Int) ∧ q ≤ m ∧ kv = .int .i64 (k : Int) ∧ RowKit.Hid (k = rk (natE es) N (u ++ [i])) ∧ RowKit.Hid (So (natE es) N way q i u) ∧ RowKit.Hid (wr = w1.drewN nq)) (fun _ qv _ => m - (intOf qv).toNat)
  case atStart => exact ⟨0, 0, 0, 0, [], rfl, by omega, rfl, Lib.hid rfl, HSO, Lib.hid (drewN_zero _).symm⟩
  clear HSO
  case round =>
    obtain ⟨q, i, k, nq, u, rfl, hq, rfl, hk, hso, hwr⟩ := hrel
    have HWR := Lib.hid hwr.out
    have hb1 : Below W.heap.size W wr := by rw [HWR.out]; exact below_drewN HB1.out _
    have HBW := Lib.hid hb1
    have g1 : wr.cell? ⟨gs, 0, none⟩ = some (.slice (some ⟨bn, 0, none⟩) N N) := by rw [HWR.out]; exact h1
    have g2 : wr.cell? ⟨gs, 1, none⟩ = some (.slice (some ⟨bp, 0, none⟩) N N) := by rw [HWR.out]; exact h2
    clear hwr hb1
    have HSO := Lib.hid hso.out
    have HKK := Lib.hid hk.out
    have hin := hso.out.lt
    have hql := hso.out.short HES.out (HGO.out 0) hN0
    have hkb : k ≤ 258071096741340 := by
      rw [hk.out]
      have h1 := rk_le (natE es) N hN12 (u ++ [i])
      have h2 : (u ++ [i]).length ≤ 12 := by rw [List.length_append, hso.out.len]; simp; omega
      have := Nat.mul_le_mul_right 21505924728445 h2
      omega
    clear hso hk
    by_cases hqm : q < m
    · have ci : wr.cell? ⟨b, o + q, none⟩ = some (.int .i64 (way.getD q 0)) := by rw [HWR.out]; exact HC.out q (by omega)
      have cy : wr.cell? ⟨b, o + (q + 1), none⟩ = some (.int .i64 (way.getD (q + 1) 0)) := by rw [HWR.out]; exact HC.out (q + 1) (by omega)
      have hgi : way.getD q 0 = (i : Int) := by
        have hl : q < way.length := by rw [← HL.out]; omega
        have h := HSO.out.here
        have h2 : (way.take (q + 1)).getD q 0 = way.getD q 0 := by
          simp only [List.getD_eq_getElem?_getD]; rw [List.getElem?_take_of_lt (by omega)]
        rw [← h2, h]
        simp [List.getD_eq_getElem?_getD, HSO.out.len]
      rw [hgi] at ci
      obtain ⟨y, hy⟩ : ∃ y, y = way.getD (q + 1) 0 := ⟨_, rfl⟩
      rw [← hy] at cy
      have HY := Lib.hid hy
      obtain ⟨ro, rc, h5', h6'⟩ := H3.out i hin
      have h5 : wr.cell? ⟨bn, i, none⟩ = some (.slice ro (sc (natE es) N i).length rc) := by rw [HWR.out]; exact h5'
      have h6 : IntsAt .i64 wr ro (sc (natE es) N i) := by rw [HWR.out]; exact h6'.drewN nq
      clear h5' h6'
      have HR := Lib.hid h6
      obtain ⟨sl, hsl⟩ : ∃ sl, sl = (sc (natE es) N i).length := ⟨_, rfl⟩
      have hslb : sl ≤ N := by rw [hsl]; exact sc_len _ _ _
      have HCT := Lib.hid (fun nq' => contains_any (sc (natE es) N i) y ro rc (wr.drewN nq') (h6.drewN nq') (by unfold maxLen; omega))
      rw [← hsl] at h5 HCT
      have HSL := Lib.hid hsl
      have HSL2 := Lib.hid (show sl = (succs (natE es) N i).length by rw [hsl]; simp [sc])
      obtain ⟨d, hd⟩ : ∃ d, d = decide (y ∈ sc (natE es) N i) := ⟨_, rfl⟩
      rw [← hd] at HCT
      have HD := Lib.hid hd
      have d1 : decide ((i : Int) < 0) = false := by simp
      have d2 : decide ((N : Int) ≤ (i : Int)) = false := by simp; omega
      have d3 : decide (N ≤ i) = false := by simp; omega
      have hi0 : (0 : Int) ≤ (i : Int) := by omega
      have hiN : (i : Int) < (N : Int) := by omega
      have hq1 : (0 : Int) ≤ (q : Int) + 1 := by omega
      have hq2 : (q : Int) + 1 < (m : Int) + 1 := by omega
      have hq3 : ((q : Int) + 1).toNat = q + 1 := by omega
      have hq4 : IntKind.i64.wrap ((q : Int) + 1) = (q : Int) + 1 := IntWalk.i64_in _ (by omega)
      clear hgi hy h6 hsl hd
      go_wp2_with fail
      go_quiet (first | (go_at_call 15; refine Calls.quiet_of_same ((HCT.out _).mono fun e w' h => ⟨h.1, h.2.symm⟩)))
      clear hq4
      cases d with
      | false =>
        have HN := Lib.hid (show NoPath (natE es) N way from HSO.out.none HES.out (by rw [← HL.out]; omega) (by rw [← HY.out]; exact of_decide_eq_false HD.out.symm))
        go_wp2_with fail
        go_ret2
        exact ⟨below_drewN HBW.out _, .inr (.inl ⟨HP.out, HN.out, rfl⟩)⟩
      | true =>
        obtain ⟨j, hyj, hjn, hje⟩ := mem_sc.1 (of_decide_eq_true HD.out.symm)
        subst hyj
        have hjm : j ∈ succs (natE es) N i := mem_succs.2 ⟨hjn, hje⟩
        have HNX := Lib.hid (HSO.out.next (by rw [← HL.out]; omega) HY.out.symm hjm)
        have HRK := Lib.hid (rk_snoc (natE es) N i j u)
        have hcl := cost_le (natE es) N i j hN12
        have HCO := Lib.hid (show cost (natE es) N i j = (if i + 1 = N then 1 else 0) + npSum (natE es) N ((succs (natE es) N i).filter fun k => decide (k < j)) from rfl)
        clear hje hjm HCT
        go_upto_if 83 with fail
        go_cut [10] from 84 to 85 (fun kv wx => ∃ k1 nq1 : Nat, kv = .int .i64 (k1 : Int) ∧ k1 ≤ k + 1 ∧ RowKit.Hid (k1 = k + if i + 1 = N then 1 else 0) ∧ RowKit.Hid (wx = wr.drewN nq1))
        case first =>
          by_cases he : i + 1 = N
          · have hb : ((i : Int) == (N : Int) - 1) = true := by rw [beq_iff_eq]; omega
            have HE := Lib.hid (show k + 1 = k + if i + 1 = N then 1 else 0 by rw [if_pos he])
            clear he
            go_wp2_with fail
            go_meet
            exact ⟨k + 1, _, by go_num, by omega, HE, Lib.hid rfl⟩
          · have hb : ((i : Int) == (N : Int) - 1) = false := by rw [beq_eq_false_iff_ne]; omega
            have HE := Lib.hid (show k = k + if i + 1 = N then 1 else 0 by rw [if_neg he]; rfl)
            clear he
            go_wp2_with fail
            go_meet
            exact ⟨k, _, rfl, by omega, HE, Lib.hid rfl⟩
        case rest =>
          obtain ⟨k1, nq1, rfl, hk1, hke, hwc1⟩ := hcut
          have HKE := Lib.hid hke.out
          have HWC := Lib.hid hwc1.out
          have g3 : wc.cell? ⟨gs, 0, none⟩ = some (.slice (some ⟨bn, 0, none⟩) N N) := by rw [HWC.out]; exact g1
          have g4 : wc.cell? ⟨gs, 1, none⟩ = some (.slice (some ⟨bp, 0, none⟩) N N) := by rw [HWC.out]; exact g2
          have g5 : wc.cell? ⟨bn, i, none⟩ = some (.slice ro sl rc) := by rw [HWC.out]; exact h5
          have g6 : wc.cell? ⟨b, o + (q + 1), none⟩ = some (.int .i64 (j : Int)) := by rw [HWC.out]; exact cy
          have HNP := Lib.hid (show ∀ x, x < N → wc.cell? ⟨bp, x, none⟩ = some (.int .i64 (np (natE es) N x : Nat)) from fun x hx => by rw [HWC.out]; have := H4.out x hx; rw [HWR.out]; exact this)
          have HRC := Lib.hid (show IntsAt .i64 wc ro (sc (natE es) N i) by rw [HWC.out]; exact HR.out.drewN nq1)
          obtain ⟨w3, hw3⟩ : ∃ w3, w3 = wc := ⟨_, rfl⟩
          subst hw3
          clear hke hwc1 g1 g2 h5 ci cy
          go_wp2_with fail
          go_loop [10, 94] (fun kv tv => ∃ t r : Nat, tv = .int .i64 (t : Int) ∧ t ≤ sl ∧ kv = .int .i64 (r : Int) ∧ RowKit.Hid (r = k1 + npSum (natE es) N (((succs (natE es) N i).take t).filter fun k => decide (k < j)))) (fun _ tv => sl - (intOf tv).toNat)
          case atStart => exact ⟨0, k1, rfl, by omega, rfl, Lib.hid (by simp [npSum])⟩
          case round =>
            obtain ⟨t, r, rfl, ht, rfl, hr⟩ := hrel
            have HRR := Lib.hid hr.out
            have hfl := filt_le (natE es) N i j t hN12
            have hrb : r ≤ 279577021469790 := by rw [hr.out]; omega
            clear hr hfl
            by_cases hts : t < sl
            · have hts2 : t < (succs (natE es) N i).length := by rw [← HSL2.out]; exact hts
              obtain ⟨b3, o3, hro, hce⟩ := HRC.out t (by rw [← HSL.out]; exact hts)
              subst hro
              obtain ⟨z, hz⟩ : ∃ z, z = (succs (natE es) N i).getD t 0 := ⟨_, rfl⟩
              have hzv : (sc (natE es) N i).getD t 0 = (z : Int) := by rw [hz]; simp [sc, hts2]
              rw [hzv] at hce
              have hzm : z ∈ succs (natE es) N i := by rw [hz]; simp [hts2]
              have hzn := (mem_succs.1 hzm).1
              have g7 := HNP.out z hzn
              have HFS := Lib.hid (filt_succ (natE es) N j t (succs (natE es) N i) hts2)
              rw [← hz] at HFS
              have hnl := np_le (natE es) N z hN12
              obtain ⟨v, hv⟩ : ∃ v, v = np (natE es) N z := ⟨_, rfl⟩
              rw [← hv] at g7 hnl HFS
              have hz0 : (z : Int) < (N : Int) := by omega
              clear hz hzv hzm hv
              by_cases hlt : z < j
              · rw [if_pos hlt] at HFS
                have e1 : decide ((z : Int) < (j : Int)) = true := by simp; omega
                have e2 : decide (z < j) = true := by simp; omega
                go_wp2_with fail
                go_round
                case rel => exact ⟨t + 1, r + v, by go_num, by omega, by go_num, Lib.hid (by rw [HFS.out, HRR.out]; omega)⟩
                case measure => simp [intOf]; omega
              · rw [if_neg hlt] at HFS
                have e1 : decide ((z : Int) < (j : Int)) = false := by simp; omega
                have e2 : decide (z < j) = false := by simp; omega
                go_wp2_with fail
                go_round
                case rel => exact ⟨t + 1, r, by go_num, by omega, rfl, Lib.hid (by rw [HFS.out, HRR.out]; omega)⟩
                case measure => simp [intOf]; omega
            · obtain rfl : t = sl := by omega
              have HRE := Lib.hid (show r = rk (natE es) N (u ++ [i] ++ [j]) by
                rw [HRK.out, ← HKK.out, HCO.out, HRR.out, HKE.out, List.take_of_length_le (by rw [← HSL2.out]; exact Nat.le_refl _)]
                omega)
              obtain ⟨nf, hnf⟩ : ∃ nf, w3 = w1.drewN nf := ⟨_, by rw [HWC.out, HWR.out]; exact drewN_drewN _ _ _⟩
              have HWF := Lib.hid hnf
              clear hnf
              go_wp2_with fail
              go_roundw
              case rel => exact ⟨q + 1, j, r, nf, u ++ [i], by go_num, by omega, rfl, HRE, HNX, HWF⟩
              case measure => simp [intOf]; omega
    · obtain rfl : q = m := by omega
      obtain ⟨hway, hpath⟩ := HSO.out.path HES.out hN0 HL.out (by rw [← HXM.out]; exact HZM.out)
      have HF := Lib.hid (And.intro hway hpath)
      clear hway hpath
      go_wp2_with fail
      go_ret2
      exact ⟨HBW.out, .inl ⟨HP.out, u ++ [i], HF.out.1, HF.out.2, by rw [HKK.out]; rfl⟩⟩
end Go.Proofs.Ytppbaiilhaagdaa
