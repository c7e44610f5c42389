/- GramTells' walk. -/
import Derived.Test.YtfdjnofkoegbdaaDoorGram4
import Derived.Test.YtfdjnofkoegbdaaDoorGram5
import Derived.Test.YtfdjnofkoegbdaaDoorGram6
import Derived.Test.YtfdjnofkoegbdaaDoorGram11
import Derived.Test.YtfdjnofkoegbdaaDoorGram12
import Derived.Test.YtfdjnofkoegbdaaDoorErrIs
namespace Go.Proofs.YtfdjnofkoegbdaaDoor
open Go.RowKit Go.Mine Go.Mine.Gram

theorem eqself (c : Int) : (c == c) = true := by simp
set_option maxHeartbeats 1000000 in
set_option maxRecDepth 100000 in
theorem gramTells_bad (g : List (List (List Int))) (ws : List Int) (n : Int) (go' wo : Option Addr) (gc wc : Nat) (W : World) (hg : Laid W) (hx : GridAt W go' g) (hl : g.length ≤ maxLen) (hw : IntsAt .i64 W wo ws) (hwl : ws.length ≤ maxLen) (hno : ¬ gok g) :
    Calls Tryd.prog 4 #[.slice go' g.length gc, .slice wo ws.length wc, .int .i64 n] W fun e w' => e = .returned (.bool true) ∧ Below W.heap.size W w' := by
  have HG := Lib.hid hg
  have HX := Lib.hid (show ∀ w, Below W.heap.size W w → GridAt w go' g ∧ IntsAt .i64 w wo ws from fun w hb => ⟨hx.below (Nat.le_refl _) hb, hw.below (Nat.le_refl _) hb⟩)
  have HNO := Lib.hid hno
  obtain ⟨c, hc⟩ : ∃ c, c = gfault g := ⟨_, rfl⟩
  have hcv : (c == 0) = false := by
    rw [beq_eq_false_iff_ne]
    intro h
    exact hno (gfault_zero.1 (by rw [← hc]; exact h))
  have hcv2 : (c != 0) = true := by
    rw [bne_iff_ne]
    intro h
    exact hno (gfault_zero.1 (by rw [← hc]; exact h))
  have HCC := Lib.hid hc
  clear hg hx hw hno hc
  go_enter Tryd.func4, Tryd.ntmps4
  go_wp2_with fail
  refine (grammar_true W).mono ?_
  rintro e w1 ⟨rfl, hb1⟩
  have HQ := Lib.hid (qfault_any g go' gc w1 (HX.out w1 hb1).1 hl)
  have HC := Lib.hid (gcheck_any g go' gc w1 (HX.out w1 hb1).1 hl)
  have HB1 := Lib.hid hb1
  clear hb1
  go_wp2_with fail
  refine HQ.out.mono ?_
  clear HQ
  rintro e w2 ⟨rfl, rfl⟩
  rw [← HCC.out]
  go_wp2_with fail
  refine HC.out.mono ?_
  clear HC
  rintro e w2 ⟨⟨h, _⟩ | ⟨_, rfl⟩, rfl⟩
  · exact absurd h HNO.out
  rw [← HCC.out]
  go_wp2_with fail
  refine (error_is _ _ c (Num.err c) w1 (HG.out.below HB1.out)).mono ?_
  rintro e w2 ⟨rfl, hb2⟩
  rw [eqself]
  have hb2' := HB1.out.trans (hb2.mono HB1.out.size)
  have HH := Lib.hid (has_any g ws go' wo gc wc w2 (HX.out w2 hb2').1 hl (HX.out w2 hb2').2 hwl)
  have HB2 := Lib.hid hb2'
  clear hb2 hb2' HB1
  go_wp2_with fail
  refine HH.out.mono ?_
  clear HH
  rintro e w3 ⟨hp, hb3⟩
  have hb3' := HB2.out.trans (hb3.mono HB2.out.size)
  have HB3 := Lib.hid hb3'
  clear hb3 HB2
  rcases hp with ⟨_, rfl⟩ | ⟨h, _⟩ | ⟨h, _⟩
  · rw [← HCC.out]
    go_wp2_with fail
    refine (error_is _ _ c (Num.err c) w3 (HG.out.below hb3')).mono ?_
    rintro e w4 ⟨rfl, hb4⟩
    rw [eqself]
    have hb4' := HB3.out.trans (hb4.mono HB3.out.size)
    have HWD := Lib.hid (words_any g n go' gc w4 (HX.out w4 hb4').1 hl)
    have HB4 := Lib.hid hb4'
    clear hb4 hb3' hb4' HB3
    go_wp2_with fail
    refine HWD.out.mono ?_
    clear HWD
    rintro e w5 ⟨hp, hb5⟩
    have hb5' := HB4.out.trans (hb5.mono HB4.out.size)
    have HB5 := Lib.hid hb5'
    clear hb5 HB4
    rcases hp with ⟨_, rfl⟩ | ⟨h, _⟩ | ⟨h, _⟩
    · rw [← HCC.out]
      go_wp2_with fail
      refine (error_is _ _ c (Num.err c) w5 (HG.out.below hb5')).mono ?_
      rintro e w6 ⟨rfl, hb6⟩
      rw [eqself]
      have HB6 := Lib.hid (HB5.out.trans (hb6.mono HB5.out.size))
      have HR := Lib.hid (Rows_any [] [] none none 0 0 w6 (RowsAt.nil _ _) (RowsAt.nil _ _) (by simp) (by simp))
      clear hb6 hb5' HB5
      go_wp2_with fail
      refine HR.out.mono ?_
      rintro e w7 ⟨rfl, q, rfl⟩
      have HB7 := Lib.hid (below_drewN HB6.out q)
      go_wp2_with fail
      go_ret
      exact ⟨rfl, HB7.out⟩
    · exact absurd h HNO.out
    · exact absurd h HNO.out
  · exact absurd h HNO.out
  · exact absurd h HNO.out

theorem told_take_yes {g : List (List (List Int))} {P : List (List Int)} {k : Nat} (hk : k < P.length) (h : Word g (P.getD k [])) : told g (P.take (k + 1)) = told g (P.take k) ++ [P.getD k []] := by
  rw [List.take_succ_eq_append_getElem hk]
  simp only [List.getD, List.getElem?_eq_getElem hk, Option.getD_some] at h ⊢
  exact told_yes h
theorem told_take_no {g : List (List (List Int))} {P : List (List Int)} {k : Nat} (hk : k < P.length) (h : ¬ Word g (P.getD k [])) : told g (P.take (k + 1)) = told g (P.take k) := by
  rw [List.take_succ_eq_append_getElem hk]
  simp only [List.getD, List.getElem?_eq_getElem hk, Option.getD_some] at h ⊢
  exact told_no h
theorem told_len (g : List (List (List Int))) (P : List (List Int)) : (told g P).length ≤ P.length := List.length_filter_le _ _

set_option maxHeartbeats 2000000 in
set_option maxRecDepth 100000 in
theorem gramTells_good (g : List (List (List Int))) (ws : List Int) (n : Int) (go' wo : Option Addr) (gc wc : Nat) (W : World) (hg : Laid W) (hx : GridAt W go' g) (hl : g.length ≤ maxLen) (hw : IntsAt .i64 W wo ws) (hwl : ws.length ≤ maxLen) (hok : gok g) :
    Calls Tryd.prog 4 #[.slice go' g.length gc, .slice wo ws.length wc, .int .i64 n] W fun e w' => e = .returned (.bool true) ∧ Below W.heap.size W w' := by
  obtain ⟨i0, hi0, hz0, hz1, hz2⟩ := info_parts infoW
  have HG := Lib.hid hg
  have HX := Lib.hid (show ∀ w, Below W.heap.size W w → GridAt w go' g ∧ IntsAt .i64 w wo ws from fun w hb => ⟨hx.below (Nat.le_refl _) hb, hw.below (Nat.le_refl _) hb⟩)
  have HOK := Lib.hid hok
  have HC0 := Lib.hid (gfault_zero.2 hok)
  have hwl2 := hwl
  unfold maxLen at hwl2
  clear hg hx hw hok
  go_enter Tryd.func4, Tryd.ntmps4
  go_wp2_with fail
  refine (grammar_true W).mono ?_
  rintro e w1 ⟨rfl, hb1⟩
  have HQ := Lib.hid (qfault_any g go' gc w1 (HX.out w1 hb1).1 hl)
  have HC := Lib.hid (gcheck_any g go' gc w1 (HX.out w1 hb1).1 hl)
  have HB1 := Lib.hid hb1
  clear hb1
  go_wp2_with fail
  refine HQ.out.mono ?_
  clear HQ
  rintro e w2 ⟨rfl, rfl⟩
  rw [HC0.out]
  go_wp2_with fail
  refine HC.out.mono ?_
  clear HC
  rintro e w2 ⟨⟨_, rfl⟩ | ⟨h, _⟩, rfl⟩
  rotate_left
  · exact absurd HOK.out h
  go_wp2_with fail
  refine (error_is _ _ 0 Num.nil w1 (HG.out.below HB1.out)).mono ?_
  rintro e w2 ⟨rfl, hb2⟩
  rw [eqself]
  have hb2' := HB1.out.trans (hb2.mono HB1.out.size)
  have HB2 := Lib.hid hb2'
  clear hb2 HB1
  by_cases h8 : 8 < ws.length
  case' pos =>
    have hd8 : decide (8 < ws.length) = true := by rw [decide_eq_true_iff]; exact h8
    have HH := Lib.hid (has_any g ws go' wo gc wc w2 (HX.out w2 hb2').1 hl (HX.out w2 hb2').2 hwl)
    clear hb2'
    go_wp2_with fail
    refine HH.out.mono ?_
    clear HH
    rintro e w3 ⟨hp, hb3⟩
    have hb3' := HB2.out.trans (hb3.mono HB2.out.size)
    have HB3 := Lib.hid hb3'
    clear hb3 HB2
    rcases hp with ⟨h, _⟩ | ⟨_, _, rfl⟩ | ⟨_, h, _⟩
    · exact absurd HOK.out h
    rotate_left
    · omega
    go_wp2_with fail
    refine (error_is _ _ 4 (Num.err 4) w3 (HG.out.below hb3')).mono ?_
    rintro e w4 ⟨rfl, hb4⟩
    rw [eqself]
    have hb4' := HB3.out.trans (hb4.mono HB3.out.size)
    have HB4 := Lib.hid hb4'
    clear hb3' hb4 hb4' HB3
  case' neg =>
    have hd8 : decide (8 < ws.length) = false := by rw [decide_eq_false_iff_not]; exact h8
    have HHW := Lib.hid (hasWord_any g ws go' wo gc wc w2 (HX.out w2 hb2').1 (HX.out w2 hb2').2 HOK.out (by omega))
    clear hb2'
    go_wp2_with fail
    refine HHW.out.mono ?_
    clear HHW
    rintro e w2' ⟨⟨bq, rfl, hbq⟩, hbw⟩
    have hb2q := HB2.out.trans (hbw.mono HB2.out.size)
    have HBQ := Lib.hid hbq
    have HH := Lib.hid (has_any g ws go' wo gc wc w2' (HX.out w2' hb2q).1 hl (HX.out w2' hb2q).2 hwl)
    have HB2q := Lib.hid hb2q
    clear hb2q hbw hbq
    go_wp2_with fail
    refine HH.out.mono ?_
    clear HH
    rintro e w3 ⟨hp, hb3⟩
    have hb3' := HB2q.out.trans (hb3.mono HB2q.out.size)
    have HB3 := Lib.hid hb3'
    clear hb3 HB2 HB2q
    rcases hp with ⟨h, _⟩ | ⟨_, h, _⟩ | ⟨_, _, b2, rfl, hb2w⟩
    · exact absurd HOK.out h
    · omega
    have hbe : b2 = bq := by
      have := hb2w.trans HBQ.out.symm
      cases b2 <;> cases bq <;> simp_all
    subst hbe
    clear hb2w HBQ
    go_wp2_with fail
    refine (error_is _ _ 0 Num.nil w3 (HG.out.below hb3')).mono ?_
    rintro e w4 ⟨rfl, hb4⟩
    rw [eqself]
    have hb4' := HB3.out.trans (hb4.mono HB3.out.size)
    have HB4 := Lib.hid hb4'
    clear hb3' hb4 hb4' HB3
  all_goals
    clear hd8 h8
    by_cases hn0 : n < 0
    · have hd1 : decide (n < 0) = true := by rw [decide_eq_true_iff]; exact hn0
      have HWD := Lib.hid (words_any g n go' gc w4 (HX.out w4 HB4.out).1 hl)
      go_wp2_with fail
      refine HWD.out.mono ?_
      clear HWD
      rintro e w5 ⟨hp, hb5⟩
      have hb5' := HB4.out.trans (hb5.mono HB4.out.size)
      have HB5 := Lib.hid hb5'
      clear hb5 HB4
      rcases hp with ⟨h, _⟩ | ⟨_, _, rfl⟩ | ⟨_, N, h, h2, _⟩
      · exact absurd HOK.out h
      rotate_left
      · omega
      go_wp2_with fail
      refine (error_is _ _ 1 (Num.err 1) w5 (HG.out.below hb5')).mono ?_
      rintro e w6 ⟨rfl, hb6⟩
      rw [eqself]
      have HB6 := Lib.hid (HB5.out.trans (hb6.mono HB5.out.size))
      have HR := Lib.hid (Rows_any [] [] none none 0 0 w6 (RowsAt.nil _ _) (RowsAt.nil _ _) (by simp) (by simp))
      clear hb6 hb5' HB5
      go_wp2_with fail
      refine HR.out.mono ?_
      rintro e w7 ⟨rfl, q, rfl⟩
      have HB7 := Lib.hid (below_drewN HB6.out q)
      go_wp2_with fail
      go_ret
      exact ⟨by simp, HB7.out⟩
    · by_cases hn4 : 4 < n
      · have hd1 : decide (n < 0) = false := by rw [decide_eq_false_iff_not]; exact hn0
        have hd2 : decide (4 < n) = true := by rw [decide_eq_true_iff]; exact hn4
        have HWD := Lib.hid (words_any g n go' gc w4 (HX.out w4 HB4.out).1 hl)
        go_wp2_with fail
        refine HWD.out.mono ?_
        clear HWD
        rintro e w5 ⟨hp, hb5⟩
        have hb5' := HB4.out.trans (hb5.mono HB4.out.size)
        have HB5 := Lib.hid hb5'
        clear hb5 HB4
        rcases hp with ⟨h, _⟩ | ⟨_, _, rfl⟩ | ⟨_, N, h, h2, _⟩
        · exact absurd HOK.out h
        rotate_left
        · omega
        go_wp2_with fail
        refine (error_is _ _ 1 (Num.err 1) w5 (HG.out.below hb5')).mono ?_
        rintro e w6 ⟨rfl, hb6⟩
        rw [eqself]
        have HB6 := Lib.hid (HB5.out.trans (hb6.mono HB5.out.size))
        have HR := Lib.hid (Rows_any [] [] none none 0 0 w6 (RowsAt.nil _ _) (RowsAt.nil _ _) (by simp) (by simp))
        clear hb6 hb5' HB5
        go_wp2_with fail
        refine HR.out.mono ?_
        rintro e w7 ⟨rfl, q, rfl⟩
        have HB7 := Lib.hid (below_drewN HB6.out q)
        go_wp2_with fail
        go_ret
        exact ⟨by simp, HB7.out⟩
      · obtain ⟨N, rfl⟩ := Int.eq_ofNat_of_zero_le (show 0 ≤ n by omega)
        have hN4 : N ≤ 4 := by omega
        have hd1 : decide ((N : Int) < 0) = false := by rw [decide_eq_false_iff_not]; omega
        have hd2 : decide ((4 : Int) < (N : Int)) = false := by rw [decide_eq_false_iff_not]; omega
        have hd3 : decide (4 < N) = false := by rw [decide_eq_false_iff_not]; omega
        have HWO := Lib.hid (wordsOf_any N hN4 w4)
        clear hn0 hn4
        go_wp2_with fail
        refine HWO.out.mono ?_
        clear HWO
        rintro e w5 ⟨⟨P, ao, ac, hP, hpl, rfl, hrows⟩, hb5⟩
        have HB5 := Lib.hid (HB4.out.trans (hb5.mono HB4.out.size))
        have HP := Lib.hid hP
        have HROWS := Lib.hid hrows
        clear hb5 HB4 hP hrows hd1 hd2 hd3
        go_wp2_with fail
        go_loopw [16, 18] (fun wv iv wr => ∃ (k : Nat) (vo : List Value), iv = .int .i64 k ∧ k ≤ P.length ∧ wr.ownsRow w5.heap.size 22 1 wv (told g (P.take k)).length vo ∧ RowKit.Hid (RVals w5 vo (told g (P.take k))) ∧ RowKit.Hid (Below w5.heap.size w5 wr)) (fun _ iv _ => P.length - (intOf iv).toNat)
        case atStart => exact ⟨0, [], rfl, by omega, World.ownsRow_nil _ _ _ _, Lib.hid .nil, Lib.hid (Below.refl _ _)⟩
        case round =>
          obtain ⟨k, vo, rfl, hk, ho, hv, hq⟩ := hrel
          have hbw := HB5.out.trans (hq.out.mono HB5.out.size)
          have htk : (told g (P.take k)).length ≤ 121 := by
            have h1 := told_len g (P.take k)
            have h2 : (P.take k).length ≤ P.length := List.length_take_le' _ _
            omega
          by_cases hkl : k < P.length
          · obtain ⟨b, o, ro, rc, hae, hrl, hrn, hrc, hri, hcell⟩ := HROWS.out.get hkl
            subst hae
            have hmem : P.getD k [] ∈ P := by simp [hkl]
            have hpv := (HP.out.2 _).1 hmem
            have HTY := Lib.hid (told_take_yes (g := g) hkl)
            have HTN := Lib.hid (told_take_no (g := g) hkl)
            obtain ⟨u, hu⟩ : ∃ u, u = P.getD k [] := ⟨_, rfl⟩
            rw [← hu] at hri hcell hrl hrn hrc hpv HTY HTN
            have hc := hcell wr hq.out
            have HRI := Lib.hid hri
            have HCELL := Lib.hid hcell
            have HHW := Lib.hid (hasWord_any g u go' ro gc rc wr (HX.out wr hbw).1 (hri.below (Nat.le_refl _) hq.out) HOK.out (by omega))
            have HO := Lib.hid ho
            clear hu hri hcell hmem hbw ho
            go_wp2_with fail
            refine HHW.out.mono ?_
            clear HHW
            rintro e w6 ⟨⟨bq, rfl, hbq⟩, hb6⟩
            have hq6 := hq.out.trans (hb6.mono hq.out.size)
            have HQ6 := Lib.hid hq6
            have HO6 := Lib.hid (owns_below HO.out hb6)
            have hc6 := HCELL.out w6 hq6
            have hs6 := hq6.size
            clear hb6 hq HO hc hq6
            cases bq with
            | true =>
              have HT := Lib.hid (HTY.out (hbq.1 rfl))
              have HV := Lib.hid (hv.out.append (.cons HRI.out hrl hrn hrc .nil))
              rw [← HT.out] at HV
              clear hbq hv
              go_wp2_with (at_builtin; refine wpList_push _ rfl _ _ 36 rfl w5.heap.size 22 i0 (.slice none 0 0) 1 24 Tryd.underlying36 hi0 hz0 hz1 hz2 rfl (by decide) _ _ _ rfl (HO6.out.alloc _) ⟨w6.heap.size, 0, none⟩ 1 [.slice ro u.length rc] rfl rfl (cell_one_new _ _ _) (by intro u hu; simp at hu; subst hu; rfl) (by unfold maxLen; omega) (by omega) (by simp; omega) ?_)
              intro g7 cap w7 ho7 hg7
              have hq7 := (HQ6.out.alloc hs6 (.cells #[.slice ro u.length rc] 22)).grown hg7 (by simp; omega) (fun k hk => (HO6.out.lt k hk).1)
              have HO7 := Lib.hid ho7
              have HQ7 := Lib.hid hq7
              clear ho7 hg7 hq7 HO6 HQ6
              go_wp2_with fail
              go_roundw
              case rel => exact ⟨k + 1, _, by go_num, by omega, by rw [HT.out, List.length_append]; exact HO7.out, HV, HQ7⟩
              case measure => simp [intOf]; omega
            | false =>
              have HT := Lib.hid (HTN.out (fun h => by have := hbq.2 h; cases this))
              clear hbq
              go_wp2_with fail
              go_roundw
              case rel => exact ⟨k + 1, vo, by go_num, by omega, by rw [HT.out]; exact HO6.out, by rw [HT.out]; exact hv, HQ6⟩
              case measure => simp [intOf]; omega
          · have hke : P.take k = P := List.take_of_length_le (by omega)
            rw [hke] at ho hv htk
            obtain ⟨vo1, vc1, rfl⟩ := owns_shape ho
            have HWR := Lib.hid (show ∀ w, Below wr.heap.size wr w → RowsAt w vo1 (told g P) from fun w hw => (RowsAt.of_owns ho (hv.out.keep hq.out)).below (Nat.le_refl _) hw)
            have HWD := Lib.hid (words_any g N go' gc wr (HX.out wr hbw).1 hl)
            have HB6 := Lib.hid hbw
            clear hke ho hv hbw
            go_wp2_with fail
            refine HWD.out.mono ?_
            clear HWD
            rintro e w6 ⟨hp, hb6⟩
            have hb6' := HB6.out.trans (hb6.mono HB6.out.size)
            have HB7 := Lib.hid hb6'
            have HWR7 := Lib.hid (show ∀ w, Below w6.heap.size w6 w → RowsAt w vo1 (told g P) from fun w hw => HWR.out w (hb6.trans (hw.mono hb6.size)))
            clear hb6 HB6 HWR
            rcases hp with ⟨h, _⟩ | ⟨_, h, _⟩ | ⟨_, N', h, h2, P', ao', c', hP', rfl, hrows', hpl'⟩
            · exact absurd HOK.out h
            · omega
            obtain rfl : N' = N := by omega
            obtain rfl : P' = P := hP'.unique HP.out
            have HR8 := Lib.hid (show ∀ w, Below w6.heap.size w6 w → RowsAt w ao' (told g P') from fun w hw => hrows'.below (Nat.le_refl _) hw)
            clear hP' hrows' h
            go_wp2_with fail
            refine (error_is _ _ 0 Num.nil w6 (HG.out.below hb6')).mono ?_
            rintro e w7 ⟨rfl, hb7⟩
            rw [eqself]
            have HRR := Lib.hid (Rows_any (told g P') (told g P') ao' vo1 c' vc1 w7 (HR8.out w7 hb7) (HWR7.out w7 hb7) (by omega) (by omega))
            have HB8 := Lib.hid (HB7.out.trans (hb7.mono HB7.out.size))
            clear hb7 hb6' HB7
            go_wp2_with fail
            refine HRR.out.mono ?_
            rintro e w8 ⟨rfl, q, rfl⟩
            have HB9 := Lib.hid (below_drewN HB8.out q)
            go_wp2_with fail
            go_ret
            exact ⟨by simp, HB9.out⟩
end Go.Proofs.YtfdjnofkoegbdaaDoor
