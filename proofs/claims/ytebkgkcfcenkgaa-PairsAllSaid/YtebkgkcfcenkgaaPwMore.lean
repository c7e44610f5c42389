/- PairsMore's walk: a row more has no more missing; as many fewer as the pairs that it has and none had. No conditions but what the reading tells. -/
import Derived.Test.YtebkgkcfcenkgaaPw5
namespace Go.Mine.Pw
theorem filter_count {α : Type} (f : α → Bool) : ∀ l : List α, (l.filter fun x => !f x).length + l.countP f = l.length
  | [] => rfl
  | x :: l => by
    have h := filter_count f l
    cases hf : f x with
    | true => rw [List.filter_cons_of_neg (by simp [hf]), List.countP_cons_of_pos hf, List.length_cons]; omega
    | false => rw [List.filter_cons_of_pos (by simp [hf]), List.countP_cons_of_neg (by simp [hf]), List.length_cons, List.length_cons]; omega
theorem countP_take {α : Type} [Inhabited α] (f : α → Bool) (l : List α) (d : α) {i : Nat} (hi : i < l.length) : (l.take (i + 1)).countP f = (l.take i).countP f + if f (l.getD i d) then 1 else 0 := by
  rw [List.take_succ_eq_append_getElem hi, List.countP_append]
  simp [List.getD, hi, List.countP_cons]
theorem okL22 : okL [2, 2] := ⟨by decide, by decide⟩
end Go.Mine.Pw
namespace Go.Proofs.Ytebkgkcfcenkgaa
open Go.RowKit Go.Mine Go.Mine.Pw

/-- What Rows tells at [2, 2]. -/
theorem fact_any (W : World) (b : Nat) (hc0 : W.cell? ⟨b, 0, none⟩ = some (.int .i64 2)) (hc1 : W.cell? ⟨b, 1, none⟩ = some (.int .i64 2)) :
    Calls Try.prog 5 #[.slice (some ⟨b, 0, none⟩) 2 2] W fun e w' => (∃ ao cap, e = .returned (.tuple #[.slice ao 4 cap, .nilIface])) ∧ Below W.heap.size W w' := by
  have hx : IntsAt .i64 W (some ⟨b, 0, none⟩) [2, 2] := fun j hj => by
    have h : j = 0 ∨ j = 1 := by simp at hj; omega
    rcases h with rfl | rfl
    · exact ⟨b, 0, rfl, hc0⟩
    · exact ⟨b, 0, rfl, hc1⟩
  refine (Rows_any [2, 2] (some ⟨b, 0, none⟩) 2 W hx (by decide)).mono ?_
  rintro e w' ⟨⟨h, _⟩ | ⟨_, rows, ao, cap, rfl, _, hl, _⟩, hb⟩
  · exact absurd okL22 h
  · exact ⟨⟨ao, cap, by rw [hl.two]⟩, hb⟩
set_option maxHeartbeats 2000000 in
set_option maxRecDepth 100000 in
theorem pairsMore_walk (W : World) (L : List Int) (lo : Option Addr) (lc : Nat) (hx : IntsAt .i64 W lo L) (hl : L.length ≤ maxLen) (rows : List (List Int)) (ro : Option Addr) (rc : Nat) (hr : RowsAt W ro rows) (hrl : rows.length ≤ maxLen) (hrn : ro = none → rows.length = 0) (hrb : rows.length * 24 ≤ 140737488351232)
    (row : List Int) (wo : Option Addr) (wc : Nat) (hw : IntsAt .i64 W wo row) (hwl : row.length ≤ maxLen) (hwn : wo = none → row.length = 0) (hwc : row.length ≤ wc) :
    Calls Try.prog 4 #[.slice lo L.length lc, .slice ro rows.length rc, .slice wo row.length wc] W fun e w' => e = .returned (.bool true) ∧ Below W.heap.size W w' := by
  obtain ⟨i0, hi0, hz0, hz1, hz2⟩ := info_parts infoSS
  obtain ⟨wf, hwf⟩ : ∃ wf, wf = W.alloc (.cells #[.int .i64 2, .int .i64 2] 3) := ⟨_, rfl⟩
  have hbf : Below W.heap.size W wf := by rw [hwf]; exact (Below.refl _ _).alloc (Nat.le_refl _) _
  have hnb : wf.heap[W.heap.size]? = some (.cells #[.int .i64 2, .int .i64 2] 3 (0, 0)) := by rw [hwf]; exact heap_alloc_new _ _
  have HFA := Lib.hid (fact_any wf W.heap.size (by rw [cell_of_row _ _ 0 _ _ _ hnb]; rfl) (by rw [cell_of_row _ _ 1 _ _ _ hnb]; rfl))
  have HX := Lib.hid (fun (w : World) (h : Below W.heap.size W w) => And.intro (hx.below (Nat.le_refl _) h) (And.intro (hr.below (Nat.le_refl _) h) (hw.below (Nat.le_refl _) h)))
  have HRN := Lib.hid hrn
  have HWN := Lib.hid (And.intro hwn hwc)
  have HBF := Lib.hid hbf
  have HL := Lib.hid (And.intro hl (And.intro hrl hwl))
  have hrl2 : rows.length + 1 ≤ maxLen := by unfold maxLen; omega
  unfold maxLen at hl hrl hwl hrl2
  clear hx hr hw hrn hwn hwc hbf hnb
  go_enter Try.func4, Try.ntmps4
  go_wp2_with fail
  rw [← hwf]
  clear hwf
  go_fit HFA.out
  clear HFA
  rintro e w1 ⟨⟨af, cf, rfl⟩, hb1⟩
  have hb1' := HBF.out.trans (hb1.mono HBF.out.size)
  have HB1 := Lib.hid hb1'
  have HM1 := Lib.hid (Missing_any L rows lo ro lc rc w1 (HX.out w1 hb1').1 HL.out.1 (HX.out w1 hb1').2.1 HL.out.2.1)
  clear hb1 hb1' HBF
  go_wp2_with fail
  go_fit HM1.out
  clear HM1
  rintro e w2 ⟨hp, hb2⟩
  have hb2' := HB1.out.trans (hb2.mono HB1.out.size)
  have HB2 := Lib.hid hb2'
  obtain ⟨vs, hvs, hvc⟩ := (HX.out w2 hb2').2.1.vals
  have hvl := hvs.len
  have hbe : Below w2.heap.size w2 (w2.alloc (.cells #[] 22)) := (Below.refl _ _).alloc (Nat.le_refl _) _
  have HVC := Lib.hid (show ∀ ad, ro = some ad → ∀ j u, vs[j]? = some u → (w2.alloc (.cells #[] 22)).cell? (ad.add j) = some u from fun ad ha j u hu => by
    have h1 := hvc ad ha j u hu
    exact (hbe.cell (p := ad.add j) (World.block_lt_of_cell? w2 _ h1)).trans h1)
  have HVS := Lib.hid hvs
  have HV1 := Lib.hid hvs.one1
  have HVL := Lib.hid hvl
  have hs2 := hb2'.size
  have HE := Lib.hid (owns_empty (w := w2.alloc (.cells #[] 22)) (B := w2.heap.size) (size := 1) (e := 22) (Nat.le_refl _) (heap_alloc_new w2 _))
  have HP := Lib.hid hp
  have HWX := Lib.hid (HX.out w2 hb2').2.2
  clear hb2 hb2' hvs hvc hbe hvl hp
  rcases HP.out with ⟨hn, rfl⟩ | ⟨hok, hn, rfl⟩ | ⟨hok, hor, ao1, cap1, rfl, hf1⟩
  case' inr.inr => have HF1 := Lib.hid hf1; clear hf1
  case' inr.inr => have HOK := Lib.hid hok; clear hok
  case' inr.inr => have HOR := Lib.hid hor; clear hor
  case' inr.inl => clear hok hn
  case' inl => clear hn
  all_goals
    clear HP
    go_wp2_with (at_builtin; first
      | (refine wpList_append_any _ rfl _ _ 23 rfl w2.heap.size 22 i0 (.slice none 0 0) 1 24 Try.underlying23 hi0 hz0 hz1 hz2 rfl (by decide) _ 0 _ [] rfl HE.out ro rows.length rc vs rfl ?_ HRN.out HVC.out HV1.out ?_ ?_ ?_ (w2.heap.size + 1) ?_ ?_))
  all_goals first | (rw [HVL.out, Nat.mul_one]; done) | (unfold maxLen; omega) | omega | (simp; done) | skip
  all_goals
    intro g3 cap3 w3 ho3 hg3 hw3 hl3
    try simp only [Nat.zero_add, List.nil_append] at ho3 ⊢
    have hb3 : Below w2.heap.size w2 w3 := ((Below.refl _ _).alloc (Nat.le_refl _) _).grown hg3 (by simp) (fun k hk => by cases hk; exact Nat.le_refl _)
    have HO3 := Lib.hid ho3
    have HB3 := Lib.hid hb3
    have hs3 := hb3.size
    clear ho3 hg3 hb3 hw3 HE HVC
    go_wp2_with (at_builtin; refine wpList_push _ rfl _ _ 23 rfl w2.heap.size 22 i0 (.slice none 0 0) 1 24 Try.underlying23 hi0 hz0 hz1 hz2 rfl (by decide) _ _ _ rfl (HO3.out.alloc _) ⟨w3.heap.size, 0, none⟩ 1 [.slice wo row.length wc] rfl rfl (cell_one_new _ _ _) (by intro u hu; simp at hu; subst hu; rfl) (by unfold maxLen; omega) (by omega) (by simp; omega) ?_)
    intro g4 cap4 w4 ho4 hg4
    have hb4 : Below w2.heap.size w2 w4 := (HB3.out.alloc HB3.out.size _).grown hg4 (by simp; omega) (fun k hk => (HO3.out.lt k hk).1)
    have hv4 : RVals w4 (vs ++ [.slice wo row.length wc]) (rows ++ [row]) := (HVS.out.keep hb4).append (.cons (HWX.out.below (Nat.le_refl _) hb4) HL.out.2.2 HWN.out.1 HWN.out.2 .nil)
    have hr4 := RowsAt.of_owns ho4 hv4
    have hb4' := HB2.out.trans (hb4.mono HB2.out.size)
    have HM4 := Lib.hid (Missing_any L (rows ++ [row]) lo (some ⟨g4, 0, none⟩) lc cap4 w4 (HX.out w4 hb4').1 HL.out.1 hr4 (by rw [List.length_append]; unfold maxLen; simp; omega))
    rw [List.length_append, List.length_singleton] at HM4
    have HB4 := Lib.hid hb4'
    have HB24 := Lib.hid hb4
    clear ho4 hg4 hb4 hv4 hr4 hb4' HO3 HB3
    go_wp2_with fail
    go_fit HM4.out
    clear HM4
    rintro e w5 ⟨hp5, hb5⟩
    have HB5 := Lib.hid (HB4.out.trans (hb5.mono HB4.out.size))
    have HB25 := Lib.hid (HB24.out.trans (hb5.mono HB24.out.size))
    have HP5 := Lib.hid hp5
    clear hb5 hp5 HB4 HB24
  · rcases HP5.out with ⟨hn, rfl⟩ | ⟨hok, hn, rfl⟩ | ⟨hok, hor, ao2, cap2, rfl, hf2⟩
    all_goals
      clear HP5
      go_wp2_with fail
      go_ret
      exact ⟨rfl, HB5.out⟩
  · rcases HP5.out with ⟨hn, rfl⟩ | ⟨hok, hn, rfl⟩ | ⟨hok, hor, ao2, cap2, rfl, hf2⟩
    all_goals
      clear HP5
      go_wp2_with fail
      go_ret
      exact ⟨rfl, HB5.out⟩
  · rcases HP5.out with ⟨hn, rfl⟩ | ⟨hok, hn, rfl⟩ | ⟨hok, hor, ao2, cap2, rfl, hf2⟩
    · clear HP5 hn
      go_wp2_with fail
      go_ret
      exact ⟨rfl, HB5.out⟩
    · clear HP5 hn hok
      go_wp2_with fail
      go_ret
      exact ⟨rfl, HB5.out⟩
    have hrow : okRow L row := hor row (by simp)
    have HCNT := Lib.hid (show (missP L (rows ++ [row])).length + (missP L rows).countP (fun p => hasP row p) = (missP L rows).length by rw [missP_push]; exact filter_count _ _)
    have HRL := Lib.hid hrow.1
    obtain ⟨N, hN⟩ : ∃ N, N = (missP L rows).length := ⟨_, rfl⟩
    obtain ⟨M, hM⟩ : ∃ M, M = (missP L (rows ++ [row])).length := ⟨_, rfl⟩
    have HN36 := Lib.hid (missP_len HOK.out rows)
    rw [← hN] at HCNT HN36 ⊢
    rw [← hM] at HCNT ⊢
    have HNN := Lib.hid hN
    have hN36 : N ≤ 3600 := HN36.out
    have HF5 := Lib.hid (HF1.out.below (Nat.le_refl _) HB25.out)
    have HW5 := Lib.hid (HWX.out.below (Nat.le_refl _) HB25.out)
    clear HP5 hok hor hf2 hrow hN hM HF1 HN36
    go_wp2_with fail
    go_loopw [13, 14] (fun nv iv wr => ∃ c i : Nat, nv = .int .i64 c ∧ iv = .int .i64 i ∧ c ≤ i ∧ i ≤ N ∧ RowKit.Hid (c = ((missP L rows).take i).countP (fun p => hasP row p)) ∧ RowKit.Hid (Below w5.heap.size w5 wr)) (fun _ iv _ => N - (intOf iv).toNat)
    case atStart => exact ⟨0, 0, rfl, rfl, by omega, by omega, Lib.hid (by simp), Lib.hid (Below.refl _ _)⟩
    case round =>
      obtain ⟨c, i, rfl, rfl, hci, hi, hc, hb⟩ := hrel
      have HBi := Lib.hid hb.out
      have HC := Lib.hid hc.out
      by_cases hiN : i < N
      · have hil : i < (missP L rows).length := by rw [← HNN.out]; exact hiN
        obtain ⟨qa, qx, qb, qy, hq, hqab, hqb, _, _⟩ := mem_all.1 (mem_miss.1 (show (missP L rows).getD i [] ∈ missP L rows by simp [hil])).1
        obtain ⟨bq, oq, rfl, hqc⟩ := (HF5.out.below (Nat.le_refl _) hb.out) i hil
        have HSTEP := Lib.hid (countP_take (fun p => hasP row p) (missP L rows) [] hil)
        rw [hq] at hqc HSTEP
        rw [← HC.out] at HSTEP
        have hq0 := hqc 0 (by omega)
        have hq1 := hqc 1 (by omega)
        have hq2 := hqc 2 (by omega)
        have hq3 := hqc 3 (by omega)
        simp only [four, List.getD_cons_zero, List.getD_cons_succ, Nat.add_zero] at hq0 hq1 hq2 hq3
        obtain ⟨bw, ow, rfl, hu⟩ := (HW5.out.below (Nat.le_refl _) hb.out) qa (by rw [HRL.out]; omega)
        obtain ⟨_, _, he, hv⟩ := (HW5.out.below (Nat.le_refl _) hb.out) qb (by rw [HRL.out]; exact hqb)
        cases he
        obtain ⟨u, hue⟩ : ∃ u, u = row.getD qa 0 := ⟨_, rfl⟩
        obtain ⟨v, hve⟩ : ∃ v, v = row.getD qb 0 := ⟨_, rfl⟩
        have HH := Lib.hid (show hasP row (four qa qx qb qy) = (u == (qx : Int) && v == (qy : Int)) by rw [hue, hve]; unfold hasP four; simp)
        rw [← hue] at hu
        rw [← hve] at hv
        rw [HH.out] at HSTEP
        have hbw := World.block_lt_of_cell? wr _ hu
        have hu2 : ∀ X, (wr.alloc X).cell? ⟨bw, ow + qa, none⟩ = some (.int .i64 u) := fun X => (World.cell?_of_block (w := wr) (heap_alloc_old _ _ hbw)).trans hu
        have hv2 : ∀ X, (wr.alloc X).cell? ⟨bw, ow + qb, none⟩ = some (.int .i64 v) := fun X => (World.cell?_of_block (w := wr) (a := ⟨bw, ow + qb, none⟩) (heap_alloc_old _ _ hbw)).trans hv
        have hqal : (qa : Int) < (row.length : Int) := by rw [HRL.out]; omega
        have hqbl : (qb : Int) < (row.length : Int) := by rw [HRL.out]; omega
        have HB9 := Lib.hid (show ∀ n X, Below w5.heap.size w5 ((wr.alloc X).drewN n) from fun n X => below_drewN (HBi.out.alloc HBi.out.size _) n)
        clear hqc hq hue hve hu hv hb hc HH hil
        by_cases h1 : u = (qx : Int)
        · have hd1 : (u == (qx : Int)) = true := beq_iff_eq.2 h1
          rw [hd1] at HSTEP
          clear h1
          by_cases h2 : v = (qy : Int)
          · have hd2 : (v == (qy : Int)) = true := beq_iff_eq.2 h2
            rw [hd2] at HSTEP
            have HS2 := Lib.hid (HSTEP.out.trans (show c + (if (true && true) = true then 1 else 0) = c + 1 from rfl))
            clear h2 HSTEP
            go_wp2_with fail
            go_quiet (fail)
            go_wp2_with fail
            go_roundw
            case rel => exact ⟨c + 1, i + 1, by go_num, by go_num, by omega, by omega, Lib.hid HS2.out.symm, Lib.hid (HB9.out _ _)⟩
            case measure => simp [intOf]; omega
          · have hd2 : (v == (qy : Int)) = false := beq_eq_false_iff_ne.2 h2
            rw [hd2] at HSTEP
            have HS2 := Lib.hid (HSTEP.out.trans (show c + (if (true && false) = true then 1 else 0) = c from rfl))
            clear h2 HSTEP
            go_wp2_with fail
            go_quiet (fail)
            go_wp2_with fail
            go_roundw
            case rel => exact ⟨c, i + 1, rfl, by go_num, by omega, by omega, Lib.hid HS2.out.symm, Lib.hid (HB9.out _ _)⟩
            case measure => simp [intOf]; omega
        · have hd1 : (u == (qx : Int)) = false := beq_eq_false_iff_ne.2 h1
          rw [hd1] at HSTEP
          have HS2 := Lib.hid (HSTEP.out.trans (show c + (if (false && (v == (qy : Int))) = true then 1 else 0) = c from rfl))
          clear h1 HSTEP
          go_wp2_with fail
          go_quiet (fail)
          go_wp2_with fail
          go_roundw
          case rel => exact ⟨c, i + 1, rfl, by go_num, by omega, by omega, Lib.hid HS2.out.symm, Lib.hid (HB9.out _ _)⟩
          case measure => simp [intOf]; omega
      · obtain rfl : i = N := by omega
        have hcN : M + c = i := by
          have h1 := HCNT.out
          have h2 := HC.out
          rw [HNN.out, List.take_length] at h2
          omega
        have hd : ((M : Int) == (i : Int) - (c : Int)) = true := by rw [beq_iff_eq]; omega
        have HBE := Lib.hid (HB5.out.trans (hb.out.mono HB5.out.size))
        clear hb hc hcN
        go_wp2_with fail
        go_ret
        exact ⟨rfl, HBE.out⟩
end Go.Proofs.Ytebkgkcfcenkgaa
