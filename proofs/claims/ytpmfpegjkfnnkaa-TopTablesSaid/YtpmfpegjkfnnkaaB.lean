/- TopTables' walk. -/
import Derived.Test.YtpmfpegjkfnnkaaTable4
import Derived.Test.YtpmfpegjkfnnkaaCond5
import Derived.Test.YtpmfpegjkfnnkaaA
namespace Go.Proofs.Ytpmfpegjkfnnkaa
open Go.RowKit Go.Mine Go.Mine.Table Go.Mine.Cond

theorem infoB4 : (Try.prog.info? 4).map (fun i => (i.zero, i.size, i.bytes)) = some (some (.bool false), 1, 1) := by kernel_rfl
theorem tok_one : tok 1 [[1]] := ⟨1, rfl, by omega, by omega, by simp, fun j hj => by
  have : j = 0 := by simpa using hj
  subst this
  decide⟩
/-- Where a table has no hole each test has a rule. -/
theorem no_hole {rs : List Rl} {k : Nat} (h : (holesL rs k).length = 0) : ∀ t, t < k → ¬ ∀ r ∈ rs, fits r.when t = false := by
  intro t ht hno
  have hm : (t : Int) ∈ holesL rs k := (holesL_mem rs t k).2 ⟨t, ht, rfl, by simpa using hno⟩
  rw [List.eq_nil_of_length_eq_zero h] at hm
  cases hm

set_option maxHeartbeats 4000000 in
set_option maxRecDepth 100000 in
theorem topTables_walk (n : Int) (rs : List Rl) (lo : Option Addr) (lc : Nat) (W : World) (hx : RulesAt W lo rs) (hml : rs.length ≤ maxLen) :
    Calls Try.prog 3 #[.int .i64 n, .slice lo rs.length lc] W fun e w' => e = .returned (.bool true) ∧ Below W.heap.size W w' := by
  obtain ⟨i0, hi0, hz0, hz1, hz2⟩ := info_parts infoB4
  have HX := Lib.hid (show ∀ w, Below W.heap.size W w → RulesAt w lo rs from fun w hb => hx.below (Nat.le_refl _) hb)
  have HML := Lib.hid hml
  have HC := Lib.hid (holes_any n rs lo lc W hx hml)
  clear hx hml
  go_enter Try.func3, Try.ntmps3
  go_wp2_with fail
  refine HC.out.mono ?_
  clear HC
  rintro e w1 ⟨hp, hb1⟩
  obtain ⟨w2, hw2⟩ : ∃ w2, w2 = (w1.alloc (.cells #[.int .i64 1] 3)).alloc (.cells #[.slice (some ⟨w1.heap.size, 0, none⟩) 1 1, .int .i64 7] 31) := ⟨_, rfl⟩
  have hb2 : Below w1.heap.size w1 w2 := by rw [hw2]; exact ((Below.refl _ _).alloc (Nat.le_refl _) _).alloc (by simp) _
  have hx2 : RulesAt w2 (some ⟨w1.heap.size + 1, 0, none⟩) [⟨some ⟨w1.heap.size, 0, none⟩, 1, [1], 7⟩] := by
    intro j hj
    obtain rfl : j = 0 := by simpa using hj
    refine ⟨_, 0, rfl, ?_, ?_, ?_, by simp [maxLen]⟩
    · rw [hw2]; simp [go_sem]
    · rw [hw2]; simp [go_sem]
    · intro i hi
      obtain rfl : i = 0 := by simpa using hi
      exact ⟨_, 0, rfl, by rw [hw2]; simp [go_sem]⟩
  have HW := Lib.hid (which_any 1 1 [⟨some ⟨w1.heap.size, 0, none⟩, 1, [1], 7⟩] _ 1 w2 hx2 (by simp [maxLen]))
  have HB2 := Lib.hid hb2
  have HB1 := Lib.hid hb1
  rw [hw2] at HW HB2
  clear hx2 hb2 hw2 w2 hb1
  rcases hp with ⟨hno, rfl⟩ | ⟨hok, v, rfl, hv⟩
  · clear hno
    go_wp2_with fail
    refine HW.out.mono ?_
    clear HW
    rintro e w3 ⟨hp, hb3⟩
    have HB3 := Lib.hid (HB1.out.trans ((HB2.out.trans (hb3.mono HB2.out.size)).mono HB1.out.size))
    clear hb3 HB2
    rcases hp with ⟨h, _⟩ | ⟨_, h, _⟩ | ⟨_, _, h, _⟩ | ⟨_, _, k, hk, _, _, rfl⟩
    · exact absurd tok_one h
    · exact absurd ⟨by omega, by decide⟩ h
    · have h1 : fits [1] 1 = false := h _ (List.mem_singleton.2 rfl)
      exact absurd h1 (by decide)
    · obtain rfl : k = 0 := by simpa using hk
      go_wp2_with fail
      go_ret
      exact ⟨rfl, HB3.out⟩
  · obtain ⟨m, rfl, hm1, hm6, hr12, hall⟩ := id hok
    have HOK := Lib.hid hok
    have hp := pow_wrap m hm6
    have hp64 := pow_le hm6
    obtain ⟨B, hB⟩ : ∃ B, B = 2 ^ m := ⟨_, rfl⟩
    rw [Int.toNat_natCast] at hv
    rw [← hB] at hp hp64 hv
    have HBB := Lib.hid hB
    have HNH := Lib.hid (no_hole (rs := rs) (k := B))
    obtain ⟨L, hL⟩ : ∃ L, L = holesL rs B := ⟨_, rfl⟩
    have hll : L.length ≤ B := by rw [hL]; exact holesL_len rs B
    rw [← hL] at hv HNH
    obtain ⟨ao, ac, rfl⟩ := owns_shape hv
    clear hB hok hall hL hv
    go_wp2_with fail
    refine HW.out.mono ?_
    clear HW
    rintro e w3 ⟨hp3, hb3⟩
    have HB3 := Lib.hid (HB1.out.trans ((HB2.out.trans (hb3.mono HB2.out.size)).mono HB1.out.size))
    clear hb3 HB2 HB1
    rcases hp3 with ⟨h, _⟩ | ⟨_, h, _⟩ | ⟨_, _, h, _⟩ | ⟨_, _, k, hk, _, _, rfl⟩
    · exact absurd tok_one h
    · exact absurd ⟨by omega, by decide⟩ h
    · have h1 : fits [1] 1 = false := h _ (List.mem_singleton.2 rfl)
      exact absurd h1 (by decide)
    obtain rfl : k = 0 := by simpa using hk
    clear hk
    by_cases hL0 : 0 < L.length
    · have hgt : decide ((0 : Int) < (L.length : Int)) = true := by rw [decide_eq_true_iff]; omega
      go_wp2_with fail
      go_ret
      exact ⟨rfl, HB3.out⟩
    · have hlen : L.length = 0 := by omega
      have HNH2 := Lib.hid (HNH.out hlen)
      have hgt : decide ((0 : Int) < (L.length : Int)) = false := by rw [decide_eq_false_iff_not]; omega
      clear HNH hll hL0
      go_wp2_with fail
      go_loopw [9, 10, 11] (fun v yv tv wr => ∃ fs : List Bool, tv = .int .i64 fs.length ∧ yv = .int .i64 (fs.count true : Nat) ∧ fs.length ≤ B ∧ wr.ownsRow W.heap.size 4 1 v fs.length (fs.map Value.bool) ∧ Below W.heap.size W wr) (fun _ _ tv _ => B - (intOf tv).toNat)
      case atStart => exact ⟨[], rfl, rfl, by simp, World.ownsRow_nil _ _ _ _, HB3.out⟩
      case round =>
        obtain ⟨fs, rfl, rfl, hk, ho, hb⟩ := hrel
        have hcle := List.count_le_length (a := true) (l := fs)
        by_cases hlt : fs.length < B
        · have HWT := Lib.hid (which_any m fs.length rs lo lc wr (HX.out wr hb) HML.out)
          have HNO := Lib.hid (HNH2.out fs.length hlt)
          have HO := Lib.hid ho
          have HB := Lib.hid hb
          clear ho hb HB3
          go_wp2_with fail
          refine HWT.out.mono ?_
          clear HWT
          rintro e w4 ⟨hp4, hb4⟩
          have hb5 := HB.out.trans (hb4.mono HB.out.size)
          have hs5 := hb5.size
          have HO5 := Lib.hid (owns_below HO.out hb4)
          have HB5 := Lib.hid hb5
          clear hb4 hb5 HO HB
          rcases hp4 with ⟨h, _⟩ | ⟨_, h, _⟩ | ⟨_, _, h, _⟩ | ⟨_, _, k, hk2, _, _, rfl⟩
          · exact absurd HOK.out h
          · refine absurd ⟨by omega, ?_⟩ h
            rw [Int.toNat_natCast, ← HBB.out]
            omega
          · rw [Int.toNat_natCast] at h
            exact absurd h HNO.out
          obtain ⟨d, hd⟩ : ∃ d, d = (rs.getD k default).to := ⟨_, rfl⟩
          rw [← hd]
          clear hd hk2 HNO
          by_cases hd0 : 0 < d
          · have hdd : decide (0 < d) = true := by rw [decide_eq_true_iff]; exact hd0
            have HM := Lib.hid (show fs.map Value.bool ++ [.bool true] = (fs ++ [true]).map Value.bool by simp)
            have HN := Lib.hid (show (fs ++ [true]).count true = fs.count true + 1 by simp)
            go_wp2_with (at_builtin; refine wpList_push _ rfl _ _ 32 rfl W.heap.size 4 i0 (.bool false) 1 1 Try.underlying32 hi0 hz0 hz1 hz2 rfl (by decide) _ _ _ rfl (HO5.out.alloc _) ⟨w4.heap.size, 0, none⟩ 1 [.bool true] rfl rfl (cell_one_new _ _ _) (by simp [Value.oneCell']) (by unfold maxLen; omega) (by omega) (by simp; omega) ?_)
            intro g cap w7 ho7 hg7
            have hb7 := (HB5.out.alloc hs5 (.cells #[.bool true] 4)).grown hg7 (by simp; omega) (fun k hk => (HO5.out.lt k hk).1)
            rw [HM.out] at ho7
            have HO7 := Lib.hid ho7
            have HB7 := Lib.hid hb7
            clear ho7 hb7 hg7 HO5 HB5
            go_wp2_with fail
            go_roundw
            case rel => exact ⟨fs ++ [true], by rw [List.length_append]; go_num, by rw [HN.out]; go_num, by simp; omega, by rw [List.length_append]; exact HO7.out, HB7.out⟩
            case measure => simp [intOf]; omega
          · have hdd : decide (0 < d) = false := by rw [decide_eq_false_iff_not]; exact hd0
            have HM := Lib.hid (show fs.map Value.bool ++ [.bool false] = (fs ++ [false]).map Value.bool by simp)
            have HN := Lib.hid (show (fs ++ [false]).count true = fs.count true by simp)
            go_wp2_with (at_builtin; refine wpList_push _ rfl _ _ 32 rfl W.heap.size 4 i0 (.bool false) 1 1 Try.underlying32 hi0 hz0 hz1 hz2 rfl (by decide) _ _ _ rfl (HO5.out.alloc _) ⟨w4.heap.size, 0, none⟩ 1 [.bool false] rfl rfl (cell_one_new _ _ _) (by simp [Value.oneCell']) (by unfold maxLen; omega) (by omega) (by simp; omega) ?_)
            intro g cap w7 ho7 hg7
            have hb7 := (HB5.out.alloc hs5 (.cells #[.bool false] 4)).grown hg7 (by simp; omega) (fun k hk => (HO5.out.lt k hk).1)
            rw [HM.out] at ho7
            have HO7 := Lib.hid ho7
            have HB7 := Lib.hid hb7
            clear ho7 hb7 hg7 HO5 HB5
            go_wp2_with fail
            go_roundw
            case rel => exact ⟨fs ++ [false], by rw [List.length_append]; go_num, by rw [HN.out], by simp; omega, by rw [List.length_append]; exact HO7.out, HB7.out⟩
            case measure => simp [intOf]; omega
        · have hfB : fs.length = B := by omega
          have hfl : fs.length = 2 ^ m := by rw [hfB, HBB.out]
          obtain ⟨fo, fc, rfl⟩ := owns_shape ho
          have hcok : cok m fs.length := ⟨m, rfl, hm1, hm6, hfl⟩
          have HCOK := Lib.hid hcok
          have HFL := Lib.hid hfl
          have HF := Lib.hid (show ∀ w, Below wr.heap.size wr w → BoolsAt w fo fs from fun w hw => (BoolsAt.of_owns ho).below (Nat.le_refl _) hw)
          have HT := Lib.hid (tests_ok m fs fo fc wr (BoolsAt.of_owns ho) hcok)
          have HB := Lib.hid hb
          clear ho hb hfl hcok HNH2 HB3 hfB
          go_wp2_with fail
          refine HT.out.mono ?_
          clear HT
          rintro e w4 ⟨v4, T, rfl, ho4, hpr, hb4⟩
          obtain ⟨tto, tc, rfl⟩ := owns_shape ho4
          have hb5 := HB.out.trans (hb4.mono HB.out.size)
          have htl := hpr.len
          have htop := top_law hm6 HFL.out hpr
          have HPR := Lib.hid hpr
          have HF4 := Lib.hid (show ∀ w, Below w4.heap.size w4 w → BoolsAt w fo fs from fun w hw => HF.out w (hb4.trans (hw.mono hb4.size)))
          have HI := Lib.hid (show ∀ w, Below w4.heap.size w4 w → IntsAt .i64 w tto T from fun w hw => (IntsAt.of_owns ho4).below (Nat.le_refl _) hw)
          have HCV := Lib.hid (coversX_any m fs T fo tto fc tc w4 (HF.out _ hb4) (IntsAt.of_owns ho4) (by unfold maxLen; omega))
          have HB5 := Lib.hid hb5
          have HTOP := Lib.hid htop
          clear ho4 hpr hb4 hb5 HF HB htop
          go_wp2_with fail
          refine HCV.out.mono ?_
          clear HCV
          rintro e w6 ⟨hp6, hb6⟩
          have HB6 := Lib.hid (HB5.out.trans (hb6.mono HB5.out.size))
          have HF6 := Lib.hid (HF4.out w6 hb6)
          have HI6 := Lib.hid (HI.out w6 hb6)
          clear hb6 HB5 HF4 HI
          rcases hp6 with ⟨h, _⟩ | ⟨_, h, _⟩ | ⟨_, _, b, rfl, hbc⟩
          · exact absurd HCOK.out h
          · exact absurd HPR.out.range h
          rw [Int.toNat_natCast] at hbc
          obtain rfl := hbc.2 HPR.out.cov
          clear hbc
          go_wp2_with fail
          go_loop [18, 19, 20] (fun yv zv iv => ∃ k : Nat, iv = .int .i64 k ∧ k ≤ T.length ∧ yv = .bool ((T.take k).any (fun x => at' fs x.toNat)) ∧ zv = .bool ((T.take k).any (fun x => !at' fs x.toNat))) (fun _ _ iv => T.length - (intOf iv).toNat)
          case atStart => exact ⟨0, rfl, by omega, by simp, by simp⟩
          case round =>
            obtain ⟨k, rfl, hkT, rfl, rfl⟩ := hrel
            by_cases hkl : k < T.length
            · obtain ⟨bt, ot, rfl, hct⟩ := HI6.out k hkl
              have hr := HPR.out.range (T.getD k 0) (by simp [hkl])
              have E1 := Lib.hid (any_take (p := fun x => at' fs x.toNat) hkl)
              have E2 := Lib.hid (any_take (p := fun x => !at' fs x.toNat) hkl)
              obtain ⟨x, hx⟩ : ∃ x, x = T.getD k 0 := ⟨_, rfl⟩
              rw [← hx] at hct hr E1 E2
              obtain ⟨s, rfl⟩ := Int.eq_ofNat_of_zero_le hr.1
              obtain ⟨bf, of, rfl, hcf⟩ := HF6.out s (by omega)
              have hsl : s < fs.length := by omega
              rw [Int.toNat_natCast] at E1 E2
              obtain ⟨c, hc⟩ : ∃ c, c = at' fs s := ⟨_, rfl⟩
              rw [← hc] at E1 E2
              rw [show fs.getD s false = c from hc.symm] at hcf
              obtain ⟨yb, hy⟩ : ∃ yb, yb = (T.take k).any (fun x => at' fs x.toNat) := ⟨_, rfl⟩
              obtain ⟨zb, hz⟩ : ∃ zb, zb = (T.take k).any (fun x => !at' fs x.toNat) := ⟨_, rfl⟩
              rw [← hy] at E1 ⊢
              rw [← hz] at E2 ⊢
              clear hx hr hc hy hz
              cases yb <;> cases zb <;> cases c
              all_goals
                go_wp2_with fail
                go_round
              all_goals first
                | exact ⟨k + 1, by go_num, by omega, by rw [E1.out]; rfl, by rw [E2.out]; rfl⟩
                | (simp [intOf]; omega)
            · have hkT2 : T.take k = T := List.take_of_length_le (by omega)
              rw [hkT2]
              obtain ⟨yb, hy⟩ : ∃ yb, yb = T.any (fun x => at' fs x.toNat) := ⟨_, rfl⟩
              obtain ⟨zb, hz⟩ : ∃ zb, zb = T.any (fun x => !at' fs x.toNat) := ⟨_, rfl⟩
              have htop := HTOP.out
              rw [← hy, ← hz] at htop
              rw [← hy, ← hz]
              obtain ⟨q, hq⟩ : ∃ q, q = fs.count true := ⟨_, rfl⟩
              rw [← hq] at htop hcle ⊢
              clear hy hz hq hkT2 HTOP
              rcases htop with ⟨h1, h2⟩ | ⟨h0, h1, h2⟩ | ⟨h0, h1, rfl, rfl⟩
              · subst h1
                rw [h2]
                go_wp2_with fail
                all_goals go_ret
                all_goals exact ⟨rfl, HB6.out⟩
              · subst h1
                rw [h2]
                go_wp2_with fail
                all_goals go_ret
                all_goals exact ⟨rfl, HB6.out⟩
              · go_wp2_with fail
                all_goals go_ret
                all_goals exact ⟨rfl, HB6.out⟩
end Go.Proofs.Ytpmfpegjkfnnkaa
