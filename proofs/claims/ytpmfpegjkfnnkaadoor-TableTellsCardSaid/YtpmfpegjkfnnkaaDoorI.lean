/- TableTells' walk where the rules are right. -/
import Derived.Test.YtpmfpegjkfnnkaaDoorH
namespace Go.Proofs.YtpmfpegjkfnnkaaDoor
open Go.RowKit Go.Mine Go.Mine.Table Go.Deep

set_option maxHeartbeats 8000000 in
set_option maxRecDepth 100000 in
theorem tells_out (m : Nat) (t : Int) (rs : List Rl) (lo : Option Addr) (lc : Nat) (W : World) (hg : Laid W) (hx : RulesAt W lo rs) (hml : rs.length ≤ maxLen) (hok : tok m (rs.map Rl.when)) (hrange : ¬ (0 ≤ t ∧ t < ((2 ^ m : Nat) : Int))) :
    Calls Tryd.prog 5 #[.int .i64 m, .slice lo rs.length lc, .int .i64 t] W fun e w' => e = .returned (.bool true) ∧ Below W.heap.size W w' := by
  obtain ⟨i0, hi0, hz0, hz1, hz2⟩ := info_parts info3
  obtain ⟨m', hm', hm1, hm6, hr12, hall⟩ := id hok
  obtain rfl : m = m' := by omega
  have hr12' : rs.length ≤ 12 := by simpa using hr12
  have HG := Lib.hid hg
  have HX := Lib.hid (show ∀ w, Below W.heap.size W w → RulesAt w lo rs from fun w hb => hx.below (Nat.le_refl _) hb)
  have HCK := Lib.hid (show ∀ w, Below W.heap.size W w → Calls Tryd.prog 15 #[.int .i64 m, .slice lo rs.length lc] w (fun e w' => e = .returned .nilIface ∧ Below w.heap.size w w') from fun w hb => (tcheck_any m rs lo lc w (HX.out w hb) hml).mono fun e w' ⟨h, hb'⟩ => ⟨by
    rcases h with ⟨_, h⟩ | ⟨h, _⟩
    · exact h
    · exact absurd hok h, hb'⟩)
  have HRF := Lib.hid (show ∀ w, Below W.heap.size W w → Calls Tryd.prog 14 #[.int .i64 m, .slice lo rs.length lc] w (fun e w' => e = .returned (.int .i64 0) ∧ w = w') from fun w hb => (rulefault_any m rs lo lc w (HX.out w hb) hml).mono fun e w' ⟨h, hb'⟩ => ⟨by rw [h, tfault_ok hok], hb'⟩)
  have HWH := Lib.hid (show ∀ f d, FD m rs t f d → ∀ w, Below W.heap.size W w → Calls Tryd.prog 8 #[.int .i64 m, .slice lo rs.length lc, .int .i64 t] w (fun e w' => ∃ ev, e = .returned (.tuple #[.int .i64 d, ev]) ∧ Num ev f ∧ Below w.heap.size w w') from fun f d hF w hb => (which_any m t rs lo lc w (HX.out w hb) hml).mono fun e w' ⟨h, hb'⟩ => by
    obtain ⟨ev, h1, h2⟩ := which_val hok hF h
    exact ⟨ev, h1, h2, hb'⟩)
  have HHO := Lib.hid (show ∀ w, Below W.heap.size W w → Calls Tryd.prog 7 #[.int .i64 m, .slice lo rs.length lc] w (fun e w' => ∃ ao ac, e = .returned (.tuple #[.slice ao (holesL rs (2 ^ m)).length ac, .nilIface]) ∧ IntsAt .i64 w' ao (holesL rs (2 ^ m)) ∧ Below w.heap.size w w') from fun w hb => (holes_any m rs lo lc w (HX.out w hb) hml).mono fun e w' ⟨h, hb'⟩ => by
    rcases h with ⟨h, _⟩ | ⟨_, v, h1, h2⟩
    · exact absurd hok h
    · rw [Int.toNat_natCast] at h2
      obtain ⟨ao, ac, rfl⟩ := owns_shape h2
      exact ⟨ao, ac, h1, IntsAt.of_owns h2, hb'⟩)
  have HCL := Lib.hid (show ∀ g a b, Gd rs (fun _ _ => True) g a b → ∀ w, Below W.heap.size W w → Calls Tryd.prog 12 #[.int .i64 m, .slice lo rs.length lc] w (fun e w' => ∃ ev, e = .returned (.tuple #[.int .i64 a, .int .i64 b, ev]) ∧ Num ev g ∧ Below w.heap.size w w') from fun g a b hG w hb => (clash_any m rs lo lc w (HX.out w hb) hml).mono fun e w' ⟨h, hb'⟩ => by
    obtain ⟨ev, h1, h2⟩ := clash_val hok hG h
    exact ⟨ev, h1, h2, hb'⟩)
  have HFT := Lib.hid (show ∀ w, Below W.heap.size W w → ∀ r ∈ rs, ∀ s : Nat, s < 64 → Calls Tryd.prog 16 #[.agg #[.slice r.sa r.when.length r.cap, .int .i64 r.to], .int .i64 s] w (fun e w' => e = .returned (.bool (fits r.when s)) ∧ Below w.heap.size w w') from fun w hb r hr s hs => fits_call hall hm6 hr hs (HX.out w hb))
  have HHF := Lib.hid (show ∀ i k, i < rs.length → k < rs.length → hit (rs.getD i default) (rs.getD k default) (2 ^ m) = cl rs i k from fun i k hi hk => hit_full hall hi hk)
  have hp := pow_wrap m hm6
  have hp64 := pow_le hm6
  have HFD0 := Lib.hid (show ¬ (0 ≤ t ∧ t < ((2 ^ m : Nat) : Int)) → FD m rs t 1 0 from fun h => .inl ⟨h, rfl, rfl⟩)
  have HFD1 := Lib.hid (show ∀ s : Nat, t = s → s < 2 ^ m → ∀ f d, scanL s rs = (f, d) → FD m rs t f d from fun s hs hlt f d he => by
    have := scan_FD (m := m) hlt rs
    rw [he] at this
    rw [hs]; exact this)
  obtain ⟨B, hB⟩ : ∃ B, B = 2 ^ m := ⟨_, rfl⟩
  rw [← hB] at hp hp64 HFD0 HFD1 HHO HHF hrange
  have HRG := Lib.hid hrange
  clear hrange hx hg hok hall hr12 hm' hB hml
  go_enter Tryd.func5, Tryd.ntmps5
  go_wp2_with fail
  refine (ruled_true W).mono ?_
  rintro e w1 ⟨rfl, hb1⟩
  have HB1 := Lib.hid hb1
  clear hb1
  go_wp2_with fail
  refine (HRF.out w1 HB1.out).mono ?_
  rintro e w' ⟨rfl, rfl⟩
  go_wp2_with fail
  refine (HCK.out w1 HB1.out).mono ?_
  rintro e w2 ⟨rfl, hb⟩
  have HB2 := Lib.hid (HB1.out.trans (hb.mono HB1.out.size))
  clear hb
  go_wp2_with fail
  refine (error_same _ 0 (.inl ⟨rfl, rfl⟩) w2 (HG.out.below HB2.out)).mono ?_
  rintro e w3 ⟨rfl, hb⟩
  have HB3 := Lib.hid (HB2.out.trans (hb.mono HB2.out.size))
  clear hb HB1 HB2 HCK HRF
  have hcase : (t < 0 ∨ ((0 ≤ t) ∧ (B : Int) ≤ t)) ∨ ∃ s : Nat, t = s ∧ s < B := by
    by_cases h : t < 0
    · exact .inl (.inl h)
    · by_cases h' : t < (B : Int)
      · exact .inr ⟨t.toNat, by omega, by omega⟩
      · exact .inl (.inr ⟨by omega, by omega⟩)
  rcases hcase with ht | ⟨s, rfl, hs⟩
  case inl =>
    have HFD := Lib.hid (HFD0.out (by omega))
    clear HFD0 HFD1
    go_upto_region 6 with fail
    go_cut [54] from 42 to 53 (fun v wx => v = .bool true ∧ wx = w3)
    case first =>
      rcases ht with ht | ⟨ht0, ht⟩
      · have hd1 : decide (t < 0) = true := by rw [decide_eq_true_iff]; exact ht
        go_wp2_with fail
        go_meet
        exact ⟨rfl, rfl⟩
      · have hd1 : decide (t < 0) = false := by rw [decide_eq_false_iff_not]; omega
        have hd2 : decide ((B : Int) ≤ t) = true := by rw [decide_eq_true_iff]; exact ht
        go_wp2_with fail
        go_meet
        exact ⟨rfl, rfl⟩
    case rest =>
      obtain ⟨rfl, hw⟩ := hcut
      rw [← hw] at HB3
      clear ht hw
      go_wp2_with fail
      try rw [hp]
      go_loopw [13, 17] (fun v0 kv wr => ∃ k : Nat, kv = .int .i64 k ∧ k ≤ B ∧ OwnIs wr W.heap.size v0 (holesL rs k) ∧ Below W.heap.size W wr) (fun _ kv _ => B - (intOf kv).toNat)
      case atStart => exact ⟨0, rfl, by omega, ⟨_, rfl, World.ownsRow_nil _ _ _ _⟩, HB3.out⟩
      clear HB3
      case round =>
        obtain ⟨k, rfl, hk, ⟨v, rfl, ho⟩, hb⟩ := hrel
        have hkl := holesL_len rs k
        by_cases hlt : k < B
        · have hk64 : k < 64 := by omega
          have HO := Lib.hid ho
          have HB := Lib.hid hb
          have HSU := Lib.hid (show holesL rs (k + 1) = holesL rs k ++ (if rs.any (fun r => fits r.when k) = true then [] else [(k : Int)]) from rfl)
          clear ho hb
          go_wp2_with fail
          try rw [hp]
          go_loopw [18, 19] (fun sv iv wy => ∃ (i : Nat) (sm : Bool), iv = .int .i64 i ∧ i ≤ rs.length ∧ sv = .bool sm ∧ RowKit.Hid ((rs.take i).any (fun r => fits r.when k) = sm) ∧ wy.ownsRow W.heap.size 3 1 v (holesL rs k).length ((holesL rs k).map (Value.int .i64)) ∧ Below W.heap.size W wy) (fun _ iv _ => rs.length - (intOf iv).toNat)
          case atStart => exact ⟨0, false, rfl, by omega, rfl, Lib.hid (by simp), HO.out, HB.out⟩
          clear HO HB
          case round =>
            obtain ⟨i, sm, rfl, hi, rfl, hany, ho, hb⟩ := hrel
            have HO := Lib.hid ho
            have HB := Lib.hid hb
            clear ho
            by_cases hin : i < rs.length
            · have hst := any_step hin (fun r => fits r.when k)
              rw [hany.out] at hst
              cases sm with
              | true =>
                have HN := Lib.hid (show (rs.take (i + 1)).any (fun r => fits r.when k) = true by rw [hst]; rfl)
                clear hst hany hb
                go_wp2_with fail
                go_roundw
                case rel => exact ⟨i + 1, true, by go_num, by omega, rfl, HN, HO.out, HB.out⟩
                case measure => simp [intOf]; omega
              | false =>
                rw [Bool.false_or] at hst
                obtain ⟨b, o, rfl, c1, c2, _, _⟩ := (HX.out wr hb) i hin
                have hmem := getD_mem hin
                obtain ⟨r, hr⟩ : ∃ r, r = rs.getD i default := ⟨_, rfl⟩
                rw [← hr] at c1 c2 hmem hst
                have HF := Lib.hid (HFT.out wr hb r hmem k hk64)
                obtain ⟨fb, hfb⟩ : ∃ fb, fits r.when k = fb := ⟨_, rfl⟩
                rw [hfb] at HF hst
                have HN := Lib.hid hst
                clear hst hany hb hr hfb hmem
                go_wp2_with fail
                refine HF.out.mono ?_
                clear HF
                rintro e w' ⟨rfl, hb'⟩
                have HO' := Lib.hid (owns_below HO.out hb')
                have HB' := Lib.hid (HB.out.trans (hb'.mono HB.out.size))
                clear hb' c1 c2
                cases fb
                all_goals
                  go_wp2_with fail
                  go_roundw
                all_goals first
                  | exact ⟨i + 1, _, by go_num, by omega, rfl, HN, HO'.out, HB'.out⟩
                  | (simp [intOf]; omega)
            · have hie : i = rs.length := by omega
              have hall2 := hany.out
              rw [hie, List.take_of_length_le (Nat.le_refl _)] at hall2
              have hsz := hb.size
              clear hany hb hi hin
              subst hie
              cases sm with
              | true =>
                have HE := Lib.hid (show holesL rs (k + 1) = holesL rs k by rw [HSU.out, hall2]; simp)
                clear hall2 HSU
                go_wp2_with fail
                go_roundw
                case rel => exact ⟨k + 1, by go_num, by omega, ⟨_, rfl, by rw [HE.out]; exact HO.out⟩, HB.out⟩
                case measure => simp [intOf]; omega
              | false =>
                have HE := Lib.hid (show holesL rs (k + 1) = holesL rs k ++ [(k : Int)] by rw [HSU.out, hall2]; simp)
                have HEM := Lib.hid (show (holesL rs k).map (Value.int .i64) ++ [.int .i64 k] = (holesL rs (k + 1)).map (Value.int .i64) by rw [HE.out]; simp)
                have HEL := Lib.hid (show (holesL rs k).length + 1 = (holesL rs (k + 1)).length by rw [HE.out]; simp)
                clear hall2 HSU
                go_wp2_with (at_builtin; refine wpList_push _ rfl _ _ 24 rfl W.heap.size 3 i0 (.int .i64 0) 1 8 Tryd.underlying24 hi0 hz0 hz1 hz2 rfl (by decide) _ _ _ rfl (HO.out.alloc _) ⟨wr.heap.size, 0, none⟩ 1 [.int .i64 k] rfl rfl (cell_one_new _ _ _) (one1 _ _) (by unfold maxLen; omega) (by omega) (by simp; omega) ?_)
                intro g cap w7 ho7 hg7
                have hb7 := (HB.out.alloc hsz (.cells #[.int .i64 k] 3)).grown hg7 (by simp; omega) (fun k hk => (HO.out.lt k hk).1)
                rw [HEM.out, HEL.out] at ho7
                have HO7 := Lib.hid ho7
                have HB7 := Lib.hid hb7
                have hel := HEL.out
                clear ho7 hb7 hg7
                go_wp2_with fail
                go_roundw
                case rel => exact ⟨k + 1, by go_num, by omega, ⟨_, rfl, by rw [← HEL.out] at HO7 ⊢; exact HO7.out⟩, HB7.out⟩
                case measure => simp [intOf]; omega
        · obtain rfl : B = k := by omega
          obtain ⟨ao, ac, rfl⟩ := owns_shape ho
          obtain ⟨w5, hw5⟩ : ∃ w5, w5 = wr := ⟨_, rfl⟩
          rw [← hw5] at ho hb ⊢
          clear hw5 wr
          have HIA := Lib.hid (show ∀ w, Below w5.heap.size w5 w → IntsAt .i64 w ao (holesL rs B) from fun w hw => (IntsAt.of_owns ho).below (Nat.le_refl _) hw)
          have HB5 := Lib.hid hb
          have HBW := Lib.hid (show ∀ w, Below w5.heap.size w5 w → Below W.heap.size W w from fun w hw => HB5.out.trans (hw.mono HB5.out.size))
          obtain ⟨L, hL⟩ : ∃ L, L = holesL rs B := ⟨_, rfl⟩
          rw [← hL] at HIA hkl HHO ⊢
          clear ho hb hL hlt hk
          go_wp2_with fail
          try rw [hp]
          go_loopw [14, 15, 16, 20] (fun gv av bv iv wr => ∃ (c : Nat) (g a b : Int), iv = .int .i64 ((rs.length : Int) - 1 - c) ∧ c ≤ rs.length ∧ gv = .int .i64 g ∧ av = .int .i64 a ∧ bv = .int .i64 b ∧ RowKit.Hid (Gd rs (fun i' _ => rs.length - c ≤ i') g a b) ∧ Below w5.heap.size w5 wr) (fun _ _ _ iv _ => (intOf iv + 1).toNat)
          case atStart => exact ⟨0, 2, 0, 0, by simp, by omega, rfl, rfl, rfl, Lib.hid (.inl ⟨rfl, rfl, rfl, fun i k h1 h2 h3 => by omega⟩), Below.refl _ _⟩
          case round =>
            obtain ⟨c, g, a, b, rfl, hc, rfl, rfl, rfl, hgd, hb⟩ := hrel
            by_cases hlt : c < rs.length
            · obtain ⟨i, hi⟩ : ∃ i : Nat, i + 1 + c = rs.length := ⟨rs.length - 1 - c, by omega⟩
              have ei : (rs.length : Int) - 1 - c = (i : Int) := by omega
              rw [ei]
              have hil : i < rs.length := by omega
              have HGM := Lib.hid (gd_iff (P' := fun i' k' => i + 1 ≤ i' ∨ (i' = i ∧ rs.length - 0 ≤ k')) hgd.out (fun i' k' h1 h2 => by constructor <;> intro h <;> omega))
              have HEI := Lib.hid (show i + 1 + c = rs.length by omega)
              have HB := Lib.hid hb
              clear hgd hb ei hi
              go_wp2_with fail
              try rw [hp]
              go_loopw [14, 15, 16, 21] (fun gv av bv kv wr => ∃ (q : Nat) (g a b : Int), kv = .int .i64 ((rs.length : Int) - 1 - q) ∧ q + i + 1 ≤ rs.length ∧ gv = .int .i64 g ∧ av = .int .i64 a ∧ bv = .int .i64 b ∧ RowKit.Hid (Gd rs (fun i' k' => i + 1 ≤ i' ∨ (i' = i ∧ rs.length - q ≤ k')) g a b) ∧ Below w5.heap.size w5 wr) (fun _ _ _ kv _ => (intOf kv + 1).toNat)
              case atStart => exact ⟨0, g, a, b, by simp, by omega, rfl, rfl, rfl, HGM, HB.out⟩
              clear HGM HB
              case round =>
                obtain ⟨q, g, a, b, rfl, hq, rfl, rfl, rfl, hgd, hb⟩ := hrel
                by_cases hlq : q + i + 2 ≤ rs.length
                · obtain ⟨k, hk⟩ : ∃ k : Nat, k + 1 + q = rs.length := ⟨rs.length - 1 - q, by omega⟩
                  have ek : (rs.length : Int) - 1 - q = (k : Int) := by omega
                  rw [ek]
                  have hkl2 : k < rs.length := by omega
                  have hik : i < k := by omega
                  have HFULL := Lib.hid (HHF.out i k hil hkl2)
                  have HGN := Lib.hid (show ∀ g' a' b', HitSt (cl rs i k) i k g a b g' a' b' → Gd rs (fun i' k' => i + 1 ≤ i' ∨ (i' = i ∧ rs.length - (q + 1) ≤ k')) g' a' b' from fun g' a' b' h => by
                    rcases h with ⟨h1, rfl, rfl, rfl⟩ | ⟨h1, rfl, rfl, rfl⟩
                    · exact gd_new (P := fun i' k' => i + 1 ≤ i' ∨ (i' = i ∧ rs.length - q ≤ k')) hik hkl2 (fun i' k' g1 g2 g3 => by omega) (by omega) (fun i' k' h h' => by omega) h1
                    · exact gd_old (i := i) (k := k) hgd.out (fun i' k' h => by omega) (fun i' k' g1 g2 g3 => by omega) h1)
                  have HB := Lib.hid hb
                  have HEK := Lib.hid (show k + 1 + q = rs.length by omega)
                  have hm1 := getD_mem hil
                  have hm2 := getD_mem hkl2
                  obtain ⟨r, hr⟩ : ∃ r, r = rs.getD i default := ⟨_, rfl⟩
                  obtain ⟨s', hs'⟩ : ∃ s', s' = rs.getD k default := ⟨_, rfl⟩
                  rw [← hr, ← hs'] at HFULL
                  rw [← hr] at hm1
                  rw [← hs'] at hm2
                  have HR := Lib.hid hr
                  have HS' := Lib.hid hs'
                  have HM1 := Lib.hid hm1
                  have HM2 := Lib.hid hm2
                  clear hgd hb ek hk hr hs' hm1 hm2
                  go_wp2_with fail
                  try rw [hp]
                  go_loopw [14, 15, 16, 22] (fun gv av bv uv wr => ∃ (u : Nat) (g' a' b' : Int), uv = .int .i64 u ∧ u ≤ B ∧ gv = .int .i64 g' ∧ av = .int .i64 a' ∧ bv = .int .i64 b' ∧ RowKit.Hid (HitSt (hit r s' u) i k g a b g' a' b') ∧ Below w5.heap.size w5 wr) (fun _ _ _ uv _ => B - (intOf uv).toNat)
                  case atStart => exact ⟨0, g, a, b, rfl, by omega, rfl, rfl, rfl, Lib.hid (.inr ⟨by simp [hit], rfl, rfl, rfl⟩), HB.out⟩
                  clear HB
                  case round =>
                    obtain ⟨u, g', a', b', rfl, hu, rfl, rfl, rfl, hht, hb⟩ := hrel
                    by_cases hlu : u < B
                    · have hxw := HX.out wr (HBW.out wr hb)
                      obtain ⟨bb, oo, rfl, c1, c2, _, _⟩ := hxw i hil
                      obtain ⟨bb', oo', e, d1, d2, _, _⟩ := hxw k hkl2
                      cases e
                      rw [← HR.out] at c1 c2
                      rw [← HS'.out] at d1 d2
                      have hu64 : u < 64 := by omega
                      have HF1 := Lib.hid (show ∀ w, Below w5.heap.size w5 w → _ from fun w hw => HFT.out w (HBW.out w hw) r HM1.out u hu64)
                      have HF2 := Lib.hid (show ∀ w, Below w5.heap.size w5 w → _ from fun w hw => HFT.out w (HBW.out w hw) s' HM2.out u hu64)
                      have hsu := hit_succ r s' u
                      obtain ⟨f1, hf1⟩ : ∃ f1, fits r.when u = f1 := ⟨_, rfl⟩
                      obtain ⟨f2, hf2⟩ : ∃ f2, fits s'.when u = f2 := ⟨_, rfl⟩
                      rw [hf1] at hsu HF1
                      rw [hf2] at hsu HF2
                      have HSU := Lib.hid hsu
                      have HHT := Lib.hid hht.out
                      have HBR := Lib.hid hb
                      have hbr := Below.refl wr.heap.size wr
                      clear hsu hf1 hf2 hht hxw hb
                      by_cases hto : r.to = s'.to
                      · have hne : (r.to != s'.to) = false := by rw [hto]; simp
                        have HN := Lib.hid (hitSt_step HHT.out (show hit r s' (u + 1) = hit r s' u by rw [HSU.out, decide_eq_false (by simpa using hto)]; simp))
                        clear hto
                        go_wp2_with fail
                        go_quiet (fail)
                        go_wp2_with fail
                        go_roundw
                        case rel => exact ⟨u + 1, g', a', b', by go_num, by omega, rfl, rfl, rfl, HN, below_drewN HBR.out _⟩
                        case measure => simp [intOf]; omega
                      · have hne : (r.to != s'.to) = true := by rw [bne_iff_ne]; exact hto
                        have HDT := Lib.hid (show decide (r.to ≠ s'.to) = true from decide_eq_true hto)
                        clear hto
                        cases f1
                        case false =>
                          have HN := Lib.hid (hitSt_step HHT.out (show hit r s' (u + 1) = hit r s' u by rw [HSU.out]; simp))
                          go_wp2_with fail
                          have hbd := HBR.out.drew
                          refine wp_region_held_drew (S := fun w' => w'.cell? ⟨bb, oo + i * 2, none⟩ = some (.slice r.sa r.when.length r.cap) ∧ w'.cell? ⟨bb, oo + i * 2 + 1, none⟩ = some (.int .i64 r.to) ∧ w'.cell? ⟨bb, oo + k * 2, none⟩ = some (.slice s'.sa s'.when.length s'.cap) ∧ w'.cell? ⟨bb, oo + k * 2 + 1, none⟩ = some (.int .i64 s'.to) ∧ Below wr.heap.size wr w') (by kernel_rfl) ?hS0 (fun hHeld => ?_)
                          case hS0 =>
                            exact ⟨c1, c2, d1, d2, hbr.drew⟩
                          refine wpAnyH_take (i := 0) (v := ?vv0) rfl (by kernel_rfl) (by kernel_rfl) (by kernel_rfl) (fun _ _ _ h => h) (Or.inl ⟨by rfl, ?hy0⟩) (by assumption) ?rest0
                          case hy0 => ((intro w hSw; (try dsimp only at hSw); go_simp) <;> with_reducible rfl)
                          try simp only [List.getElem_toArray, List.getElem_cons_succ, List.getElem_cons_zero, Act.put, List.setIfInBounds_toArray, List.set_cons_zero, List.set_cons_succ]
                          refine wpAnyH_take (i := 1) (v := ?vv1) rfl (by kernel_rfl) (by kernel_rfl) (by kernel_rfl) (fun _ _ _ h => h) (Or.inl ⟨by rfl, ?hy1⟩) (by assumption) ?rest1
                          case hy1 => ((intro w hSw; (try dsimp only at hSw); go_simp) <;> with_reducible rfl)
                          try simp only [List.getElem_toArray, List.getElem_cons_succ, List.getElem_cons_zero, Act.put, List.setIfInBounds_toArray, List.set_cons_zero, List.set_cons_succ]
                          refine wpAnyH_take (i := 2) (v := ?vv2) rfl (by kernel_rfl) (by kernel_rfl) (by kernel_rfl) (fun _ _ _ h => h) (Or.inl ⟨by rfl, ?hy2⟩) (by assumption) ?rest2
                          case hy2 => ((intro w hSw; (try dsimp only at hSw); go_simp) <;> with_reducible rfl)
                          try simp only [List.getElem_toArray, List.getElem_cons_succ, List.getElem_cons_zero, Act.put, List.setIfInBounds_toArray, List.set_cons_zero, List.set_cons_succ]
                          refine wpAnyH_take (i := 3) (v := ?vv3) rfl (by kernel_rfl) (by kernel_rfl) (by kernel_rfl) (fun _ _ _ h => h) (Or.inl ⟨by rfl, ?hy3⟩) (by assumption) ?rest3
                          case hy3 => ((intro w hSw; (try dsimp only at hSw); go_simp) <;> with_reducible rfl)
                          try simp only [List.getElem_toArray, List.getElem_cons_succ, List.getElem_cons_zero, Act.put, List.setIfInBounds_toArray, List.set_cons_zero, List.set_cons_succ]
                          refine wpAnyH_take (i := 4) (v := ?vv4) rfl (by kernel_rfl) (by kernel_rfl) (by kernel_rfl) (fun _ _ _ h => h) (Or.inl ⟨by rfl, ?hy4⟩) (by assumption) ?rest4
                          case hy4 => ((intro w hSw; (try dsimp only at hSw); go_simp) <;> with_reducible rfl)
                          try simp only [List.getElem_toArray, List.getElem_cons_succ, List.getElem_cons_zero, Act.put, List.setIfInBounds_toArray, List.set_cons_zero, List.set_cons_succ]
                          refine wpAnyH_take (i := 5) (v := ?vv5) rfl (by kernel_rfl) (by kernel_rfl) (by kernel_rfl) (fun _ _ _ h => h) (Or.inl ⟨by rfl, ?hy5⟩) (by assumption) ?rest5
                          case hy5 => ((intro w hSw; (try dsimp only at hSw); go_simp) <;> with_reducible rfl)
                          try simp only [List.getElem_toArray, List.getElem_cons_succ, List.getElem_cons_zero, Act.put, List.setIfInBounds_toArray, List.set_cons_zero, List.set_cons_succ]
                          refine wpAnyH_take (i := 6) (v := ?vv6) rfl (by kernel_rfl) (by kernel_rfl) (by kernel_rfl) (fun _ _ _ h => h) (Or.inl ⟨by rfl, ?hy6⟩) (by assumption) ?rest6
                          case hy6 => ((intro w hSw; (try dsimp only at hSw); go_simp) <;> with_reducible rfl)
                          try simp only [List.getElem_toArray, List.getElem_cons_succ, List.getElem_cons_zero, Act.put, List.setIfInBounds_toArray, List.set_cons_zero, List.set_cons_succ]
                          refine wpAnyH_take (i := 7) (v := ?vv7) rfl (by kernel_rfl) (by kernel_rfl) (by kernel_rfl) (fun _ _ _ h => h) (Or.inl ⟨by rfl, ?hy7⟩) (by assumption) ?rest7
                          case hy7 => ((intro w hSw; (try dsimp only at hSw); go_simp) <;> with_reducible rfl)
                          try simp only [List.getElem_toArray, List.getElem_cons_succ, List.getElem_cons_zero, Act.put, List.setIfInBounds_toArray, List.set_cons_zero, List.set_cons_succ]
                          refine wpAnyH_take (i := 8) (v := ?vv8) rfl (by kernel_rfl) (by kernel_rfl) (by kernel_rfl) (fun _ _ _ h => h) (Or.inl ⟨by rfl, ?hy8⟩) (by assumption) ?rest8
                          case hy8 => ((intro w hSw; (try dsimp only at hSw); go_simp) <;> with_reducible rfl)
                          try simp only [List.getElem_toArray, List.getElem_cons_succ, List.getElem_cons_zero, Act.put, List.setIfInBounds_toArray, List.set_cons_zero, List.set_cons_succ]
                          refine wpAnyH_take (i := 9) (v := ?vv9) rfl (by kernel_rfl) (by kernel_rfl) (by kernel_rfl) (fun _ _ _ h => h) (Or.inl ⟨by rfl, ?hy9⟩) (by assumption) ?rest9
                          case hy9 => ((intro w hSw; (try dsimp only at hSw); go_simp) <;> with_reducible rfl)
                          try simp only [List.getElem_toArray, List.getElem_cons_succ, List.getElem_cons_zero, Act.put, List.setIfInBounds_toArray, List.set_cons_zero, List.set_cons_succ]
                          refine wpAnyH_take (i := 10) (v := .bool true) rfl (by kernel_rfl) (by kernel_rfl) (by kernel_rfl) (fun _ _ _ h => h) (Or.inl ⟨by rfl, ?hy10⟩) (by assumption) ?rest10
                          case hy10 => ((intro w hSw; (try dsimp only at hSw); go_simp) <;> with_reducible rfl)
                          try simp only [List.getElem_toArray, List.getElem_cons_succ, List.getElem_cons_zero, Act.put, List.setIfInBounds_toArray, List.set_cons_zero, List.set_cons_succ]
                          refine wpAnyH_take (i := 11) (v := .bool true) rfl (by kernel_rfl) (by kernel_rfl) (by kernel_rfl) (fun _ _ _ h => h) (Or.inl ⟨by rfl, ?hy11⟩) (by assumption) ?rest11
                          case hy11 => ((intro w hSw; (try dsimp only at hSw); go_simp) <;> with_reducible rfl)
                          try simp only [List.getElem_toArray, List.getElem_cons_succ, List.getElem_cons_zero, Act.put, List.setIfInBounds_toArray, List.set_cons_zero, List.set_cons_succ]
                          refine wpAnyH_take (i := 12) (v := ?vv12) rfl (by kernel_rfl) (by kernel_rfl) (by kernel_rfl) (fun _ _ _ h => h) (Or.inl ⟨by rfl, ?hy12⟩) (by assumption) ?rest12
                          case hy12 => ((intro w hSw; (try dsimp only at hSw); go_simp) <;> with_reducible rfl)
                          try simp only [List.getElem_toArray, List.getElem_cons_succ, List.getElem_cons_zero, Act.put, List.setIfInBounds_toArray, List.set_cons_zero, List.set_cons_succ]
                          refine wpAnyH_take (i := 13) (v := ?vv13) rfl (by kernel_rfl) (by kernel_rfl) (by kernel_rfl) (fun _ _ _ h => h) (Or.inl ⟨by rfl, ?hy13⟩) (by assumption) ?rest13
                          case hy13 => ((intro w hSw; (try dsimp only at hSw); go_simp) <;> with_reducible rfl)
                          try simp only [List.getElem_toArray, List.getElem_cons_succ, List.getElem_cons_zero, Act.put, List.setIfInBounds_toArray, List.set_cons_zero, List.set_cons_succ]
                          refine wpAnyH_take (i := 14) (v := ?vv14) rfl (by kernel_rfl) (by kernel_rfl) (by kernel_rfl) (fun _ _ _ h => h) (Or.inl ⟨by rfl, ?hy14⟩) (by assumption) ?rest14
                          case hy14 => ((intro w hSw; (try dsimp only at hSw); go_simp) <;> with_reducible rfl)
                          try simp only [List.getElem_toArray, List.getElem_cons_succ, List.getElem_cons_zero, Act.put, List.setIfInBounds_toArray, List.set_cons_zero, List.set_cons_succ]
                          refine wpAnyH_take (i := 15) (v := ?vv15) rfl (by kernel_rfl) (by kernel_rfl) (by kernel_rfl) (fun _ _ _ h => h) (Or.inl ⟨by rfl, ?hy15⟩) (by assumption) ?rest15
                          case hy15 => ((intro w hSw; (try dsimp only at hSw); go_simp) <;> with_reducible rfl)
                          try simp only [List.getElem_toArray, List.getElem_cons_succ, List.getElem_cons_zero, Act.put, List.setIfInBounds_toArray, List.set_cons_zero, List.set_cons_succ]
                          refine wpAnyH_take (i := 16) (v := ?vv16) rfl (by kernel_rfl) (by kernel_rfl) (by kernel_rfl) (fun _ _ _ h => h) (Or.inl ⟨by rfl, ?hy16⟩) (by assumption) ?rest16
                          case hy16 => ((intro w hSw; (try dsimp only at hSw); go_simp) <;> with_reducible rfl)
                          try simp only [List.getElem_toArray, List.getElem_cons_succ, List.getElem_cons_zero, Act.put, List.setIfInBounds_toArray, List.set_cons_zero, List.set_cons_succ]
                          refine wpAnyH_ready (rs := [17]) (by kernel_rfl) (by simp) ?_
                          refine AllReadyH.cons rfl (fun K hK => ?_) AllReadyH.nil
                          go_simp
                          go_at_call 16
                          refine (HF1.out _ hbd).mono ?_
                          rintro e w9 ⟨rfl, hb9'⟩
                          have hb9 : Below wr.heap.size wr w9 := hbr.drew.trans (hb9'.mono hbr.drew.size)
                          refine hK.out _ _ ?hS17 (fun hHeld => ?_)
                          case hS17 =>
                            exact ⟨(hb9.cell (World.block_lt_of_cell? wr _ c1)).trans c1, (hb9.cell (World.block_lt_of_cell? wr _ c2)).trans c2, (hb9.cell (World.block_lt_of_cell? wr _ d1)).trans d1, (hb9.cell (World.block_lt_of_cell? wr _ d2)).trans d2, hb9⟩
                          clear hK K
                          try simp only [List.getElem_toArray, List.getElem_cons_succ, List.getElem_cons_zero, Act.put, List.setIfInBounds_toArray, List.set_cons_zero, List.set_cons_succ]
                          refine wpAnyH_take (i := 18) (v := .bool false) rfl (by kernel_rfl) (by kernel_rfl) (by kernel_rfl) (fun _ _ _ h => h) (Or.inl ⟨by rfl, ?hy18⟩) (by assumption) ?rest18
                          case hy18 => ((intro w hSw; (try dsimp only at hSw); go_simp) <;> with_reducible rfl)
                          try simp only [List.getElem_toArray, List.getElem_cons_succ, List.getElem_cons_zero, Act.put, List.setIfInBounds_toArray, List.set_cons_zero, List.set_cons_succ]
                          refine wpAnyH_take (i := 19) (v := .bool false) rfl (by kernel_rfl) (by kernel_rfl) (by kernel_rfl) (fun _ _ _ h => h) (Or.inl ⟨by rfl, ?hy19⟩) (by assumption) ?rest19
                          case hy19 => ((intro w hSw; (try dsimp only at hSw); go_simp) <;> with_reducible rfl)
                          try simp only [List.getElem_toArray, List.getElem_cons_succ, List.getElem_cons_zero, Act.put, List.setIfInBounds_toArray, List.set_cons_zero, List.set_cons_succ]
                          refine wpAnyH_take (i := 20) (v := undef) rfl (by kernel_rfl) (by kernel_rfl) (by kernel_rfl) (fun _ _ _ h => h) (Or.inr ⟨by rfl, rfl⟩) (by assumption) ?_
                          try simp only [List.getElem_toArray, List.getElem_cons_succ, List.getElem_cons_zero, Act.put, List.setIfInBounds_toArray, List.set_cons_zero, List.set_cons_succ]
                          refine wpAnyH_take (i := 21) (v := undef) rfl (by kernel_rfl) (by kernel_rfl) (by kernel_rfl) (fun _ _ _ h => h) (Or.inr ⟨by rfl, rfl⟩) (by assumption) ?_
                          try simp only [List.getElem_toArray, List.getElem_cons_succ, List.getElem_cons_zero, Act.put, List.setIfInBounds_toArray, List.set_cons_zero, List.set_cons_succ]
                          refine wpAnyH_take (i := 22) (v := undef) rfl (by kernel_rfl) (by kernel_rfl) (by kernel_rfl) (fun _ _ _ h => h) (Or.inr ⟨by rfl, rfl⟩) (by assumption) ?_
                          try simp only [List.getElem_toArray, List.getElem_cons_succ, List.getElem_cons_zero, Act.put, List.setIfInBounds_toArray, List.set_cons_zero, List.set_cons_succ]
                          refine wpAnyH_take (i := 23) (v := undef) rfl (by kernel_rfl) (by kernel_rfl) (by kernel_rfl) (fun _ _ _ h => h) (Or.inr ⟨by rfl, rfl⟩) (by assumption) ?_
                          try simp only [List.getElem_toArray, List.getElem_cons_succ, List.getElem_cons_zero, Act.put, List.setIfInBounds_toArray, List.set_cons_zero, List.set_cons_succ]
                          refine wpAnyH_take (i := 24) (v := undef) rfl (by kernel_rfl) (by kernel_rfl) (by kernel_rfl) (fun _ _ _ h => h) (Or.inr ⟨by rfl, rfl⟩) (by assumption) ?_
                          try simp only [List.getElem_toArray, List.getElem_cons_succ, List.getElem_cons_zero, Act.put, List.setIfInBounds_toArray, List.set_cons_zero, List.set_cons_succ]
                          refine wpAnyH_take (i := 25) (v := undef) rfl (by kernel_rfl) (by kernel_rfl) (by kernel_rfl) (fun _ _ _ h => h) (Or.inr ⟨by rfl, rfl⟩) (by assumption) ?_
                          try simp only [List.getElem_toArray, List.getElem_cons_succ, List.getElem_cons_zero, Act.put, List.setIfInBounds_toArray, List.set_cons_zero, List.set_cons_succ]
                          refine wpAnyH_take (i := 26) (v := .bool false) rfl (by kernel_rfl) (by kernel_rfl) (by kernel_rfl) (fun _ _ _ h => h) (Or.inl ⟨by rfl, ?hy26⟩) (by assumption) ?rest26
                          case hy26 => ((intro w hSw; (try dsimp only at hSw); go_simp) <;> with_reducible rfl)
                          try simp only [List.getElem_toArray, List.getElem_cons_succ, List.getElem_cons_zero, Act.put, List.setIfInBounds_toArray, List.set_cons_zero, List.set_cons_succ]
                          refine wpAnyH_done (by kernel_rfl) ?_ _
                          all_goals
                            have hb9' := HBR.out.trans (hb9.mono HBR.out.size)
                            clear c1 c2 d1 d2 HF1 HF2 hb9
                            go_wp2_with fail
                            go_roundw
                          all_goals first
                            | exact ⟨u + 1, g', a', b', by go_num, by omega, rfl, rfl, rfl, HN, hb9'⟩
                            | (simp [intOf]; omega)
                        case true =>
                          go_wp2_with fail
                          go_region_held3 (fun w' => w'.cell? ⟨bb, oo + i * 2, none⟩ = some (.slice r.sa r.when.length r.cap) ∧ w'.cell? ⟨bb, oo + i * 2 + 1, none⟩ = some (.int .i64 r.to) ∧ w'.cell? ⟨bb, oo + k * 2, none⟩ = some (.slice s'.sa s'.when.length s'.cap) ∧ w'.cell? ⟨bb, oo + k * 2 + 1, none⟩ = some (.int .i64 s'.to) ∧ Below wr.heap.size wr w')
                            (first
                              | (go_keep; done)
                              | (try go_split_ands
                                 refine ⟨?_, ?_, ?_, ?_, ?_⟩
                                 · first | assumption | (go_keep; done)
                                 · first | assumption | (go_keep; done)
                                 · first | assumption | (go_keep; done)
                                 · first | assumption | (go_keep; done)
                                 · repeat' (first | assumption | exact Below.refl _ _ | refine Below.drew ?_ | refine Below.alloc ?_ (Below.size (B := wr.heap.size) ?_) _)))
                            (first
                              | ((go_at_call 16
                                  try go_split_ands
                                  (with_reducible refine (HF1.out _ (HBR.out.trans (Below.mono (by assumption) HBR.out.size))).mono ?_))
                                 rintro e w9 ⟨rfl, hb9'⟩
                                 have hb9 : Below wr.heap.size wr w9 := by
                                   refine Below.trans ?_ (hb9'.mono ?_)
                                   · assumption
                                   · exact Below.size (by assumption)
                                 have hc9a := (hb9.cell (World.block_lt_of_cell? wr _ c1)).trans c1
                                 have hc9b := (hb9.cell (World.block_lt_of_cell? wr _ c2)).trans c2
                                 have hc9c := (hb9.cell (World.block_lt_of_cell? wr _ d1)).trans d1
                                 have hc9d := (hb9.cell (World.block_lt_of_cell? wr _ d2)).trans d2)
                              | ((go_at_call 16
                                  try go_split_ands
                                  (with_reducible refine (HF2.out _ (HBR.out.trans (Below.mono (by assumption) HBR.out.size))).mono ?_))
                                 rintro e w9 ⟨rfl, hb9'⟩
                                 have hb9 : Below wr.heap.size wr w9 := by
                                   refine Below.trans ?_ (hb9'.mono ?_)
                                   · assumption
                                   · exact Below.size (by assumption)
                                 have hc9a := (hb9.cell (World.block_lt_of_cell? wr _ c1)).trans c1
                                 have hc9b := (hb9.cell (World.block_lt_of_cell? wr _ c2)).trans c2
                                 have hc9c := (hb9.cell (World.block_lt_of_cell? wr _ d1)).trans d1
                                 have hc9d := (hb9.cell (World.block_lt_of_cell? wr _ d2)).trans d2))
                          have HB9 := Lib.hid (HBR.out.trans (hb9.mono HBR.out.size))
                          clear c1 c2 d1 d2 HF1 HF2
                          cases f2
                          · have HN := Lib.hid (hitSt_step HHT.out (show hit r s' (u + 1) = hit r s' u by rw [HSU.out]; simp))
                            go_wp2_with fail
                            go_roundw
                            case rel => exact ⟨u + 1, g', a', b', by go_num, by omega, rfl, rfl, rfl, HN, HB9.out⟩
                            case measure => simp [intOf]; omega
                          · have HN := Lib.hid (hitSt_yes (i := i) (k := k) (g := g) (a := a) (b := b) (show hit r s' (u + 1) = true by rw [HSU.out, HDT.out]; simp))
                            go_wp2_with fail
                            go_roundw
                            case rel => exact ⟨u + 1, 0, i, k, by go_num, by omega, rfl, rfl, rfl, HN, HB9.out⟩
                            case measure => simp [intOf]; omega
                    · obtain rfl : B = u := by omega
                      have HN := Lib.hid (HGN.out g' a' b' (by rw [← HFULL.out]; exact hht.out))
                      have HEK2 := HEK.out
                      clear hht hlu hu
                      go_wp2_with fail
                      go_roundw
                      case rel => exact ⟨q + 1, g', a', b', by first | (congr 1; done) | (congr 1; omega), by omega, rfl, rfl, rfl, HN, hb⟩
                      case measure => first | (simp [intOf]; done) | (simp [intOf]; omega)
                · have hqe : q + i + 1 = rs.length := by omega
                  have HN := Lib.hid (gd_iff (P' := fun i' _ => rs.length - (c + 1) ≤ i') hgd.out (fun i' k' h1 h2 => by have := HEI.out; constructor <;> intro h <;> omega))
                  have hneg : (rs.length : Int) - 1 - q = (i : Int) := by omega
                  have HEI2 := HEI.out
                  rw [hneg]
                  clear hgd hqe hneg
                  go_wp2_with fail
                  go_roundw
                  case rel => exact ⟨c + 1, g, a, b, by first | (congr 1; done) | (congr 1; omega), by omega, rfl, rfl, rfl, HN, hb⟩
                  case measure => first | (simp [intOf]; done) | (simp [intOf]; omega)
            · have HGT := Lib.hid (gd_iff (P' := fun _ _ => True) hgd.out (fun i' k' h1 h2 => ⟨fun _ => trivial, fun _ => by omega⟩))
              have hneg : (rs.length : Int) - 1 - c = -1 := by omega
              have HB6 := Lib.hid hb
              rw [hneg]
              clear hgd hneg hlt hc hb
              go_wp2_with fail
              refine (HWH.out _ _ HFD.out wr (HBW.out _ HB6.out)).mono ?_
              rintro e w7 ⟨ev, rfl, hn, hb⟩
              have HN1 := Lib.hid hn
              have HB7 := Lib.hid (HB6.out.trans (hb.mono HB6.out.size))
              clear hn hb
              go_wp2_with fail
              refine (error_same _ _ HN1.out w7 (HG.out.below (HBW.out _ HB7.out))).mono ?_
              rintro e w8 ⟨rfl, hb⟩
              have HB8 := Lib.hid (HB7.out.trans (hb.mono HB7.out.size))
              clear hb
              go_wp2_with fail
              refine (HHO.out w8 (HBW.out _ HB8.out)).mono ?_
              rintro e w9 ⟨ao2, ac2, rfl, hi9, hb⟩
              have HB9 := Lib.hid (HB8.out.trans (hb.mono HB8.out.size))
              have HI9 := Lib.hid hi9
              clear hb hi9
              go_wp2_with fail
              refine (error_same _ 0 (.inl ⟨rfl, rfl⟩) w9 (HG.out.below (HBW.out _ HB9.out))).mono ?_
              rintro e w10 ⟨rfl, hb⟩
              have HB10 := Lib.hid (HB9.out.trans (hb.mono HB9.out.size))
              have HI10 := Lib.hid (HI9.out.below (Nat.le_refl _) hb)
              have HIN := Lib.hid (show Calls Tryd.prog 17 #[.slice ao2 L.length ac2, .slice ao L.length ac] w10 (fun e w' => e = .returned (.bool true) ∧ Below w10.heap.size w10 w') from (Ints_any L L ao2 ao ac2 ac w10 HI10.out (HIA.out w10 HB10.out) (by unfold maxLen; omega)).mono fun e w' ⟨h, nq, hw⟩ => ⟨by rw [h]; simp, by rw [hw]; exact below_drewN (Below.refl _ _) nq⟩)
              clear hb
              go_wp2_with fail
              refine HIN.out.mono ?_
              rintro e w11 ⟨rfl, hb⟩
              have HB11 := Lib.hid (HB10.out.trans (hb.mono HB10.out.size))
              clear hb
              go_wp2_with fail
              refine (HCL.out _ _ _ HGT.out w11 (HBW.out _ HB11.out)).mono ?_
              rintro e w12 ⟨ev2, rfl, hn, hb⟩
              have HN2 := Lib.hid hn
              have HB12 := Lib.hid (HB11.out.trans (hb.mono HB11.out.size))
              clear hn hb
              go_wp2_with fail
              refine (error_same _ _ HN2.out w12 (HG.out.below (HBW.out _ HB12.out))).mono ?_
              rintro e w13 ⟨rfl, hb⟩
              have HB13 := Lib.hid (HB12.out.trans (hb.mono HB12.out.size))
              clear hb
              go_wp2_with fail
              go_ret
              exact ⟨by simp, HBW.out _ HB13.out⟩
  case inr => exact absurd ⟨by omega, by omega⟩ HRG.out
end Go.Proofs.YtpmfpegjkfnnkaaDoor
