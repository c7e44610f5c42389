import Derived.Test.YtidmfodbmmkcmaaC
import Derived.Deep.RegionHeld3
import Derived.Deep.AppendLies
namespace Go.Proofs.Ytidmfodbmmkcmaa
open Go.RowKit Go.Mine Go.Mine.Hada

def smallTo (f : Nat → Int) (j : Nat) : Prop := ∀ i, i < j → -1099511627776 ≤ f i ∧ f i ≤ 1099511627776
theorem R_succ (h : Nat → Int) (n : Nat) : R h (n + 1) = R h n ++ [.int .i64 (wrap64 (h n))] := by
  unfold R
  rw [List.range_succ, List.map_append]
  rfl
theorem wrap_eq (z : Int) : IntKind.i64.wrap z = wrap64 z := IntWalk.i64_left z
set_option maxRecDepth 100000 in
set_option maxHeartbeats 2000000 in
theorem back_law (k : Nat) (xs : List Int) (ao : Option Addr) (cap : Nat) (ys : List Int) (bo : Option Addr) (cap2 : Nat) (W : World) (hx : IntsAt .i64 W ao xs) (hy : IntsAt .i64 W bo ys) (hk : k ≤ 6) (hl : xs.length = 2 ^ k)
    (hw : ∀ j, wrap64 (xs.getD j 0) = xs.getD j 0) (hw2 : ∀ j, wrap64 (ys.getD j 0) = ys.getD j 0) :
    Calls Try.prog 3 #[.int .i64 k, .slice ao xs.length cap, .slice bo ys.length cap2] W fun e w' => e = .returned (.bool true) ∧ Below W.heap.size W w' := by
  obtain ⟨i0, hi0, hz0, hz1, hz2⟩ := info_parts info3
  obtain ⟨n, hn⟩ : ∃ n, n = xs.length := ⟨_, rfl⟩
  obtain ⟨f, hf⟩ : ∃ f : Nat → Int, f = fun j => xs.getD j 0 := ⟨_, rfl⟩
  have hn64 := pow_le hk
  rw [← hl, ← hn] at hn64
  have hn1 : 0 < n := by rw [hn, hl]; exact Nat.two_pow_pos k
  have HE1 := Lib.hid (fun w h => effects_ok k xs ao cap w h hk hl hw)
  have hAl : (vals (G k f) n).length = 2 ^ k := by rw [vals_len, hn, hl]
  have HE2 := Lib.hid (fun w a c h => effects_ok k (vals (G k f) n) a c w h hk hAl (vals_wrap _ _))
  have HB := Lib.hid (fun w a c h => back_any k (vals (G k f) n) a c w h hk hAl (vals_wrap _ _))
  have hsb := small_back k xs n (by rw [hn, hl]) hk hn.symm
  rw [← hf] at hsb
  have HSB := Lib.hid hsb
  clear hsb
  simp only [vals_len] at HE2 HB
  rw [← hn, ← hf] at HE1
  have hfj : ∀ j, xs.getD j 0 = f j := fun j => by rw [hf]
  simp only [hfj] at HSB
  have HXA := Lib.hid (show ∀ w, IntsAt .i64 w ao xs → ∀ j, j < n → ∃ b o, ao = some ⟨b, o, none⟩ ∧ w.cell? ⟨b, o + j, none⟩ = some (.int .i64 (f j)) from fun w h j hj => by
    have := h j (by omega); rw [hfj] at this; exact this)
  have HI := Lib.hid (fun w a b c d hc hd => Ints_any xs xs a b c d w hc hd (by unfold maxLen; omega))
  have HI2 := Lib.hid (fun zs w a b c d hc hd (hz : zs.length ≤ maxLen) => Ints_any zs xs a b c d w hc hd hz)
  rw [← hn] at HI HI2
  rw [← hn]
  have HX := Lib.hid hx
  have HY := Lib.hid hy
  have HW2 := Lib.hid hw2
  have hGB : ∀ j, j < n → wrap64 (G k (fun j => (vals (G k f) n).getD j 0) j) = wrap64 (n * f j) := fun j hj => by
    rw [G_vals k _ n j (by rw [hn, hl]) hj, G_twice k f j (by rw [← hl, ← hn]; exact hj), hn, hl]; simp
  have HGB := Lib.hid hGB
  have HL := Lib.hid (show n = 2 ^ k by rw [hn, hl])
  have HFW := Lib.hid (show ∀ j, wrap64 (f j) = f j from fun j => by rw [← hfj]; exact hw j)
  clear hx hl hw hAl hf hfj hGB hn hy hw2
  go_enter Try.func3, Try.ntmps3
  go_wp2_with fail
  refine (halved_any W).mono ?_
  rintro e w1 ⟨rfl, hb1⟩
  have hx1 := HX.out.below (Nat.le_refl _) hb1
  have HX1 := Lib.hid hx1
  clear hx1
  go_wp2_with fail
  refine (HE1.out _ HX1.out).mono ?_
  rintro e w2 ⟨ga, ca, rfl, hA, hb2⟩
  have hb12 := hb1.trans (hb2.mono hb1.size)
  rw [R_vals] at hA
  have hxa2 := IntsAt.of_owns hA
  have HXA2 := Lib.hid hxa2
  clear hA hxa2 HX1 hb1 hb2
  go_wp2_with fail
  refine (HE2.out _ _ _ HXA2.out).mono ?_
  rintro e w3 ⟨gb, cb, rfl, hB, hb3⟩
  have hb13 := hb12.trans (hb3.mono hb12.size)
  have hxa3 := HXA2.out.below (Nat.le_refl _) hb3
  have HXA3 := Lib.hid hxa3
  have HOB3 := Lib.hid hB
  clear hB hxa3 HXA2 hb12 hb3
  go_wp2_with fail
  refine (HB.out _ _ _ HXA3.out).mono ?_
  rintro e w4 ⟨hb4, hback⟩
  have hb14 := hb13.trans (hb4.mono hb13.size)
  have hob4 := owns_below HOB3.out hb4
  have hxa4 := HXA3.out.below (Nat.le_refl _) hb4
  have HXA4 := Lib.hid hxa4
  have HX4 := Lib.hid (HX.out.below (Nat.le_refl _) hb14)
  have HBC := Lib.hid (show ∀ j, j < n → w4.cell? ⟨gb, j, none⟩ = some (.int .i64 (wrap64 (n * f j))) from fun j hj => by rw [hob4.cellAt _ (by omega), R_at _ hj, HGB.out j hj])
  clear hb13 hb4 HXA3 HOB3 hxa4 hob4
  have hcase : ∃ cv ce : Value, e = .returned (.tuple #[cv, ce]) ∧ (∃ co cc zs, cv = .slice co zs.length cc ∧ IntsAt .i64 w4 co zs ∧ zs.length ≤ maxLen ∧ (smallTo f n → zs = xs ∧ ce = .nilIface)) := by
    rcases hback with ⟨⟨j, hj, hbad⟩, rfl⟩ | ⟨_, g9, c9, rfl, ho9⟩
    · exact ⟨_, _, rfl, none, 0, [], rfl, IntsAt.nil _ _ _, Nat.zero_le _, fun hs => absurd ((HSB.out hs).1 j hj) hbad⟩
    · by_cases hs : smallTo f n
      · rw [(HSB.out hs).2] at ho9
        have hl9 := ho9.1
        simp at hl9
        exact ⟨_, _, rfl, _, c9, xs, by rw [hl9], IntsAt.of_owns ho9, by unfold maxLen; omega, fun _ => ⟨rfl, rfl⟩⟩
      · rw [R_vals] at ho9
        exact ⟨_, _, rfl, _, c9, _, by rw [vals_len], IntsAt.of_owns ho9, by rw [vals_len]; unfold maxLen; omega, fun h => absurd h hs⟩
  obtain ⟨cv, ce, rfl, co, cc, zs, rfl, hzs, hzl, hzz⟩ := hcase
  clear hback
  have HZ := Lib.hid hzs
  have HZZ := Lib.hid hzz
  clear hzs hzz
  go_wp2_with fail
  go_loopw [14, 15] (fun sm i wr => ∃ (j nq : Nat) (t : Bool), sm = .bool t ∧ i = .int .i64 j ∧ j ≤ n ∧ (t = true → smallTo f j) ∧ wr = w4.drewN nq) (fun _ i _ => n - (intOf i).toNat)
  case atStart => exact ⟨0, 0, true, rfl, rfl, by omega, fun _ i hi => by omega, (drewN_zero _).symm⟩
  case round =>
    obtain ⟨j, nq, t, rfl, rfl, hj, ht, rfl⟩ := hrel
    have HT := Lib.hid ht; clear ht
    by_cases hjn : j < n
    · obtain ⟨b, o, rfl, hc⟩ := HXA.out _ HX4.out j hjn
      have hcb := HBC.out j hjn
      obtain ⟨x, hx⟩ : ∃ x, x = f j := ⟨_, rfl⟩
      rw [← hx] at hc hcb
      have HXX := Lib.hid hx; clear hx
      have hstep : t = true → -1099511627776 ≤ x → x ≤ 1099511627776 → smallTo f (j + 1) := fun h1 h2 h3 i hi => by
        by_cases e : i = j
        · subst e; rw [← HXX.out]; exact ⟨h2, h3⟩
        · exact HT.out h1 i (by omega)
      have HST := Lib.hid hstep; clear hstep
      cases t
      · go_wp2_with fail
        go_quiet (fail)
        go_wp2_with fail
        go_roundw
        case rel => exact ⟨j + 1, _, false, rfl, by go_num, by omega, by simp, rfl⟩
        case measure => simp [intOf]; omega
      · by_cases h1 : -1099511627776 ≤ x
        · by_cases h2 : x ≤ 1099511627776
          · go_wp2_with fail
            go_quiet (fail)
            go_wp2_with fail
            go_roundw
            case rel => exact ⟨j + 1, _, true, rfl, by go_num, by omega, fun _ => HST.out (by first | trivial | rfl) h1 h2, rfl⟩
            case measure => simp [intOf]; omega
          · have hd2 : decide (x ≤ 1099511627776) = false := by simp; omega
            go_wp2_with fail
            go_quiet (fail)
            go_wp2_with fail
            go_roundw
            case rel => exact ⟨j + 1, _, false, rfl, by go_num, by omega, by simp, rfl⟩
            case measure => simp [intOf]; omega
        · go_wp2_with fail
          go_quiet (fail)
          go_wp2_with fail
          go_roundw
          case rel => exact ⟨j + 1, _, false, rfl, by go_num, by omega, by simp, rfl⟩
          case measure => simp [intOf]; omega
    · have hjn' : j = n := by omega
      subst hjn'
      go_wp2_with fail
      refine (HI2.out zs _ co ao cc cap (HZ.out.drewN nq) (HX4.out.drewN nq) hzl).mono ?_
      rintro e w5 ⟨rfl, nq2, rfl⟩
      have hb5 : Below W.heap.size W ((w4.drewN nq).drewN nq2) := below_drewN (below_drewN hb14 _) _
      have HY5 := Lib.hid (HY.out.below (Nat.le_refl _) hb5)
      have HX5 := Lib.hid (HX.out.below (Nat.le_refl _) hb5)
      have HA5 := Lib.hid (show IntsAt .i64 ((w4.drewN nq).drewN nq2) (some ⟨ga, 0, none⟩) (vals (G k f) j) from HXA4.out)
      have HB5 := Lib.hid hb5
      clear hb5
      obtain ⟨w5, hw5⟩ : ∃ w5, w5 = (w4.drewN nq).drewN nq2 := ⟨_, rfl⟩
      rw [← hw5] at HY5 HX5 HA5 HB5 ⊢
      clear hw5
      have hrest : (t = true → decide (zs = xs) = true ∧ ce = .nilIface) := fun h => by
        obtain ⟨hz1, hz2⟩ := HZZ.out (HT.out h)
        exact ⟨by rw [hz1]; simp, hz2⟩
      have HRE := Lib.hid hrest
      clear hrest
      obtain ⟨dz, hdz⟩ : ∃ dz, dz = decide (zs = xs) := ⟨_, rfl⟩
      rw [← hdz] at HRE ⊢
      clear hdz
      by_cases hym : ys.length = 2 ^ k
      · have hyn : ys.length = j := by rw [hym, HL.out]
        have he4 := effects_ok k ys bo cap2 w5 HY5.out hk hym HW2.out
        rw [hyn] at he4 ⊢
        obtain ⟨fm, hfm⟩ : ∃ fm : Nat → Int, fm = fun i => ys.getD i 0 := ⟨_, rfl⟩
        rw [← hfm] at he4
        have HYA := Lib.hid (show ∀ w, IntsAt .i64 w bo ys → ∀ r, r < j → ∃ b o, bo = some ⟨b, o, none⟩ ∧ w.cell? ⟨b, o + r, none⟩ = some (.int .i64 (fm r)) from fun w h r hr => by rw [hfm]; exact h r (by omega))
        have HE4 := Lib.hid he4
        clear he4 hfm hyn hym
        rcases (show t = false ∨ (t = true ∧ dz = true ∧ ce = .nilIface) from by
          cases t
          · exact .inl rfl
          · exact .inr ⟨rfl, HRE.out rfl⟩) with rfl | ⟨rfl, rfl, rfl⟩
        all_goals
          go_wp2_with fail
          refine HE4.out.mono ?_
          rintro e w6 ⟨gd, cd, rfl, hD, hb6⟩
          have HB6 := Lib.hid (HB5.out.trans (hb6.mono HB5.out.size))
          rw [R_vals] at hD
          have HD6 := Lib.hid (IntsAt.of_owns hD)
          have HA6 := Lib.hid (HA5.out.below (Nat.le_refl _) hb6)
          have HX6 := Lib.hid (HX.out.below (Nat.le_refl _) HB6.out)
          have HY6 := Lib.hid (HY.out.below (Nat.le_refl _) HB6.out)
          clear hD hb6
          go_wp2_with fail
          go_loopw [19, 20, 21] (fun p q i wr => ∃ r : Nat, r ≤ j ∧ i = .int .i64 r ∧ wr.ownsRow w6.heap.size 3 1 p r (R (fun i => f i + fm i) r) ∧ wr.ownsRow w6.heap.size 3 1 q r (R (fun i => G k f i + G k fm i) r) ∧ Apart p q ∧ Below w6.heap.size w6 wr) (fun _ _ i _ => j - (intOf i).toNat)
          case atStart => exact ⟨0, by omega, rfl, World.ownsRow_nil _ _ _ _, World.ownsRow_nil _ _ _ _, fun g hg => by simp [Value.ownBlock] at hg, Below.refl _ _⟩
          case round =>
            obtain ⟨r, hr, rfl, hp, hq, hap, hbr⟩ := hrel
            by_cases hrj : r < j
            · obtain ⟨b1, o1, rfl, hc1⟩ := HXA.out _ (HX6.out.below (Nat.le_refl _) hbr) r hrj
              obtain ⟨b2, o2, rfl, hc2⟩ := HYA.out _ (HY6.out.below (Nat.le_refl _) hbr) r hrj
              have hl1 : b1 < w6.heap.size := by
                obtain ⟨b', o', h1, h2⟩ := HXA.out _ HX6.out r hrj
                simp only [Option.some.injEq, Addr.mk.injEq, and_true] at h1
                obtain ⟨rfl, rfl⟩ := h1
                exact World.block_lt_of_cell? _ _ h2
              have hl2 : b2 < w6.heap.size := by
                obtain ⟨b', o', h1, h2⟩ := HYA.out _ HY6.out r hrj
                simp only [Option.some.injEq, Addr.mk.injEq, and_true] at h1
                obtain ⟨rfl, rfl⟩ := h1
                exact World.block_lt_of_cell? _ _ h2
              have ap1 := fun h => Nat.not_lt.2 (hp.lt b1 h).1 hl1
              have ap2 := fun h => Nat.not_lt.2 (hp.lt b2 h).1 hl2
              have hsr := hbr.size
              obtain ⟨x, hx⟩ : ∃ x, x = f r := ⟨_, rfl⟩
              obtain ⟨y, hy⟩ : ∃ y, y = fm r := ⟨_, rfl⟩
              rw [← hx] at hc1
              rw [← hy] at hc2
              have HXr := Lib.hid hx
              have HYr := Lib.hid hy
              clear hx hy
              go_wp2_with fail
              go_region_held3 (fun w' => w'.cell? ⟨b1, o1 + r, none⟩ = some (.int .i64 x) ∧ w'.cell? ⟨b2, o2 + r, none⟩ = some (.int .i64 y))
                (first
                  | go_keep
                  | (go_split_ands
                     refine ⟨?_, ?_⟩
                     · (rw [hgrow.cell_far _ (by simp; omega) (Ne.symm ap1)]; assumption)
                     · (rw [hgrow.cell_far _ (by simp; omega) (Ne.symm ap2)]; assumption)))
                ((refine step_append_lies _ (by rfl) _ _ _ (by rfl) w6.heap.size 3 i0 _ 1 8 Try.underlying22 hi0 hz0 hz1 hz2 rfl (by omega) _ r _ (by rfl) ((hp.alloc _).drew) ⟨wr.heap.size, 0, none⟩ 1 1 [.int .i64 (IntKind.i64.wrap (x + y))] (by rfl) (by rfl) (World.news_of_block (cs := #[.int .i64 (IntKind.i64.wrap (x + y))]) (t := 3) (fr := (0, 0)) (heap_alloc_new wr _)) (by simp [Value.oneCell']) (by omega) (by unfold maxLen; omega) (by omega) (by simp; omega) (wr.heap.size + 1) (by simp) ?_; intro gg cap w7 hown7 hgrow hat hlt))
              rw [wrap_eq, HXr.out, HYr.out] at hown7
              have hgs7 : (wr.alloc (.cells #[.int .i64 (IntKind.i64.wrap (x + y))] 3)).heap.size ≤ w7.heap.size := hgrow.size
              have hb7 : Below w6.heap.size w6 w7 := (hbr.alloc hsr _).drew.grown hgrow (by simp; omega) (fun g hg => (hp.lt g hg).1)
              have hq7 := owns_apart (hq.alloc (.cells #[.int .i64 (IntKind.i64.wrap (x + y))] 3)).drew hgrow hap
              have hap7 : Apart (.slice (some ⟨gg, 0, none⟩) (r + 1) cap) _ := hap.grown hq (hat.elim .inl (fun h => .inr (by omega)))
              clear hp hap hgrow hq hat hc1 hc2 ap1 ap2
              have hc3 := HA6.out.below (Nat.le_refl _) hb7 r (by rw [vals_len]; exact hrj)
              obtain ⟨b3, o3, h3, hc3⟩ := hc3
              simp only [Option.some.injEq, Addr.mk.injEq, and_true] at h3
              obtain ⟨rfl, rfl⟩ := h3
              have hc4 := HD6.out.below (Nat.le_refl _) hb7 r (by rw [vals_len]; exact hrj)
              obtain ⟨b4, o4, h4, hc4⟩ := hc4
              simp only [Option.some.injEq, Addr.mk.injEq, and_true] at h4
              obtain ⟨rfl, rfl⟩ := h4
              have hl3 : ga < w6.heap.size := by
                obtain ⟨b', o', h1, h2⟩ := HA6.out r (by rw [vals_len]; exact hrj)
                simp only [Option.some.injEq, Addr.mk.injEq, and_true] at h1
                obtain ⟨rfl, rfl⟩ := h1
                exact World.block_lt_of_cell? _ _ h2
              have hl4 : gd < w6.heap.size := by
                obtain ⟨b', o', h1, h2⟩ := HD6.out r (by rw [vals_len]; exact hrj)
                simp only [Option.some.injEq, Addr.mk.injEq, and_true] at h1
                obtain ⟨rfl, rfl⟩ := h1
                exact World.block_lt_of_cell? _ _ h2
              rw [vals_at, if_pos hrj, Nat.zero_add] at hc3 hc4
              obtain ⟨x', hx'⟩ : ∃ x', x' = wrap64 (G k f r) := ⟨_, rfl⟩
              obtain ⟨y', hy'⟩ : ∃ y', y' = wrap64 (G k fm r) := ⟨_, rfl⟩
              rw [← hx'] at hc3
              rw [← hy'] at hc4
              have HX' := Lib.hid hx'
              have HY' := Lib.hid hy'
              clear hx' hy'
              have hs7 := hb7.size
              have ap3 := fun h => Nat.not_lt.2 (hq7.lt ga h).1 hl3
              have ap4 := fun h => Nat.not_lt.2 (hq7.lt gd h).1 hl4
              go_wp2_with fail
              go_region_held3 (fun w' => w'.cell? ⟨ga, r, none⟩ = some (.int .i64 x') ∧ w'.cell? ⟨gd, r, none⟩ = some (.int .i64 y'))
                (first
                  | go_keep
                  | (go_split_ands
                     refine ⟨?_, ?_⟩
                     · (rw [hgrow2.cell_far _ (by simp; omega) (Ne.symm ap3)]; assumption)
                     · (rw [hgrow2.cell_far _ (by simp; omega) (Ne.symm ap4)]; assumption)))
                ((refine step_append_lies _ (by rfl) _ _ _ (by rfl) w6.heap.size 3 i0 _ 1 8 Try.underlying22 hi0 hz0 hz1 hz2 rfl (by omega) _ r _ (by rfl) ((hq7.alloc _).drew) ⟨w7.heap.size, 0, none⟩ 1 1 [.int .i64 (IntKind.i64.wrap (x' + y'))] (by rfl) (by rfl) (World.news_of_block (cs := #[.int .i64 (IntKind.i64.wrap (x' + y'))]) (t := 3) (fr := (0, 0)) (heap_alloc_new w7 _)) (by simp [Value.oneCell']) (by omega) (by unfold maxLen; omega) (by omega) (by simp; omega) (w7.heap.size + 1) (by simp) ?_; intro gg2 cap2 w8 hown8 hgrow2 hat2 hlt2))
              rw [wrap_eq, HX'.out, HY'.out, wrap_wrap_add] at hown8
              have hb8 : Below w6.heap.size w6 w8 := (hb7.alloc (by omega) _).drew.grown hgrow2 (by simp; omega) (fun g hg => (hq7.lt g hg).1)
              have hp8 := owns_apart (hown7.alloc (.cells #[.int .i64 (IntKind.i64.wrap (x' + y'))] 3)).drew hgrow2 hap7.symm
              have hap8 := (hap7.symm.grown hown7 (n := r + 1) (cap := cap2) (hat2.elim .inl (fun h => .inr (by omega)))).symm
              clear hap7 hgrow2 hq7 hat2 hc3 hc4 ap3 ap4 hown7
              go_wp2_with fail
              go_roundw
              case rel =>
                refine ⟨r + 1, by omega, by go_num, ?_, ?_, hap8, hb8⟩
                · rw [R_succ]; exact hp8
                · rw [R_succ]; exact hown8
              case measure => simp [intOf]; omega
            · have hrj' : r = j := by omega
              subst hrj'
              obtain ⟨po, pc, hpe⟩ := owns_shape hp
              obtain ⟨qo, qc, hqe⟩ := owns_shape hq
              subst hpe
              subst hqe
              rw [R_vals] at hp hq
              have hip := IntsAt.of_owns hp
              have hiq := IntsAt.of_owns hq
              have he5 := effects_ok k (vals (fun i => f i + fm i) r) po pc wr hip hk (by rw [vals_len]; exact HL.out) (vals_wrap _ _)
              rw [vals_len, R_vals, vals_congr (h' := fun i => G k f i + G k fm i) fun i hi => by rw [G_vals k _ r i HL.out hi, G_add]] at he5
              have HE5 := Lib.hid he5
              have HIQ := Lib.hid hiq
              have HB9 := Lib.hid (HB6.out.trans (hbr.mono HB6.out.size))
              clear hp hq hip hiq he5 hap hbr
              go_wp2_with fail
              refine HE5.out.mono ?_
              rintro e w9 ⟨gf, cf, rfl, hF, hb9⟩
              have hif := IntsAt.of_owns hF
              have hiq9 := HIQ.out.below (Nat.le_refl _) hb9
              have hint := Ints_any _ _ (some ⟨gf, 0, none⟩) qo cf qc w9 hif hiq9 (by rw [vals_len]; unfold maxLen; omega)
              simp only [vals_len, decide_true] at hint
              have HINT := Lib.hid hint
              have HB10 := Lib.hid (HB9.out.trans (hb9.mono HB9.out.size))
              clear hF hif hiq9 hint hb9
              go_wp2_with fail
              refine HINT.out.mono ?_
              rintro e w10 ⟨rfl, nq3, rfl⟩
              go_wp2_with fail
              go_ret
              exact ⟨rfl, below_drewN HB10.out _⟩
      · cases t
        · go_wp2_with fail
          refine (effects_form k bo ys.length cap2 _ hk hym).mono ?_
          rintro e w6 ⟨rfl, rfl⟩
          go_wp2_with fail
          go_ret
          exact ⟨rfl, HB5.out⟩
        · obtain ⟨rfl, rfl⟩ := HRE.out rfl
          go_wp2_with fail
          refine (effects_form k bo ys.length cap2 _ hk hym).mono ?_
          rintro e w6 ⟨rfl, rfl⟩
          go_wp2_with fail
          go_ret
          exact ⟨rfl, HB5.out⟩
end Go.Proofs.Ytidmfodbmmkcmaa
