/- FlowTells' walk. CONDITION: errors.errorType holds what start-up lays there. -/
import Derived.Test.YtobhclmibmpffaaDoorG
import Derived.Test.YtobhclmibmpffaaDoorMore
import Derived.Deep.QuietTactic
import Derived.BigQuiet
import Derived.Deep.Cut
import Derived.Deep.CutBlock
import Derived.Deep.CutRange
namespace Go.Proofs.YtobhclmibmpffaaDoor
open Go.RowKit Go.Mine Go.Deep Go.Mine.Flow

theorem info35 : (Tryd.prog.info? 35).map (fun i => (i.zero, i.size, i.bytes)) = some (some (.agg #[.int .i64 0, .int .i64 0]), 2, 16) := by kernel_rfl
set_option maxHeartbeats 4000000 in
set_option maxRecDepth 100000 in
theorem flowTells_any (n : Int) (es : List (Int × Int)) (i : Int) (way : List Int) (lo wo : Option Addr) (lc wc0 : Nat) (W : World) (hg : Laid W) (hx : PairsAt W lo es) (hn : lo = none → es.length = 0) (hl : es.length ≤ maxLen) (hw : IntsAt .i64 W wo way) (hwl : way.length ≤ maxLen) :
    Calls Tryd.prog 3 #[.int .i64 n, .slice lo es.length lc, .int .i64 i, .slice wo way.length wc0] W fun e w' => e = .returned (.bool true) ∧ Below W.heap.size W w' := by
  obtain ⟨i0, hi0, hz0, hz1, hz2⟩ := info_parts info3
  obtain ⟨i1, hi1, hy0, hy1, hy2⟩ := info_parts info35
  have HB := Lib.hid (show ∀ w, Below W.heap.size W w → Laid w ∧ PairsAt w lo es ∧ IntsAt .i64 w wo way from fun w hb => ⟨hg.below hb, hx.below (Nat.le_refl _) hb, hw.below (Nat.le_refl _) hb⟩)
  have HL := Lib.hid hl
  have HWL := Lib.hid hwl
  have HN := Lib.hid hn
  have hl2 := hl
  have hwl2 := hwl
  unfold maxLen at hl2 hwl2
  clear hg hx hw hn hl hwl
  have HFT := Lib.hid (flowed_true W)
  go_enter Tryd.func3, Tryd.ntmps3
  go_wp2_with fail
  refine HFT.out.mono ?_
  rintro e w1 ⟨rfl, hb1⟩
  have HEF := Lib.hid (edgeFault_any n es lo lc w1 (HB.out w1 hb1).2.1 HL.out)
  have HCK := Lib.hid (check_any n es lo lc w1 (HB.out w1 hb1).2.1 HL.out)
  have HB1 := Lib.hid hb1
  clear HFT hb1
  go_wp2_with fail
  refine HEF.out.mono ?_
  rintro e w1' ⟨rfl, rfl⟩
  clear HEF
  go_wp2_with fail
  refine HCK.out.mono ?_
  rintro e w2 ⟨hp, hb2⟩
  clear HCK
  have hb2' := HB1.out.trans (hb2.mono HB1.out.size)
  have HB2 := Lib.hid hb2'
  obtain ⟨x, rfl, hxn⟩ : ∃ x, e = .returned x ∧ Num x (efault n es) := by
    rcases hp with ⟨h, rfl⟩ | ⟨h, rfl⟩
    · exact ⟨_, rfl, by rw [efault_ok h]; exact Num.nil⟩
    · exact ⟨_, rfl, Num.err _⟩
  have HER := Lib.hid (error_is x _ (efault n es) hxn w2 (HB.out w2 hb2').1)
  clear hp hb2 hb2' hxn HB1
  go_wp2_with fail
  refine HER.out.mono ?_
  rintro e w3 ⟨rfl, hb3⟩
  rw [eqself]
  have HB3 := Lib.hid (HB2.out.trans (hb3.mono HB2.out.size))
  clear HER hb3 HB2
  obtain ⟨c, hc⟩ : ∃ c, c = efault n es := ⟨_, rfl⟩
  rw [← hc]
  have HC := Lib.hid hc
  clear hc
  go_upto_if 46 with fail
  go_cut [12, 13, 14, 15, 16] from 47 to 186 (fun fv gv rv ov lv wx => ∃ (f g : Int) (zr zo : List Int) (zl : List (Int × Int)) (ar ao al : Option Addr) (cr co cl : Nat), fv = .int .i64 f ∧ gv = .int .i64 g ∧ rv = .slice ar zr.length cr ∧ ov = .slice ao zo.length co ∧ lv = .slice al zl.length cl ∧ zr.length ≤ 12 ∧ zo.length ≤ 12 ∧ zl.length ≤ 30 ∧ RowKit.Hid (RR n es zr) ∧ RowKit.Hid (FR n es i f zo) ∧ RowKit.Hid (GR n es way g zl) ∧ RowKit.Hid (Below W.heap.size W wx ∧ IntsAt .i64 wx ar zr ∧ IntsAt .i64 wx ao zo ∧ PairsAt wx al zl))
  case first =>
    by_cases hok : ok n es
    · obtain ⟨N, rfl⟩ : ∃ N : Nat, n = N := ⟨n.toNat, by have := hok.1; omega⟩
      have he : c = 0 := HC.out.trans (efault_ok hok)
      have hn1 : 1 ≤ N := by have := hok.1; omega
      have hn2 : N ≤ 12 := by have := hok.2.1; omega
      have hl30 : es.length ≤ 30 := hok.2.2.1
      have HRO := Lib.hid (fun but w (hx : PairsAt w lo es) => reachOf_any es lo lc but N w hx hok.2.2.2 hn2 hn1 hl30)
      have HRM := Lib.hid (HRO.out (-1) w3 (HB.out w3 HB3.out).2.1)
      have HOK := Lib.hid hok
      subst he
      clear hok
      go_upto_block 0 with fail
      refine HRM.out.mono ?_
      clear HRM
      rintro e w4 ⟨ys, rfl, hyl, hown, hyR, hb4⟩
      have HYR := Lib.hid hyR
      have HB4 := Lib.hid (HB3.out.trans (hb4.mono HB3.out.size))
      have HME := Lib.hid (show ∀ w, Below w4.heap.size w4 w → ∀ v, v < N → w.cell? ⟨w3.heap.size, v, none⟩ = some (.bool (ys.getD v false)) from fun w hb v hv =>
        (hb.cell (p := ⟨w3.heap.size, v, none⟩) (hown.lt w3.heap.size rfl).2).trans (by rw [hown.cellAt v (by omega)]; simp [hyl, hv]))
      clear hyl hown hyR hb4
      go_upto_block 0 with fail
      go_cut [14] from 50 to 62 (fun rv wx => ∃ ar cr, rv = .slice ar (reached (nat es) N).length cr ∧ RowKit.Hid (IntsAt .i64 wx ar (reached (nat es) N)) ∧ RowKit.Hid (Below w4.heap.size w4 wx))
      case first =>
        go_wp2_with fail
        go_loopw [14, 18] (fun v i wr => ∃ k : Nat, i = .int .i64 k ∧ k ≤ N ∧ wr.ownsRow w4.heap.size 3 1 v (marked ys k).length ((marked ys k).map (Value.int .i64)) ∧ Below w4.heap.size w4 wr) (fun _ i _ => N - (intOf i).toNat)
        case atStart => exact ⟨0, rfl, by omega, World.ownsRow_nil _ _ _ _, Below.refl _ _⟩
        case round =>
          obtain ⟨k, rfl, hk, hv, hb⟩ := hrel
          have hml := marked_len ys k
          by_cases hkn : k < N
          · have hc := HME.out wr hb k hkn
            have hms : marked ys (k + 1) = marked ys k ++ (if ys.getD k false = true then [(k : Int)] else []) := rfl
            have hsz := hb.size
            cases hm : ys.getD k false
            · rw [hm] at hc hms
              have HMS := Lib.hid (show marked ys (k + 1) = marked ys k by rw [hms]; simp)
              clear hms hm
              go_wp2_with fail
              go_roundw
              case rel => exact ⟨k + 1, by go_num, by omega, by rw [HMS.out]; exact hv, hb⟩
              case measure => simp [intOf]; omega
            · rw [hm] at hc hms
              have HMS := Lib.hid (show marked ys (k + 1) = marked ys k ++ [(k : Int)] by rw [hms]; simp)
              clear hms hm
              go_wp2_with (at_builtin; refine wpList_push _ rfl _ _ 23 rfl w4.heap.size 3 i0 (.int .i64 0) 1 8 Tryd.underlying23 hi0 hz0 hz1 hz2 rfl (by decide) _ _ _ rfl (hv.alloc _) ⟨wr.heap.size, 0, none⟩ 1 [.int .i64 k] rfl rfl (cell_one_new _ _ _) (one1 _ _) (by unfold maxLen; omega) (by omega) (by simp; omega) ?_)
              intro g1 cap w5 hv3 hg3
              have hb3 := (hb.alloc hsz (.cells #[.int .i64 k] 3)).grown hg3 (by simp; omega) (fun k hk => (hv.lt k hk).1)
              clear hv hb hg3
              go_wp2_with fail
              go_roundw
              case rel => exact ⟨k + 1, by go_num, by omega, by rw [HMS.out, List.map_append, List.length_append]; exact hv3, hb3⟩
              case measure => simp [intOf]; omega
          · have hkn' : k = N := by omega
            subst hkn'
            obtain ⟨ao, cap, hve⟩ := owns_shape hv
            subst hve
            have hz := IntsAt.of_owns hv
            have hmr : marked ys k = reached (nat es) k := marked_reached HYR.out k
            rw [hmr] at hz ⊢
            have HZ := Lib.hid hz
            have HBB := Lib.hid hb
            clear hz hb hv hml hmr
            go_wp2_with fail
            go_meet
            exact ⟨ao, cap, rfl, HZ, HBB⟩
      case rest =>
        obtain ⟨ar, cr, rfl, hz, hb⟩ := hcut
        obtain ⟨w5, hw5⟩ : ∃ w5, w5 = wc := ⟨_, rfl⟩
        subst hw5
        have HZR := Lib.hid hz.out
        have HB5 := Lib.hid hb.out
        clear hz hb
        go_upto_region 16 with fail
        go_cut [69] from 63 to 69 (fun bv wx => ∃ b : Bool, bv = .bool b ∧ RowKit.Hid (b = true ↔ ¬ (0 ≤ i ∧ i < (N : Int))) ∧ wx = w5)
        case first =>
          by_cases h1 : i < 0
          · go_wp2_with fail
            go_meet
            exact ⟨true, rfl, Lib.hid ⟨fun _ h => by omega, fun _ => rfl⟩, rfl⟩
          · by_cases h2 : (N : Int) ≤ i
            · go_wp2_with fail
              go_meet
              exact ⟨true, rfl, Lib.hid ⟨fun _ h => by omega, fun _ => rfl⟩, rfl⟩
            · go_wp2_with fail
              go_meet
              exact ⟨false, rfl, Lib.hid ⟨fun h => (by cases h), fun h => (h ⟨by omega, by omega⟩).elim⟩, rfl⟩
        case rest =>
          obtain ⟨b, rfl, hbi, rfl⟩ := hcut
          go_upto_if 69 with fail
          go_cut [12] from 70 to 74 (fun fv wx => ∃ f : Int, fv = .int .i64 f ∧ RowKit.Hid (FC N es i f) ∧ wx = wc)
          case first =>
            cases b with
            | true =>
              have HI := Lib.hid (hbi.out.1 rfl)
              clear hbi
              go_wp2_with fail
              go_meet
              exact ⟨1, rfl, Lib.hid (.inl ⟨HI.out, rfl⟩), rfl⟩
            | false =>
              have hin : 0 ≤ i ∧ i < (N : Int) := Decidable.byContradiction fun h => by have := hbi.out.2 h; cases this
              obtain ⟨I, rfl⟩ := Int.eq_ofNat_of_zero_le hin.1
              have hI1 : 0 ≤ (I : Int) := hin.1
              have hI2 : (I : Int) < N := hin.2
              have hI3 : I < N := by omega
              have hc := HME.out wc HB5.out I hI3
              have hRI := HYR.out I
              have HIN := Lib.hid hin
              clear hbi hin
              cases hm : ys.getD I false with
              | true =>
                rw [hm] at hc
                have HY := Lib.hid (show R (nat es) (-1) (I : Int).toNat from hRI.1 hm)
                clear hRI hm
                go_wp2_with fail
                go_meet
                exact ⟨0, rfl, Lib.hid (.inr (.inr ⟨HIN.out, HY.out, rfl⟩)), rfl⟩
              | false =>
                rw [hm] at hc
                have HY := Lib.hid (show ¬ R (nat es) (-1) (I : Int).toNat from fun h => by have := hRI.2 h; unfold M at this; rw [hm] at this; cases this)
                clear hRI hm
                go_wp2_with fail
                go_meet
                exact ⟨2, rfl, Lib.hid (.inr (.inl ⟨HIN.out, HY.out, rfl⟩)), rfl⟩
          case rest =>
            obtain ⟨f, rfl, hfc, rfl⟩ := hcut
            clear hbi
            obtain ⟨w5, hw5⟩ : ∃ w5, w5 = wc := ⟨_, rfl⟩
            subst hw5
            go_upto_block 2 with fail
            go_cut [15] from 75 to 104 (fun ov wx => ∃ (zo : List Int) (ao : Option Addr) (co : Nat), ov = .slice ao zo.length co ∧ zo.length ≤ 12 ∧ RowKit.Hid ((f ≠ 0 → zo = []) ∧ (f = 0 → zo = passed (nat es) i.toNat N)) ∧ RowKit.Hid (IntsAt .i64 wx ao zo) ∧ RowKit.Hid (Below w5.heap.size w5 wx))
            case first =>
              by_cases hf0 : f = 0
              · subst hf0
                have hin : 0 ≤ i ∧ i < (N : Int) := by
                  rcases hfc.out with ⟨_, h⟩ | ⟨h, _, _⟩ | ⟨h, _, _⟩
                  · cases h
                  · exact h
                  · exact h
                obtain ⟨I, rfl⟩ := Int.eq_ofNat_of_zero_le hin.1
                have hI3 : I < N := by omega
                clear hfc hin
                go_wp2_with fail
                go_loopw [15, 19] (fun v t wr => ∃ k : Nat, t = .int .i64 k ∧ k ≤ N ∧ wr.ownsRow w5.heap.size 3 1 v (passed (nat es) I k).length ((passed (nat es) I k).map (Value.int .i64)) ∧ Below w5.heap.size w5 wr) (fun _ t _ => N - (intOf t).toNat)
                case atStart => exact ⟨0, rfl, by omega, World.ownsRow_nil _ _ _ _, Below.refl _ _⟩
                case round =>
                  obtain ⟨k, rfl, hk, hv, hb⟩ := hrel
                  have hml := passed_len (nat es) I k
                  have hsz := hb.size
                  by_cases hkn : k < N
                  · by_cases hk0 : k = 0
                    · have hb0 : ((k : Int) == 0) = true := by rw [beq_iff_eq]; omega
                      have HMS := Lib.hid (passed_add (nat es) I k (by rw [hk0]; exact not_zero _ _))
                      clear hk0
                      go_wp2_with (at_builtin; refine wpList_push _ rfl _ _ 23 rfl w5.heap.size 3 i0 (.int .i64 0) 1 8 Tryd.underlying23 hi0 hz0 hz1 hz2 rfl (by decide) _ _ _ rfl (hv.alloc _) ⟨wr.heap.size, 0, none⟩ 1 [.int .i64 k] rfl rfl (cell_one_new _ _ _) (one1 _ _) (by unfold maxLen; omega) (by omega) (by simp; omega) ?_)
                      intro g1 cap w6 hv5 hg5
                      have hb5 := (hb.alloc hsz (.cells #[.int .i64 k] 3)).grown hg5 (by simp; omega) (fun k hk => (hv.lt k hk).1)
                      clear hv hb hg5
                      go_wp2_with fail
                      go_roundw
                      case rel => exact ⟨k + 1, by go_num, by omega, by rw [HMS.out, List.map_append, List.length_append]; exact hv5, hb5⟩
                      case measure => simp [intOf]; omega
                    · have hb0 : ((k : Int) == 0) = false := by rw [beq_eq_false_iff_ne]; omega
                      by_cases hkI : k = I
                      · have hb1 : ((k : Int) == (I : Int)) = true := by rw [beq_iff_eq]; omega
                        have HMS := Lib.hid (passed_add (nat es) I k (by rw [hkI]; exact not_self _ _))
                        clear hk0 hkI
                        go_wp2_with (at_builtin; refine wpList_push _ rfl _ _ 23 rfl w5.heap.size 3 i0 (.int .i64 0) 1 8 Tryd.underlying23 hi0 hz0 hz1 hz2 rfl (by decide) _ _ _ rfl (hv.alloc _) ⟨wr.heap.size, 0, none⟩ 1 [.int .i64 k] rfl rfl (cell_one_new _ _ _) (one1 _ _) (by unfold maxLen; omega) (by omega) (by simp; omega) ?_)
                        intro g1 cap w6 hv5 hg5
                        have hb5 := (hb.alloc hsz (.cells #[.int .i64 k] 3)).grown hg5 (by simp; omega) (fun k hk => (hv.lt k hk).1)
                        clear hv hb hg5
                        go_wp2_with fail
                        go_roundw
                        case rel => exact ⟨k + 1, by go_num, by omega, by rw [HMS.out, List.map_append, List.length_append]; exact hv5, hb5⟩
                        case measure => simp [intOf]; omega
                      · have hb1 : ((k : Int) == (I : Int)) = false := by rw [beq_eq_false_iff_ne]; omega
                        have HMk := Lib.hid (HRO.out k wr (HB.out wr (HB4.out.trans ((HB5.out.trans (hb.mono HB5.out.size)).mono HB4.out.size))).2.1)
                        clear hk0 hkI
                        go_wp2_with fail
                        refine HMk.out.mono ?_
                        clear HMk
                        rintro e w6 ⟨zs, rfl, hl3, hown3, hR3, hb3⟩
                        have hc3 : w6.cell? ⟨wr.heap.size, I, none⟩ = some (.bool (zs.getD I false)) := by rw [hown3.cellAt I (by omega)]; simp [hl3, hI3]
                        have hv3 := owns_below hv hb3
                        have hb4 := hb.trans (hb3.mono hsz)
                        have hsz4 := hb4.size
                        have hRk := hR3 I
                        clear hown3 hR3 hb3 hv hb hl3
                        cases hm : zs.getD I false with
                        | false =>
                          have hno : ¬ R (nat es) k I := fun h => by have := hRk.2 h; unfold M at this; rw [hm] at this; cases this
                          rw [hm] at hc3
                          have HMS := Lib.hid (passed_add (nat es) I k hno)
                          clear hno hRk hm
                          go_wp2_with (at_builtin; refine wpList_push _ rfl _ _ 23 rfl w5.heap.size 3 i0 (.int .i64 0) 1 8 Tryd.underlying23 hi0 hz0 hz1 hz2 rfl (by decide) _ _ _ rfl (hv3.alloc _) ⟨w6.heap.size, 0, none⟩ 1 [.int .i64 k] rfl rfl (cell_one_new _ _ _) (one1 _ _) (by unfold maxLen; omega) (by omega) (by simp; omega) ?_)
                          intro g1 cap w7 hv5 hg5
                          have hb5 := (hb4.alloc hsz4 (.cells #[.int .i64 k] 3)).grown hg5 (by simp; omega) (fun k hk => (hv3.lt k hk).1)
                          clear hv3 hb4 hg5
                          go_wp2_with fail
                          go_roundw
                          case rel => exact ⟨k + 1, by go_num, by omega, by rw [HMS.out, List.map_append, List.length_append]; exact hv5, hb5⟩
                          case measure => simp [intOf]; omega
                        | true =>
                          have hyes : R (nat es) k I := hRk.1 hm
                          rw [hm] at hc3
                          have HMS := Lib.hid (passed_same (nat es) I k hyes)
                          clear hyes hRk hm
                          go_wp2_with fail
                          go_roundw
                          case rel => exact ⟨k + 1, by go_num, by omega, by rw [HMS.out]; exact hv3, hb4⟩
                          case measure => simp [intOf]; omega
                  · have hkn' : k = N := by omega
                    subst hkn'
                    obtain ⟨ao, cap, hve⟩ := owns_shape hv
                    subst hve
                    have HZ := Lib.hid (IntsAt.of_owns hv)
                    have HBB := Lib.hid hb
                    clear hv hb
                    go_wp2_with fail
                    go_meet
                    exact ⟨passed (nat es) I k, ao, cap, rfl, by omega, Lib.hid ⟨fun h => absurd rfl h, fun _ => rfl⟩, HZ, HBB⟩
              · have hfb : (f == 0) = false := by rw [beq_eq_false_iff_ne]; exact hf0
                have HF0 := Lib.hid hf0
                clear hf0
                go_wp2_with fail
                go_loop [15] (fun ov => ov = .slice none 0 0) (fun _ => 0)
                case atStart => rfl
                case round =>
                  obtain rfl := hrel
                  go_wp2_with fail
                  go_meet
                  exact ⟨[], none, 0, rfl, by simp, Lib.hid ⟨fun _ => rfl, fun h => absurd h HF0.out⟩, Lib.hid (intsAt_nil _ _), Lib.hid (Below.refl _ _)⟩
            case rest =>
              obtain ⟨zo, ao, co, rfl, lo12, hzo, hio, hbo⟩ := hcut
              obtain ⟨w6, hw6⟩ : ∃ w6, w6 = wc := ⟨_, rfl⟩
              subst hw6
              have HB6 := Lib.hid (HB4.out.trans ((HB5.out.trans (hbo.out.mono HB5.out.size)).mono HB4.out.size))
              have HZR6 := Lib.hid (IntsAt.below HZR.out (Nat.le_refl _) hbo.out)
              have HZO6 := Lib.hid hio.out
              have HFC := Lib.hid hfc.out
              have HZO := Lib.hid hzo.out
              have hw0 : way.length = 0 ∨ 0 < way.length := by omega
              clear HME HYR HB5 HB4 HZR hio hfc hzo hbo HRO HB3
              go_upto_region 25 with fail
              go_cut [113] from 105 to 113 (fun bv wx => ∃ b : Bool, bv = .bool b ∧ RowKit.Hid (b = true ↔ ¬ (0 < way.length ∧ way.getD 0 0 = 0)) ∧ wx = w6)
              case first =>
                rcases hw0 with hw0 | hw0
                · have hb0 : ((way.length : Int) == 0) = true := by rw [beq_iff_eq]; omega
                  have HW0 := Lib.hid hw0
                  clear hw0
                  go_wp2_with fail
                  go_meet
                  exact ⟨true, rfl, Lib.hid ⟨fun _ h => by have := HW0.out; omega, fun _ => rfl⟩, rfl⟩
                · have hb0 : ((way.length : Int) == 0) = false := by rw [beq_eq_false_iff_ne]; omega
                  obtain ⟨bw, ow, hwe, hcw⟩ := (HB.out w6 HB6.out).2.2 0 hw0
                  subst hwe
                  obtain ⟨x0, hx0⟩ : ∃ x0, x0 = way.getD 0 0 := ⟨_, rfl⟩
                  rw [← hx0, Nat.add_zero] at hcw
                  have HX0 := Lib.hid hx0
                  have hwp2 : (0 : Int) < (way.length : Int) := by omega
                  clear hx0
                  by_cases hx00 : x0 = 0
                  · have hbx : (x0 != 0) = false := by rw [bne_eq_false_iff_eq]; exact hx00
                    have HE := Lib.hid (show way.getD 0 0 = 0 by rw [← HX0.out]; exact hx00)
                    have HW0 := Lib.hid hw0
                    clear hx00
                    go_wp2_with fail
                    go_meet
                    exact ⟨false, rfl, Lib.hid ⟨fun h => (by cases h), fun h => (h ⟨HW0.out, HE.out⟩).elim⟩, rfl⟩
                  · have hbx : (x0 != 0) = true := by rw [bne_iff_ne]; exact hx00
                    have HE := Lib.hid (show ¬ way.getD 0 0 = 0 by rw [← HX0.out]; exact hx00)
                    clear hx00
                    go_wp2_with fail
                    go_meet
                    exact ⟨true, rfl, Lib.hid ⟨fun _ h => HE.out h.2, fun _ => rfl⟩, rfl⟩
              case rest =>
                obtain ⟨b, rfl, hbi, hwc⟩ := hcut
                subst hwc
                go_upto_if 113 with fail
                go_cut [13] from 113 to 113 (fun gv wx => ∃ g : Int, gv = .int .i64 g ∧ RowKit.Hid ((g = 0 ∧ 0 < way.length ∧ way.getD 0 0 = 0) ∨ (g = 3 ∧ ¬ isWay es way)) ∧ wx = wc)
                case first =>
                  cases b with
                  | true =>
                    have HI := Lib.hid (hbi.out.1 rfl)
                    clear hbi
                    go_wp2_with fail
                    go_meet
                    exact ⟨3, rfl, Lib.hid (.inr ⟨rfl, fun h => HI.out ⟨h.1, h.2.1⟩⟩), rfl⟩
                  | false =>
                    have HI := Lib.hid (show 0 < way.length ∧ way.getD 0 0 = 0 from Decidable.byContradiction fun h => by have := hbi.out.2 h; cases this)
                    clear hbi
                    go_wp2_with fail
                    go_meet
                    exact ⟨0, rfl, Lib.hid (.inl ⟨rfl, HI.out⟩), rfl⟩
                case rest =>
                  obtain ⟨g0, rfl, hg0, hwc⟩ := hcut
                  subst hwc
                  clear hbi
                  obtain ⟨w6, hw6⟩ : ∃ w6, w6 = wc := ⟨_, rfl⟩
                  subst hw6
                  go_upto_block 4 with fail
                  go_cut [13] from 114 to 135 (fun gv wx => ∃ g : Int, gv = .int .i64 g ∧ RowKit.Hid (GC es way g) ∧ RowKit.Hid (Below w6.heap.size w6 wx))
                  case first =>
                    rcases hg0.out with ⟨rfl, hlen, h0⟩ | ⟨rfl, hno⟩
                    · clear hg0
                      obtain ⟨bw, ow, hwe, _⟩ := (HB.out w6 HB6.out).2.2 0 hlen
                      subst hwe
                      have HH0 := Lib.hid h0
                      clear h0
                      go_wp2_with fail
                      go_loopw [13, 20] (fun gv kv wr => ∃ k nq : Nat, kv = .int .i64 k ∧ 1 ≤ k ∧ k ≤ way.length ∧ ((gv = .int .i64 0 ∧ RowKit.Hid (∀ j, j + 1 < k → (way.getD j 0, way.getD (j + 1) 0) ∈ es)) ∨ (gv = .int .i64 3 ∧ RowKit.Hid (¬ isWay es way))) ∧ wr = w6.drewN nq) (fun _ kv _ => way.length - (intOf kv).toNat)
                      case atStart => exact ⟨1, 0, rfl, by omega, by omega, .inl ⟨rfl, Lib.hid (fun j hj => by omega)⟩, (drewN_zero _).symm⟩
                      case round =>
                        obtain ⟨k, nq, rfl, hk1, hk, hcase, hwr⟩ := hrel
                        have hbw : Below w6.heap.size w6 wr := by rw [hwr]; exact below_drewN (Below.refl _ _) nq
                        have hbW := HB6.out.trans (hbw.mono HB6.out.size)
                        have HWR := Lib.hid hwr
                        have HBW := Lib.hid hbw
                        clear hwr hbw
                        rcases hcase with ⟨rfl, hall⟩ | ⟨rfl, hno⟩
                        · by_cases hkl : k < way.length
                          · obtain ⟨j, hji⟩ : ∃ j, j = k - 1 := ⟨_, rfl⟩
                            obtain ⟨_, _, hwe, hc1⟩ := (HB.out wr hbW).2.2 j (by omega)
                            cases hwe
                            obtain ⟨_, _, hwe, hc2⟩ := (HB.out wr hbW).2.2 k hkl
                            cases hwe
                            obtain ⟨a, ha⟩ : ∃ a, a = way.getD j 0 := ⟨_, rfl⟩
                            obtain ⟨b, hbb⟩ : ∃ b, b = way.getD k 0 := ⟨_, rfl⟩
                            rw [← ha] at hc1
                            rw [← hbb] at hc2
                            have HAB := Lib.hid (And.intro ha hbb)
                            have hje : IntKind.i64.wrap ((k : Int) - 1) = (j : Int) := by rw [show (k : Int) - 1 = (j : Int) by omega]; exact IntWalk.i64_in _ (by omega)
                            have hj0 : (0 : Int) ≤ (j : Int) := by omega
                            have hjl : (j : Int) < (way.length : Int) := by omega
                            have hjl2 : j < way.length := by omega
                            have hi0 : (0 : Int) ≤ (k : Int) := by omega
                            have hil2 : (k : Int) < (way.length : Int) := by omega
                            have HJI := Lib.hid hji
                            have HP := Lib.hid (fun q => hasEdge_any es a b lo lc (wr.drewN q) (HB.out _ (below_drewN hbW q)).2.1 HL.out)
                            clear ha hbb hji hbW
                            by_cases hmem : (a, b) ∈ es
                            · have HE := Lib.hid (show ∀ q, Calls Tryd.prog 9 #[.slice lo es.length lc, .int .i64 a, .int .i64 b] (wr.drewN q) fun e w' => e = .returned (.bool true) ∧ w' = wr.drewN q from fun q => (HP.out q).mono fun e w' h => ⟨h.1.trans (by rw [decide_eq_true hmem]), h.2.symm⟩)
                              have HA := Lib.hid (show ∀ t, t + 1 < k + 1 → (way.getD t 0, way.getD (t + 1) 0) ∈ es from fun t ht => by
                                by_cases e : t = j
                                · rw [e, ← HAB.out.1, show j + 1 = k by have := HJI.out; omega, ← HAB.out.2]; exact hmem
                                · exact hall.out t (by have := HJI.out; omega))
                              clear HP hmem hall
                              go_wp2_with fail
                              go_quiet (first | (go_at_call 9; exact Calls.quiet_of_same (HE.out _)))
                              go_wp2_with fail
                              go_roundw
                              case rel => exact ⟨k + 1, _, by go_num, by omega, by omega, .inl ⟨rfl, HA⟩, by rw [HWR.out]; exact drewN_drewN _ _ _⟩
                              case measure => simp [intOf]; omega
                            · have HE := Lib.hid (show ∀ q, Calls Tryd.prog 9 #[.slice lo es.length lc, .int .i64 a, .int .i64 b] (wr.drewN q) fun e w' => e = .returned (.bool false) ∧ w' = wr.drewN q from fun q => (HP.out q).mono fun e w' h => ⟨h.1.trans (by rw [decide_eq_false hmem]), h.2.symm⟩)
                              have HNO := Lib.hid (show ¬ isWay es way from fun h => hmem (by
                                have := h.2.2 j (by have := HJI.out; omega)
                                rw [HAB.out.1, HAB.out.2, show k = j + 1 by have := HJI.out; omega]
                                exact this))
                              clear HP hmem hall
                              go_wp2_with fail
                              go_quiet (first | (go_at_call 9; exact Calls.quiet_of_same (HE.out _)))
                              go_wp2_with fail
                              go_roundw
                              case rel => exact ⟨k + 1, _, by go_num, by omega, by omega, .inr ⟨rfl, HNO⟩, by rw [HWR.out]; exact drewN_drewN _ _ _⟩
                              case measure => simp [intOf]; omega
                          · have hke : k = way.length := by omega
                            have HWAY := Lib.hid (show isWay es way from ⟨hlen, HH0.out, fun j hj => hall.out j (by omega)⟩)
                            clear hall hke
                            go_wp2_with fail
                            go_meet
                            exact ⟨0, rfl, Lib.hid (.inl ⟨HWAY.out, rfl⟩), HBW⟩
                        · go_wp2_with fail
                          go_meet
                          exact ⟨3, rfl, Lib.hid (.inr ⟨hno.out, rfl⟩), HBW⟩
                    · have HNO := Lib.hid hno
                      clear hg0 hno
                      go_wp2_with fail
                      go_loop [13] (fun gv => gv = .int .i64 3) (fun _ => 0)
                      case atStart => rfl
                      case round =>
                        obtain rfl := hrel
                        go_wp2_with fail
                        go_meet
                        exact ⟨3, rfl, Lib.hid (.inr ⟨HNO.out, rfl⟩), Lib.hid (Below.refl _ _)⟩
                  case rest =>
                    obtain ⟨g, rfl, hgc, hbb⟩ := hcut
                    obtain ⟨w7, hw7⟩ : ∃ w7, w7 = wc := ⟨_, rfl⟩
                    subst hw7
                    have HB7 := Lib.hid (HB6.out.trans (hbb.out.mono HB6.out.size))
                    have HZR7 := Lib.hid (IntsAt.below HZR6.out (Nat.le_refl _) hbb.out)
                    have HZO7 := Lib.hid (IntsAt.below HZO6.out (Nat.le_refl _) hbb.out)
                    have hrl := reached_len (nat es) N
                    have HRR := Lib.hid (show RR N es (reached (nat es) N) from .inr ⟨HOK.out, by simp⟩)
                    have HFR := Lib.hid (show FR N es i f zo from .inr ⟨HOK.out, HFC.out, HZO.out.1, by simpa using HZO.out.2⟩)
                    clear hg0 hbb HB6 HZR6 HZO6 HFC HZO
                    rcases hgc.out with ⟨hway, rfl⟩ | ⟨hno, rfl⟩
                    · have HWAY := Lib.hid hway
                      obtain ⟨bw, ow, hwe, _⟩ := (HB.out w7 HB7.out).2.2 0 hway.1
                      subst hwe
                      have hw0 := hway.1
                      clear hgc hway
                      go_wp2_with fail
                      go_loopw [16, 21] (fun lv kv wr => ∃ k : Nat, kv = .int .i64 k ∧ k ≤ es.length ∧ RowKit.Hid (wr.ownsRow w7.heap.size 35 2 lv (left (es.take k) way).length (two (left (es.take k) way))) ∧ RowKit.Hid (Below w7.heap.size w7 wr)) (fun _ kv _ => es.length - (intOf kv).toNat)
                      case atStart => exact ⟨0, rfl, by omega, Lib.hid (by rw [List.take_zero]; exact World.ownsRow_nil _ _ _ _), Lib.hid (Below.refl _ _)⟩
                      case round =>
                        obtain ⟨k, rfl, hk, ho, hb⟩ := hrel
                        obtain ⟨w8, hw8⟩ : ∃ w8, w8 = wr := ⟨_, rfl⟩
                        subst hw8
                        have HO := Lib.hid ho.out
                        have HB8 := Lib.hid hb.out
                        clear ho hb
                        by_cases hkl : k < es.length
                        · have hbW := HB7.out.trans (HB8.out.mono HB7.out.size)
                          obtain ⟨b, o, hloe, hc1, hc2⟩ := (HB.out w8 hbW).2.1 k hkl
                          subst hloe
                          have HT := Lib.hid (left_take es way k hkl)
                          obtain ⟨z, hz⟩ : ∃ z, z = es.getD k (0, 0) := ⟨_, rfl⟩
                          rw [← hz] at hc1 hc2 HT
                          obtain ⟨z1, z2⟩ := z
                          simp only at hc1 hc2
                          have HZ := Lib.hid hz
                          have HCC := Lib.hid (And.intro hc1 hc2)
                          clear hz hc1 hc2
                          go_wp2_with fail
                          go_loopw [22, 23] (fun gv jv wr => ∃ (j nq : Nat) (c : Bool), jv = .int .i64 j ∧ 1 ≤ j ∧ j ≤ way.length ∧ gv = .bool c ∧ RowKit.Hid (c = goneK way (j - 1) (z1, z2)) ∧ wr = w8.drewN nq) (fun _ jv _ => way.length - (intOf jv).toNat)
                          case atStart => exact ⟨1, 0, false, rfl, by omega, by omega, rfl, Lib.hid rfl, (drewN_zero _).symm⟩
                          case round =>
                            obtain ⟨j, nq, cc, rfl, hj1, hj, rfl, hcc, hwr⟩ := hrel
                            have hbw : Below w8.heap.size w8 wr := by rw [hwr]; exact below_drewN (Below.refl _ _) nq
                            have hbW8 := hbW.trans (hbw.mono hbW.size)
                            have HC1 : wr.cell? ⟨b, o + k * 2, none⟩ = some (.int .i64 z1) := by rw [hwr]; exact HCC.out.1
                            have HC2 : wr.cell? ⟨b, o + k * 2 + 1, none⟩ = some (.int .i64 z2) := by rw [hwr]; exact HCC.out.2
                            have HWR := Lib.hid hwr
                            clear hwr
                            by_cases hjl : j < way.length
                            · obtain ⟨q, hq⟩ : ∃ q, q = j - 1 := ⟨_, rfl⟩
                              obtain ⟨_, _, hwe, hd1⟩ := (HB.out wr hbW8).2.2 q (by omega)
                              cases hwe
                              obtain ⟨_, _, hwe, hd2⟩ := (HB.out wr hbW8).2.2 j hjl
                              cases hwe
                              rw [← hq] at hcc
                              have HGN := Lib.hid (goneK_succ way q (z1, z2))
                              simp only at HGN
                              rw [show q + 1 = j + 1 - 1 by omega, ← hcc.out] at HGN
                              rw [show j + 1 - 1 = j by omega] at HGN
                              obtain ⟨x, hx⟩ : ∃ x, x = way.getD q 0 := ⟨_, rfl⟩
                              obtain ⟨y, hy⟩ : ∃ y, y = way.getD j 0 := ⟨_, rfl⟩
                              rw [← hx] at hd1 HGN
                              rw [← hy] at hd2 HGN
                              have hje : IntKind.i64.wrap ((j : Int) - 1) = (q : Int) := by rw [show (j : Int) - 1 = (q : Int) by omega]; exact IntWalk.i64_in _ (by omega)
                              have hq0 : (0 : Int) ≤ (q : Int) := by omega
                              have hql : (q : Int) < (way.length : Int) := by omega
                              have hql2 : q < way.length := by omega
                              have hj0 : (0 : Int) ≤ (j : Int) := by omega
                              have hjl2 : (j : Int) < (way.length : Int) := by omega
                              have hk0 : (0 : Int) ≤ (k : Int) := by omega
                              have hkl2 : (k : Int) < (es.length : Int) := by omega
                              clear hx hy hq hcc
                              cases cc with
                              | true =>
                                have HG2 := Lib.hid (show true = goneK way (j + 1 - 1) (z1, z2) by rw [show j + 1 - 1 = j by omega, HGN.out]; rfl)
                                clear HGN
                                go_wp2_with fail
                                go_quiet (fail)
                                go_wp2_with fail
                                go_roundw
                                case rel => exact ⟨j + 1, _, true, by go_num, by omega, by omega, rfl, HG2, by rw [HWR.out]; exact drewN_drewN _ _ _⟩
                                case measure => simp [intOf]; omega
                              | false =>
                                by_cases h1 : x = z1
                                · have hb1 : (x == z1) = true := by rw [beq_iff_eq]; exact h1
                                  by_cases h2 : y = z2
                                  · have hb2 : (y == z2) = true := by rw [beq_iff_eq]; exact h2
                                    have HG2 := Lib.hid (show true = goneK way (j + 1 - 1) (z1, z2) by rw [show j + 1 - 1 = j by omega, HGN.out, decide_eq_true h1, decide_eq_true h2]; rfl)
                                    clear HGN h1 h2
                                    go_wp2_with fail
                                    go_quiet (fail)
                                    go_wp2_with fail
                                    go_roundw
                                    case rel => exact ⟨j + 1, _, true, by go_num, by omega, by omega, rfl, HG2, by rw [HWR.out]; exact drewN_drewN _ _ _⟩
                                    case measure => simp [intOf]; omega
                                  · have hb2 : (y == z2) = false := by rw [beq_eq_false_iff_ne]; exact h2
                                    have HG2 := Lib.hid (show false = goneK way (j + 1 - 1) (z1, z2) by rw [show j + 1 - 1 = j by omega, HGN.out, decide_eq_true h1, decide_eq_false h2]; rfl)
                                    clear HGN h1 h2
                                    go_wp2_with fail
                                    go_quiet (fail)
                                    go_wp2_with fail
                                    go_roundw
                                    case rel => exact ⟨j + 1, _, false, by go_num, by omega, by omega, rfl, HG2, by rw [HWR.out]; exact drewN_drewN _ _ _⟩
                                    case measure => simp [intOf]; omega
                                · have hb1 : (x == z1) = false := by rw [beq_eq_false_iff_ne]; exact h1
                                  have HG2 := Lib.hid (show false = goneK way (j + 1 - 1) (z1, z2) by rw [show j + 1 - 1 = j by omega, HGN.out, decide_eq_false h1]; rfl)
                                  clear HGN h1
                                  go_wp2_with fail
                                  go_quiet (fail)
                                  go_wp2_with fail
                                  go_roundw
                                  case rel => exact ⟨j + 1, _, false, by go_num, by omega, by omega, rfl, HG2, by rw [HWR.out]; exact drewN_drewN _ _ _⟩
                                  case measure => simp [intOf]; omega
                            · obtain rfl : j = way.length := by omega
                              have HOW := Lib.hid (show wr.ownsRow w7.heap.size 35 2 u16 (left (es.take k) way).length (two (left (es.take k) way)) from owns_below HO.out hbw)
                              have HBW := Lib.hid (HB8.out.trans (hbw.mono HB8.out.size))
                              have hbs := HBW.out.size
                              have hgc : cc = gone way (z1, z2) := hcc.out
                              have hll := left_len (es.take k) way
                              have htk : (es.take k).length ≤ k := by simp; omega
                              rw [← hgc] at HT
                              clear hgc hcc hbw hbW8
                              cases cc with
                              | true =>
                                have HT2 := Lib.hid (HT.out.trans (show _ = left (es.take k) way by simp))
                                clear HT
                                go_wp2_with fail
                                go_roundw
                                case rel => exact ⟨k + 1, by go_num, by omega, by rw [HT2.out]; exact HOW, HBW⟩
                                case measure => simp [intOf]; omega
                              | false =>
                                have HT2 := Lib.hid (HT.out.trans (show _ = left (es.take k) way ++ [(z1, z2)] by simp))
                                have hk0 : (0 : Int) ≤ (k : Int) := by omega
                                have hkl2 : (k : Int) < (es.length : Int) := by omega
                                clear HT
                                go_wp2_with (at_builtin; refine wpList_push _ rfl _ _ 22 rfl w7.heap.size 35 i1 (.agg #[.int .i64 0, .int .i64 0]) 2 16 Tryd.underlying22 hi1 hy0 hy1 hy2 rfl (by decide) _ _ _ rfl (HOW.out.alloc _) ⟨wr.heap.size, 0, none⟩ 1 [.int .i64 z1, .int .i64 z2] rfl rfl (cell_two_new _ _ _ _) (one2 _ _ _ _) (by unfold maxLen; omega) (by omega) (by simp; omega) ?_)
                                intro g1 cap w9 hv9 hg9
                                have HB9 := Lib.hid ((HBW.out.alloc hbs (.cells #[.int .i64 z1, .int .i64 z2] 35)).grown hg9 (by simp; omega) (fun k hk => (HOW.out.lt k hk).1))
                                have HV9 := Lib.hid hv9
                                clear hg9 hv9
                                go_wp2_with fail
                                go_roundw
                                case rel => exact ⟨k + 1, by go_num, by omega, Lib.hid (by rw [HT2.out, two_append, List.length_append]; exact HV9.out), HB9⟩
                                case measure => simp [intOf]; omega
                        · obtain rfl : k = es.length := by omega
                          rw [List.take_length] at HO
                          have hll := left_len es way
                          obtain ⟨al, cl, hve⟩ := owns_shape HO.out
                          subst hve
                          have HPL := Lib.hid (PairsAt.of_owns HO.out)
                          have HG := Lib.hid (show GR N es way 0 (left es way) from .inr ⟨HOK.out, .inl ⟨HWAY.out, rfl⟩, fun h => absurd rfl h, fun _ => rfl⟩)
                          clear HO
                          go_wp2_with fail
                          go_meet
                          exact ⟨f, 0, reached (nat es) N, zo, left es way, ar, ao, al, cr, co, cl, rfl, rfl, rfl, rfl, rfl, by omega, by omega, by omega, HRR, HFR, HG, Lib.hid ⟨HB7.out.trans (HB8.out.mono HB7.out.size), HZR7.out.below (Nat.le_refl _) HB8.out, HZO7.out.below (Nat.le_refl _) HB8.out, HPL.out⟩⟩
                    · have HNO := Lib.hid hno
                      clear hgc hno
                      go_wp2_with fail
                      go_loop [16] (fun lv => lv = .slice none 0 0) (fun _ => 0)
                      case atStart => rfl
                      case round =>
                        obtain rfl := hrel
                        go_wp2_with fail
                        go_meet
                        exact ⟨f, 3, reached (nat es) N, zo, [], ar, ao, none, cr, co, 0, rfl, rfl, rfl, rfl, rfl, by omega, by omega, by simp, HRR, HFR, Lib.hid (.inr ⟨HOK.out, .inr ⟨HNO.out, rfl⟩, fun _ => rfl, fun h => by cases h⟩), Lib.hid ⟨HB7.out, HZR7.out, HZO7.out, PairsAt.nil _ _⟩⟩
    · have hc : c = 1 ∨ c = 4 := by rw [HC.out]; exact efault_bad hok
      have he : (c == 0) = false := by rcases hc with h | h <;> rw [h] <;> rfl
      have HNO := Lib.hid hok
      clear hok hc
      go_wp2_with fail
      go_meet
      exact ⟨c, c, [], [], [], none, none, none, 0, 0, 0, rfl, rfl, rfl, rfl, rfl, by simp, by simp, by simp, Lib.hid (.inl ⟨HNO.out, rfl⟩), Lib.hid (.inl ⟨HNO.out, HC.out, rfl⟩), Lib.hid (.inl ⟨HNO.out, HC.out, rfl⟩), Lib.hid ⟨HB3.out, intsAt_nil _ _, intsAt_nil _ _, PairsAt.nil _ _⟩⟩
  case rest =>
    obtain ⟨f, g, zr, zo, zl, ar, ao, al, cr, co, cl, rfl, rfl, rfl, rfl, rfl, lr, lv, ll, hrr, hfr, hgr, hst⟩ := hcut
    have hbc := hst.out.1
    have HALL := Lib.hid (show ∀ w, Below wc.heap.size wc w → Below W.heap.size W w ∧ IntsAt .i64 w ar zr ∧ IntsAt .i64 w ao zo ∧ PairsAt w al zl from fun w hb => ⟨hst.out.1.trans (hb.mono hst.out.1.size), hst.out.2.1.below (Nat.le_refl _) hb, hst.out.2.2.1.below (Nat.le_refl _) hb, hst.out.2.2.2.below (Nat.le_refl _) hb⟩)
    have HREA := Lib.hid (reach_any n es lo lc wc (HB.out wc hbc).2.1 HL.out)
    have HRR := Lib.hid hrr.out
    have HFR := Lib.hid hfr.out
    have HGR := Lib.hid hgr.out
    clear hst hbc HB3 hrr hfr hgr
    go_wp2_with fail
    refine HREA.out.mono ?_
    clear HREA
    rintro e v1 ⟨hp, hb⟩
    obtain ⟨a1, c1, x1, rfl, hn1, hz⟩ := reach_num hp HRR.out
    rw [← HC.out] at hn1
    have HER := Lib.hid (error_is x1 _ c hn1 v1 (HB.out v1 (HALL.out v1 hb).1).1)
    have HV := Lib.hid hb
    have HZ := Lib.hid (show ∀ w, Below v1.heap.size v1 w → IntsAt .i64 w a1 zr from fun w h => hz.below (Nat.le_refl _) h)
    clear hp hb hn1 hz HRR
    go_wp2_with fail
    refine HER.out.mono ?_
    clear HER
    rintro e v2 ⟨rfl, hb⟩
    rw [eqself]
    have HI := Lib.hid (Ints_any zr zr a1 ar c1 cr v2 (HZ.out v2 hb) (HALL.out v2 (HV.out.trans (hb.mono HV.out.size))).2.1 (by unfold maxLen; omega))
    have HV2 := Lib.hid (HV.out.trans (hb.mono HV.out.size))
    clear hb HV HZ
    go_wp2_with fail
    refine HI.out.mono ?_
    clear HI
    rintro e v3 ⟨rfl, nq, rfl⟩
    rw [decide_true]
    have HV3 := Lib.hid (below_drewN HV2.out nq)
    obtain ⟨v3, hv3⟩ : ∃ v3, v3 = v2.drewN nq := ⟨_, rfl⟩
    rw [← hv3] at HV3 ⊢
    have HOV := Lib.hid (over_any n es i lo lc v3 (HB.out v3 (HALL.out v3 HV3.out).1).2.1 HL.out)
    clear hv3 HV2
    go_wp2_with fail
    refine HOV.out.mono ?_
    clear HOV
    rintro e v4 ⟨hp, hb⟩
    obtain ⟨a2, c2, x2, rfl, hn1, hz⟩ := over_num hp HFR.out
    have HV4 := Lib.hid (HV3.out.trans (hb.mono HV3.out.size))
    have HER := Lib.hid (error_is x2 _ f hn1 v4 (HB.out v4 (HALL.out v4 HV4.out).1).1)
    have HZ := Lib.hid (show ∀ w, Below v4.heap.size v4 w → IntsAt .i64 w a2 zo from fun w h => hz.below (Nat.le_refl _) h)
    clear hp hb hn1 hz HFR HV3
    go_wp2_with fail
    refine HER.out.mono ?_
    clear HER
    rintro e v5 ⟨rfl, hb⟩
    rw [eqself]
    have HV5 := Lib.hid (HV4.out.trans (hb.mono HV4.out.size))
    have HI := Lib.hid (Ints_any zo zo a2 ao c2 co v5 (HZ.out v5 hb) (HALL.out v5 HV5.out).2.2.1 (by unfold maxLen; omega))
    clear hb HV4 HZ
    go_wp2_with fail
    refine HI.out.mono ?_
    clear HI
    rintro e v6 ⟨rfl, nq, rfl⟩
    rw [decide_true]
    have HV6 := Lib.hid (below_drewN HV5.out nq)
    obtain ⟨v6, hv6⟩ : ∃ v6, v6 = v5.drewN nq := ⟨_, rfl⟩
    rw [← hv6] at HV6 ⊢
    have HLE := Lib.hid (left_any n es way lo wo lc wc0 v6 (HB.out v6 (HALL.out v6 HV6.out).1).2.1 HN.out HL.out (HB.out v6 (HALL.out v6 HV6.out).1).2.2 HWL.out)
    clear hv6 HV5
    go_wp2_with fail
    refine HLE.out.mono ?_
    clear HLE
    rintro e v7 ⟨hp, hb⟩
    obtain ⟨a3, c3, x3, rfl, hn1, hz⟩ := left_num hp HGR.out
    have HV7 := Lib.hid (HV6.out.trans (hb.mono HV6.out.size))
    have HER := Lib.hid (error_is x3 _ g hn1 v7 (HB.out v7 (HALL.out v7 HV7.out).1).1)
    have HZ := Lib.hid (show ∀ w, Below v7.heap.size v7 w → PairsAt w a3 zl from fun w h => hz.below (Nat.le_refl _) h)
    clear hp hb hn1 hz HGR HV6
    go_wp2_with fail
    refine HER.out.mono ?_
    clear HER
    rintro e v8 ⟨rfl, hb⟩
    rw [eqself]
    have HV8 := Lib.hid (HV7.out.trans (hb.mono HV7.out.size))
    have HI := Lib.hid (edges_same zl a3 al c3 cl v8 (HZ.out v8 hb) (HALL.out v8 HV8.out).2.2.2 (by unfold maxLen; omega))
    clear hb HV7 HZ
    go_wp2_with fail
    refine HI.out.mono ?_
    clear HI
    rintro e v9 ⟨rfl, nq, rfl⟩
    have HV9 := Lib.hid (below_drewN HV8.out nq)
    obtain ⟨v9, hv9⟩ : ∃ v9, v9 = v8.drewN nq := ⟨_, rfl⟩
    rw [← hv9] at HV9 ⊢
    clear hv9 HV8
    go_wp2_with fail
    go_ret
    exact ⟨rfl, (HALL.out v9 HV9.out).1⟩
end Go.Proofs.YtobhclmibmpffaaDoor
