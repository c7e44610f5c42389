/- TableHoles' walk. -/
import Derived.Test.YtpmfpegjkfnnkaaDoorD
import Derived.Deep.RegionHeld3
import Derived.Deep.CutRange
import Derived.Deep.OwnRows
import Derived.Test.YtpmfpegjkfnnkaaDoorMore
namespace Go.Proofs.YtpmfpegjkfnnkaaDoor
open Go.RowKit Go.Mine Go.Mine.Table Go.Deep

set_option maxHeartbeats 4000000 in
set_option maxRecDepth 100000 in
theorem holes_walk (n t : Int) (rs : List Rl) (lo : Option Addr) (lc : Nat) (W : World) (hg : Laid W) (hx : RulesAt W lo rs) (hs : lo = none → rs.length = 0) (hml : rs.length ≤ maxLen) :
    Calls Tryd.prog 3 #[.int .i64 n, .slice lo rs.length lc, .int .i64 t] W fun e w' => e = .returned (.bool true) ∧ Below W.heap.size W w' := by
  obtain ⟨i0, hi0, hz0, hz1, hz2⟩ := info_parts infoR
  have HG := Lib.hid hg
  have HX := Lib.hid (show ∀ w, Below W.heap.size W w → RulesAt w lo rs from fun w hb => hx.below (Nat.le_refl _) hb)
  have HML := Lib.hid hml
  have HS := Lib.hid hs
  clear hg hx hml hs
  go_enter Tryd.func3, Tryd.ntmps3
  go_wp2_with fail
  refine (ruled_true W).mono ?_
  rintro e w1 ⟨rfl, hb1⟩
  have HB1 := Lib.hid hb1
  have HC := Lib.hid (holes_any n rs lo lc w1 (HX.out w1 hb1) HML.out)
  clear hb1
  go_wp2_with fail
  refine HC.out.mono ?_
  clear HC
  rintro e w2 ⟨hp, hb2⟩
  have HB2 := Lib.hid (HB1.out.trans (hb2.mono HB1.out.size))
  clear hb2
  rcases hp with ⟨_, rfl⟩ | ⟨hok, v, rfl, hv⟩
  · go_wp2_with fail
    go_ret
    exact ⟨rfl, HB2.out⟩
  · obtain ⟨ao, ac, rfl⟩ := owns_shape hv
    obtain ⟨m, rfl, hm1, hm6, hr12, hall⟩ := id hok
    have hr12' : rs.length ≤ 12 := by simpa using hr12
    have HOK := Lib.hid hok
    have HALL := Lib.hid hall
    have hll := holesL_len rs (2 ^ m)
    have hp64 := pow_le hm6
    obtain ⟨L, hL⟩ : ∃ L, L = holesL rs (2 ^ (m : Int).toNat) := ⟨_, rfl⟩
    rw [← hL] at hv ⊢
    rw [Int.toNat_natCast] at hL
    rw [← hL] at hll
    have HV := Lib.hid (show ∀ w, Below w2.heap.size w2 w → IntsAt .i64 w ao L from fun w hb => (IntsAt.of_owns hv).below (Nat.le_refl _) hb)
    have HL := Lib.hid hL
    have HL64 := Lib.hid (show L.length ≤ maxLen by unfold maxLen; omega)
    have HW := Lib.hid (which_any m t rs lo lc w2 (HX.out w2 HB2.out) HML.out)
    clear hok hall hr12 hv hL hll hp64
    go_wp2_with fail
    refine HW.out.mono ?_
    clear HW
    rintro e w3 ⟨hp, hb3⟩
    have HB3 := Lib.hid (HB2.out.trans (hb3.mono HB2.out.size))
    have HV3 := Lib.hid (show ∀ w, Below w3.heap.size w3 w → IntsAt .i64 w ao L from fun w hb => HV.out w (hb3.trans (hb.mono hb3.size)))
    obtain ⟨a, ev, c, hn, he⟩ := which_form hp
    subst he
    have HWH := Lib.hid (which_hole HOK.out hp hn)
    have HN := Lib.hid hn
    clear hp hn hb3 HV
    go_wp2_with fail
    refine (error_is _ _ 2 HN.out w3 (HG.out.below HB3.out)).mono ?_
    rintro e w4 ⟨rfl, hb4⟩
    rw [HWH.out, ← HL.out]
    have hb4' := HB3.out.trans (hb4.mono HB3.out.size)
    have HB4 := Lib.hid hb4'
    have HV4 := Lib.hid (show ∀ w, Below w4.heap.size w4 w → IntsAt .i64 w ao L from fun w hb => HV3.out w (hb4.trans (hb.mono hb4.size)))
    obtain ⟨inL, hinL⟩ : ∃ inL, inL = decide (t ∈ L) := ⟨_, rfl⟩
    rw [← hinL]
    have HIN := Lib.hid hinL
    clear hb4 hb4' hinL HV3 HWH
    have hmk := run_make_row' (P := Tryd.prog) 24 3 (.int .i64 0) 8 Tryd.underlying24 info3 rfl .i64 .i64 m (by omega) (by omega)
    have hown : (w4.alloc (.cells (madeCells #[Value.int .i64 0] m) 3)).ownsRow w4.heap.size 3 1 (.slice (some ⟨w4.heap.size, 0, none⟩) m m) m ((List.replicate m (0 : Int)).map (Value.int .i64)) := by
      have := World.ownsRow_lit (base := w4.heap.size) (e := 3) (size := 1) w4 (madeCells #[Value.int .i64 0] m) m (Nat.le_refl _) (by unfold maxLen; omega) (by rw [← Array.length_toList, made_ints]; simp)
      rw [made_ints] at this
      exact this
    have HWI := Lib.hid (show Calls Tryd.prog 10 #[.slice (some ⟨w4.heap.size, 0, none⟩) m m, .int .i64 0, .int .i64 (-1)] (w4.alloc (.cells (madeCells #[Value.int .i64 0] m) 3)) (fun e w' => ∃ g cap, e = .returned (.slice (some ⟨g, 0, none⟩) m cap) ∧ w'.ownsRow (w4.heap.size + 1) 3 1 (.slice (some ⟨g, 0, none⟩) m cap) m ((negs m 0).map (Value.int .i64)) ∧ Below (w4.heap.size + 1) (w4.alloc (.cells (madeCells #[Value.int .i64 0] m) 3)) w') from by
      have := with_any (List.replicate m (0 : Int)) (some ⟨w4.heap.size, 0, none⟩) m 0 (-1) (w4.alloc (.cells (madeCells #[Value.int .i64 0] m) 3)) (IntsAt.of_owns hown) (by simp; omega) (by simp; omega)
      have hsz : (w4.alloc (.cells (madeCells #[Value.int .i64 0] m) 3)).heap.size = w4.heap.size + 1 := by simp
      rw [hsz, List.length_replicate] at this
      simpa [negs] using this)
    have HBA := Lib.hid (show Below w4.heap.size w4 (w4.alloc (.cells (madeCells #[Value.int .i64 0] m) 3)) from (Below.refl _ _).alloc (Nat.le_refl _) _)
    clear hown
    go_wp2_with fail
    refine HWI.out.mono ?_
    clear HWI hmk
    rintro e w5 ⟨gw, cw, rfl, ho5, hb5⟩
    have hsz5 : w4.heap.size + 1 ≤ w5.heap.size := by simpa using hb5.size
    have hb45 : Below w4.heap.size w4 w5 := HBA.out.trans (hb5.mono (by omega))
    have hgw := ho5.lt gw rfl
    obtain ⟨ball, hball⟩ : ∃ b, b = w5.heap.size := ⟨_, rfl⟩
    have HO6 := Lib.hid (ho5.alloc (.cells #[.slice (some ⟨gw, 0, none⟩) m cw, .int .i64 0] 35))
    have HB6 := Lib.hid (hb45.alloc (by omega) (.cells #[.slice (some ⟨gw, 0, none⟩) m cw, .int .i64 0] 35))
    have HH6 := Lib.hid (show (w5.alloc (.cells #[.slice (some ⟨gw, 0, none⟩) m cw, .int .i64 0] 35)).heap[ball]? = some (.cells #[.slice (some ⟨gw, 0, none⟩) m cw, .int .i64 0] 35 (0, 0)) by rw [hball]; exact heap_alloc_new _ _)
    clear ho5 hb5 hb45 HBA
    go_wp2_with fail
    rw [← hball]
    have hgb : gw < ball := by omega
    clear hball
    go_loopw [14] (fun iv wr => ∃ k : Nat, iv = .int .i64 k ∧ k ≤ m ∧ wr.ownsRow (w4.heap.size + 1) 3 1 (.slice (some ⟨gw, 0, none⟩) m cw) m ((negs m k).map (Value.int .i64)) ∧ wr.heap[ball]? = some (.cells #[.slice (some ⟨gw, 0, none⟩) m cw, .int .i64 0] 35 (0, 0)) ∧ Below w4.heap.size w4 wr) (fun iv _ => m - (intOf iv).toNat)
    case atStart => exact ⟨0, rfl, by omega, HO6.out, HH6.out, HB6.out⟩
    clear HO6 HH6 HB6
    case round =>
      obtain ⟨k, rfl, hk, ho, hh, hb⟩ := hrel
      by_cases hlt : k < m
      · have hc0 : wr.cell? ⟨ball, 0, none⟩ = some (.slice (some ⟨gw, 0, none⟩) m cw) := by rw [cell_of_row wr _ 0 _ _ _ hh]; rfl
        obtain ⟨z, hz⟩ := negs_get hlt
        have hck : wr.cell? ⟨gw, k, none⟩ = some (.int .i64 z) := by rw [ho.cellAt k (by omega), List.getElem?_map, hz]; rfl
        have hfk := ho.frozenAt k
        have hst := (ho.stored k (.int .i64 (-1))).1
        rw [← List.map_set, negs_succ hlt] at hst
        have HST := Lib.hid hst
        have HH := Lib.hid (show (wr.setCell ⟨gw, k, none⟩ (.int .i64 (-1))).heap[ball]? = _ from (heap_setCell_other _ _ _ _ (by simp; omega)).trans hh)
        have HB := Lib.hid (hb.setCell (p := ⟨gw, k, none⟩) (by simp; omega) (.int .i64 (-1)))
        clear ho hh hb hst hz
        go_wp2_with fail
        go_roundw
        case rel => exact ⟨k + 1, by go_num, by omega, HST.out, HH.out, HB.out⟩
        case measure => simp [intOf]; omega
      · obtain rfl : m = k := by omega
        rw [negs_full] at ho
        obtain ⟨r, hr⟩ : ∃ r : Rl, r = ⟨some ⟨gw, 0, none⟩, cw, List.replicate m (-1), 0⟩ := ⟨_, rfl⟩
        have hc0 : wr.cell? ⟨ball, 0, none⟩ = some (.slice (some ⟨gw, 0, none⟩) m cw) := by rw [cell_of_row wr _ 0 _ _ _ hh]; rfl
        have hc1 : wr.cell? ⟨ball, 1, none⟩ = some (.int .i64 0) := by rw [cell_of_row wr _ 1 _ _ _ hh]; rfl
        have hballs : ball < wr.heap.size := World.block_lt_of_cell? wr _ hc0
        have hrx : RowKit.Hid (∀ w, Below wr.heap.size wr w → IntsAt .i64 w r.sa r.when) := Lib.hid (fun w hw => by rw [hr]; exact (IntsAt.of_owns ho).below (Nat.le_refl _) hw)
        have HXR := Lib.hid (show ∀ w, Below wr.heap.size wr w → RulesAt w lo rs from fun w hw => HX.out w (HB4.out.trans ((hb.trans (hw.mono hb.size)).mono HB4.out.size)))
        have HBW := Lib.hid (HB4.out.trans (hb.mono HB4.out.size))
        have HVR := Lib.hid (show ∀ w, Below wr.heap.size wr w → IntsAt .i64 w ao L from fun w hw => HV4.out w (hb.trans (hw.mono hb.size)))
        have HRC := Lib.hid (show [Value.slice (some ⟨gw, 0, none⟩) m cw, .int .i64 0] = rcells [r] by rw [hr]; simp [rcells])
        have HRW := Lib.hid (show r.when = List.replicate m (-1) by rw [hr])
        have hml := HML.out
        have hsl := HS.out
        clear ho hh hr hb HV4 HB4 hlt hk
        have HWR := Lib.hid (Below.refl wr.heap.size wr)
        have hbx : Below wr.heap.size wr wr := Below.refl _ _
        go_upto_region 14 with fail
        go_cut [15, 16] from 53 to 64 (fun v ev wx => LastPost rs.length v ev ∧ Below wr.heap.size wr wx)
        case first =>
          go_region_held3 (fun w' => w'.cell? ⟨ball, 0, none⟩ = some (.slice (some ⟨gw, 0, none⟩) m cw) ∧ w'.cell? ⟨ball, 1, none⟩ = some (.int .i64 0) ∧ Below wr.heap.size wr w')
            (first
              | (go_keep; done)
              | (try go_split_ands
                 refine ⟨?_, ?_, ?_⟩
                 · first | assumption | (go_keep; done)
                 · first | assumption | (go_keep; done)
                 · repeat' (first | assumption | exact Below.refl _ _ | refine Below.drew ?_ | refine Below.alloc ?_ (Below.size (B := wr.heap.size) ?_) _)))
            (first
              | ((refine step_append_any _ rfl (.tmp 55) (.tmp 56) 22 rfl wr.heap.size 35 i0 _ 2 32 Tryd.underlying22 hi0 hz0 hz1 hz2 rfl (by decide) _ 0 _ [] rfl ?_ lo rs.length lc (rcells rs) rfl (rcells_len rs) hsl ?_ (rcells_one rs) ?_ ?_ ?_ _ rfl ?_)
                 · refine owns_empty ?_ ?_
                   · simp
                   · repeat' (first | refine heap_drew_at ?_ | exact heap_alloc_at _ _ (by simp) | refine heap_alloc_keep _ ?_)
                 · try go_split_ands
                   exact RulesAt.cells (HXR.out _ (by assumption))
                 · omega
                 · omega
                 · first | omega | (simp; try omega)
                 intro g1 cap1 w7 hown7 hgrow7 hat7 hlt7
                 simp only [Nat.zero_add, List.nil_append] at hown7 ⊢
                 have hg7 := (hown7.lt g1 rfl).1
                 try go_split_ands
                 have hb7 : Below wr.heap.size wr w7 := Below.grown (by assumption) hgrow7 (by first | omega | (simp; try omega)) (by simp; try omega)
                 have hs7 := Below.size hb7
                 have hc7 : w7.cell? ⟨ball, 0, none⟩ = some (.slice (some ⟨gw, 0, none⟩) m cw) := hgrow7.cell (by assumption) (by simp; omega)
                 have hd7 : w7.cell? ⟨ball, 1, none⟩ = some (.int .i64 0) := hgrow7.cell (by assumption) (by simp; omega))
              | ((refine step_append_any _ rfl (.tmp 57) (.tmp 59) 22 rfl wr.heap.size 35 i0 _ 2 32 Tryd.underlying22 hi0 hz0 hz1 hz2 rfl (by decide) _ rs.length _ (rcells rs) rfl ?_ (some ⟨_, 0, none⟩) 1 1 [.slice (some ⟨gw, 0, none⟩) m cw, .int .i64 0] rfl rfl (by simp) ?_ (by intro u hu; simp at hu; rcases hu with rfl | rfl <;> rfl) ?_ ?_ ?_ _ rfl ?_)
                 · first
                     | exact hown7
                     | exact hown7.alloc _
                 · intro ad had
                   cases had
                   refine World.news_of_block (cs := #[.slice (some ⟨gw, 0, none⟩) m cw, .int .i64 0]) (t := 35) (fr := (0, 0)) ?_
                   first
                     | exact heap_alloc_at _ _ rfl
                     | (refine grown_heap hgrow7 ?_ (by simp)
                        repeat' (first | refine heap_drew_at ?_ | exact heap_alloc_at _ _ (by simp) | refine heap_alloc_keep _ ?_))
                 · unfold maxLen at hml ⊢; omega
                 · omega
                 · first | omega | (simp; try omega)
                 intro g2 cap2 w8 hown8 hgrow8 hat8 hlt8
                 try go_split_ands
                 have hb8 : Below wr.heap.size wr w8 := Below.grown (by assumption) hgrow8 (by first | omega | (simp; try omega)) (by simp; try omega)
                 have hs8 := Below.size hb8
                 have hp8 : RulesAt w8 (some ⟨g2, 0, none⟩) (rs ++ [r]) := by
                   rw [HRC.out, ← rcells_append] at hown8
                   refine RulesAt.of_owns hown8 (fun s hs => ?_)
                   rcases List.mem_append.1 hs with hs | hs
                   · exact (HXR.out _ hb8).ints hs
                   · obtain rfl : s = r := by simpa using hs
                     exact ⟨hrx.out _ hb8, by rw [HRW.out]; simp [maxLen]; omega⟩
                 have hc8 : w8.cell? ⟨ball, 0, none⟩ = some (.slice (some ⟨gw, 0, none⟩) m cw) := hgrow8.cell (by assumption) (by simp; omega)
                 have hd8 : w8.cell? ⟨ball, 1, none⟩ = some (.int .i64 0) := hgrow8.cell (by assumption) (by simp; omega))
              | (go_at_call 7
                 refine (last_any m rs r HRW.out HOK.out (some ⟨_, 0, none⟩) _ _ hp8).mono ?_
                 rintro e w9 ⟨v9, ev9, rfl, hl9, hb9'⟩
                 have hb9 : Below wr.heap.size wr w9 := by first | exact hb8.trans (hb9'.mono hb8.size) | exact hb8.drew.trans (hb9'.mono hb8.drew.size)
                 have hc9 : w9.cell? ⟨ball, 0, none⟩ = some (.slice (some ⟨gw, 0, none⟩) m cw) := (hb9.cell (p := ⟨ball, 0, none⟩) hballs).trans hc0
                 have hd9 : w9.cell? ⟨ball, 1, none⟩ = some (.int .i64 0) := (hb9.cell (p := ⟨ball, 1, none⟩) hballs).trans hc1))
          all_goals
            go_wp2_with fail
            go_meet
            exact ⟨hl9, hb9⟩
        case rest =>
          obtain ⟨hl, hbc⟩ := hcut
          have HI := Lib.hid (In_any L t ao ac wc (HVR.out wc hbc) HL64.out)
          rw [← HIN.out] at HI
          have HBC := Lib.hid (HBW.out.trans (hbc.mono HBW.out.size))
          clear hbc hbx hc0 hc1
          have hee : (inL == inL) = true := by simp
          rcases hl with ⟨hk, c', rfl⟩ | ⟨hk, ⟨ao', ac', rfl⟩, rfl⟩
          · have hk2 : ((rs.length : Int) == 12) = true := by rw [hk]; rfl
            clear hk
            go_wp2_with fail
            refine HI.out.mono ?_
            rintro e w' ⟨rfl, rfl⟩
            go_wp2_with fail
            go_ret
            exact ⟨by simp, HBC.out⟩
          · go_wp2_with fail
            refine HI.out.mono ?_
            rintro e w' ⟨rfl, rfl⟩
            go_wp2_with fail
            go_ret
            exact ⟨by simp, HBC.out⟩
end Go.Proofs.YtpmfpegjkfnnkaaDoor
