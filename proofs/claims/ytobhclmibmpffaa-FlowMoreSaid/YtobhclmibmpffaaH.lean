import Derived.Test.YtobhclmibmpffaaG
namespace Go.Proofs.Ytobhclmibmpffaa
open Go.RowKit Go.Mine Go.Mine.Flow Go.Deep
set_option pp.maxSteps 400 in
set_option maxRecDepth 100000 in
set_option maxHeartbeats 1000000 in
theorem flowMore_walk (W : World) (n : Int) (lo : Option Addr) (lc : Nat) (es : List (Int × Int)) (hx : PairsAt W lo es) (hl : es.length ≤ maxLen) (hs : lo = none → es.length = 0) (hre : es.length * 16 ≤ 140737488351232) (x y i : Int) :
    Calls Try.prog 3 #[.int .i64 n, .slice lo es.length lc, .agg #[.int .i64 x, .int .i64 y], .int .i64 i] W fun e w' => e = .returned (.bool true) ∧ Below W.heap.size W w' := by
  obtain ⟨i0, hi0, hz0, hz1, hz2⟩ := info_parts info24
  go_enter Try.func3, Try.ntmps3
  go_wp2_with fail
  refine (flowed_true _).mono ?_
  rintro e w2 ⟨rfl, hb2⟩
  have hb1 : Below W.heap.size W (W.alloc (.cells #[.int .i64 x, .int .i64 y] 24)) := (Below.refl _ _).alloc (Nat.le_refl _) _
  have hbx : w2.heap[W.heap.size]? = some (.cells #[.int .i64 x, .int .i64 y] 24) := by rw [hb2.block _ (by simp)]; exact heap_alloc_new W _
  have hbW := hb1.trans (hb2.mono (by simp))
  have hc0 : w2.cell? ⟨W.heap.size, 0, none⟩ = some (.int .i64 x) := by rw [cell_of_row w2 _ 0 _ _ _ hbx]; rfl
  have hc1 : w2.cell? ⟨W.heap.size, 1, none⟩ = some (.int .i64 y) := by rw [cell_of_row w2 _ 1 _ _ _ hbx]; rfl
  have hsz := hb2.size
  simp at hsz
  have hx2 := hx.below (Nat.le_refl _) hbW
  clear hb1 hb2 hbx
  go_upto_region 2 with fail
  have hbx2 : Below w2.heap.size w2 w2 := Below.refl _ _
  go_cut [10] from 22 to 27 (fun v wx => ∃ g cap, v = .slice (some ⟨g, 0, none⟩) (es.length + 1) cap ∧ PairsAt wx (some ⟨g, 0, none⟩) (es ++ [(x, y)]) ∧ Below w2.heap.size w2 wx)
  case first =>
    go_region_held3 (fun w' => w'.cell? ⟨W.heap.size, 0, none⟩ = some (.int .i64 x) ∧ w'.cell? ⟨W.heap.size, 1, none⟩ = some (.int .i64 y) ∧ Below w2.heap.size w2 w')
      (first
        | (go_keep; done)
        | (try go_split_ands
           refine ⟨?_, ?_, ?_⟩
           · first | assumption | (go_keep; done)
           · first | assumption | (go_keep; done)
           · repeat' (first | assumption | exact Below.refl _ _ | refine Below.drew ?_ | refine Below.alloc ?_ (Below.size (B := w2.heap.size) ?_) _)))
      (first
        | ((refine step_append_any _ rfl (.tmp 22) (.tmp 23) 22 rfl w2.heap.size 24 i0 _ 2 16 Try.underlying22 hi0 hz0 hz1 hz2 rfl (by decide) _ 0 _ [] rfl ?_ lo es.length lc (two es) rfl (two_len es) hs ?_ (two_one es) ?_ ?_ ?_ _ rfl ?_)
           · refine owns_empty ?_ ?_
             · simp
             · repeat' (first | refine heap_drew_at ?_ | exact heap_alloc_at _ _ (by simp) | refine heap_alloc_keep _ ?_)
           · try go_split_ands
             exact (hx2.below (Nat.le_refl _) (by assumption)).cells
           · omega
           · omega
           · first | omega | (simp; try omega)
           intro g1 cap1 w7 hown7 hgrow7 hat7 hlt7
           simp only [Nat.zero_add, List.nil_append] at hown7 ⊢
           have hg7 := (hown7.lt g1 rfl).1
           try go_split_ands
           have hb7 : Below w2.heap.size w2 w7 := Below.grown (by assumption) hgrow7 (by first | omega | (simp; try omega)) (by simp; try omega)
           have hs7 := Below.size hb7
           have hc7 : w7.cell? ⟨W.heap.size, 0, none⟩ = some (.int .i64 x) := hgrow7.cell (by assumption) (by simp; omega)
           have hd7 : w7.cell? ⟨W.heap.size, 1, none⟩ = some (.int .i64 y) := hgrow7.cell (by assumption) (by simp; omega))
        | ((refine step_append_any _ rfl (.tmp 24) (.tmp 26) 22 rfl w2.heap.size 24 i0 _ 2 16 Try.underlying22 hi0 hz0 hz1 hz2 rfl (by decide) _ es.length _ (two es) rfl ?_ (some ⟨_, 0, none⟩) 1 1 [.int .i64 x, .int .i64 y] rfl rfl (by simp) ?_ (one2 _ _ _ _) ?_ ?_ ?_ _ rfl ?_)
           · first
               | exact hown7
               | exact hown7.alloc _
           · intro ad had
             cases had
             refine World.news_of_block (cs := #[.int .i64 x, .int .i64 y]) (t := 24) (fr := (0, 0)) ?_
             first
               | exact heap_alloc_at _ _ rfl
               | (refine grown_heap hgrow7 ?_ (by simp)
                  repeat' (first | refine heap_drew_at ?_ | exact heap_alloc_at _ _ (by simp) | refine heap_alloc_keep _ ?_))
           · unfold maxLen at hl ⊢; omega
           · omega
           · first | omega | (simp; try omega)
           intro g2 cap2 w8 hown8 hgrow8 hat8 hlt8
           try go_split_ands
           have hb8 : Below w2.heap.size w2 w8 := Below.grown (by assumption) hgrow8 (by first | omega | (simp; try omega)) (by simp; try omega)
           have hp8 : PairsAt w8 (some ⟨g2, 0, none⟩) (es ++ [(x, y)]) := by
             rw [show two es ++ [Value.int .i64 x, Value.int .i64 y] = two (es ++ [(x, y)]) by simp [two_append, two]] at hown8
             exact PairsAt.of_owns hown8
           have hc8 : w8.cell? ⟨W.heap.size, 0, none⟩ = some (.int .i64 x) := hgrow8.cell (by assumption) (by simp; omega)
           have hd8 : w8.cell? ⟨W.heap.size, 1, none⟩ = some (.int .i64 y) := hgrow8.cell (by assumption) (by simp; omega)))
    all_goals
      go_wp2_with fail
      go_meet
      exact ⟨_, _, rfl, hp8, hb8⟩
  case rest =>
    obtain ⟨g, cap, rfl, hpm, hbc⟩ := hcut
    have hbWc : Below W.heap.size W wc := hbW.trans (hbc.mono (by omega))
    have hxc := hx.below (Nat.le_refl _) hbWc
    have hlm : (es ++ [(x, y)]).length ≤ maxLen := by simp; unfold maxLen; omega
    have hmo : ∀ e, e ∈ nat es → e ∈ nat (es ++ [(x, y)]) := nat_more es (x, y)
    have hml : (es ++ [(x, y)]).length = es.length + 1 := by simp
    obtain ⟨more, hmore⟩ : ∃ more, more = es ++ [(x, y)] := ⟨_, rfl⟩
    rw [← hmore] at hpm hlm hmo hml
    have HMO := Lib.hid hmo
    clear hmore hmo hc0 hc1 hx2 hbx2 hbc hbW hx hs
    have h3 := Lib.hid (reach_val n es lo lc wc hxc hl)
    have h4 : RowKit.Hid (∀ w, PairsAt w (some ⟨g, 0, none⟩) more → Calls Try.prog 6 #[.int .i64 n, .slice (some ⟨g, 0, none⟩) (es.length + 1) cap] w fun e w' => ∃ s x, e = .returned (.tuple #[s, x]) ∧ RVal n more s x w' ∧ Below w.heap.size w w') := by
      refine Lib.hid fun w hw => ?_
      have := reach_val n more (some ⟨g, 0, none⟩) cap w hw hlm
      rwa [hml] at this
    have h6 : RowKit.Hid (∀ w, PairsAt w (some ⟨g, 0, none⟩) more → Calls Try.prog 7 #[.int .i64 n, .slice (some ⟨g, 0, none⟩) (es.length + 1) cap, .int .i64 i] w fun e w' => ∃ s x, e = .returned (.tuple #[s, x]) ∧ OVal n more i s x w' ∧ Below w.heap.size w w') := by
      refine Lib.hid fun w hw => ?_
      have := over_val n more i (some ⟨g, 0, none⟩) cap w hw hlm
      rwa [hml] at this
    have HPM := Lib.hid hpm
    have HXC := Lib.hid hxc
    have HBW := Lib.hid hbWc
    clear hpm hxc hbWc hlm hml
    go_wp2_with fail
    refine h3.out.mono ?_
    rintro e w3 ⟨s1, x1, rfl, hr1, hb3⟩
    have hpm3 := HPM.out.below (Nat.le_refl _) hb3
    have HR1 := Lib.hid hr1
    clear hr1
    go_wp2_with fail
    refine (h4.out _ hpm3).mono ?_
    rintro e w4 ⟨s2, x2, rfl, hr2, hb4⟩
    have hb34 := hb3.trans (hb4.mono hb3.size)
    have h5 := over_val n es i lo lc w4 (HXC.out.below (Nat.le_refl _) hb34) hl
    have HR1 := Lib.hid (HR1.out.below hb4)
    have HR2 := Lib.hid hr2
    have hpm4 := hpm3.below (Nat.le_refl _) hb4
    have HB4 := Lib.hid hb34
    clear hr2 hb34 hb3 hb4 hpm3
    go_wp2_with fail
    refine h5.mono ?_
    rintro e w5 ⟨s3, x3, rfl, hr3, hb5⟩
    have hpm5 := hpm4.below (Nat.le_refl _) hb5
    have HR1 := Lib.hid (HR1.out.below hb5)
    have HR2 := Lib.hid (HR2.out.below hb5)
    have HR3 := Lib.hid hr3
    have HB5 := Lib.hid (HB4.out.trans (hb5.mono HB4.out.size))
    clear hr3 hpm4 hb5 h5 HB4
    go_wp2_with fail
    refine (h6.out _ hpm5).mono ?_
    rintro e w6 ⟨s4, x4, rfl, hr4, hb6⟩
    have hr1 := HR1.out.below hb6
    have hr2 := HR2.out.below hb6
    have hr3 := HR3.out.below hb6
    have HB6 := Lib.hid (HBW.out.trans ((HB5.out.trans (hb6.mono HB5.out.size)).mono HBW.out.size))
    clear HR1 HR2 HR3 HB5 HBW HXC HPM h3 h4 h6 hpm5 hb6
    have HR3 := Lib.hid hr3
    have HR4 := Lib.hid hr4
    clear hr3 hr4
    rcases hr1 with ⟨rfl, hok1, ao1, cap1, zs1, rfl, hz1', hl1, hm1⟩ | ⟨⟨c, rfl⟩, hok1⟩
    · rcases hr2 with ⟨rfl, hok2, ao2, cap2, zs2, rfl, hz2', hl2, hm2⟩ | ⟨⟨c, rfl⟩, hok2⟩
      · have HOK1 := Lib.hid hok1
        have HOK2 := Lib.hid hok2
        have HZ1 := Lib.hid hz1'
        have HZ2 := Lib.hid hz2'
        have HSUB : RowKit.Hid (∀ x, x ∈ zs1 → decide (x ∈ zs2) = true) := Lib.hid fun x hx => by
          obtain ⟨v, rfl, hv, hr⟩ := (hm1 x).1 hx
          exact decide_eq_true ((hm2 _).2 ⟨v, rfl, hv, hr.more HMO.out⟩)
        clear hok1 hok2 hz1' hz2' hm1 hm2
        go_wp2_with fail
        go_loop [19] (fun v => ∃ j : Nat, v = .int .i64 j ∧ j ≤ zs1.length) (fun v => zs1.length - (intOf v).toNat)
        case atStart => exact ⟨0, rfl, by omega⟩
        case round =>
          obtain ⟨j, rfl, hj⟩ := hrel
          by_cases hlt : j < zs1.length
          · obtain ⟨b, o, rfl, hc⟩ := HZ1.out j hlt
            have hin := HSUB.out (zs1.getD j 0) (by simp [hlt])
            obtain ⟨z, hz⟩ : ∃ z, z = zs1.getD j 0 := ⟨_, rfl⟩
            rw [← hz] at hc hin
            clear hz
            have HIN := In_any zs2 z ao2 cap2 w6 HZ2.out (by unfold maxLen; omega)
            rw [hin] at HIN
            clear hin
            go_wp2_with fail
            refine HIN.mono ?_
            rintro e w' ⟨rfl, rfl⟩
            go_wp2_with fail
            go_round
            case rel => exact ⟨j + 1, by go_num, by omega⟩
            case measure => simp [intOf]; omega
          · have hje : j = zs1.length := by omega
            subst hje
            rcases HR3.out with ⟨rfl, _, h31, ao3, cap3, zs3, rfl, hz3', hl3, hp3⟩ | ⟨⟨c, rfl⟩, _⟩
            · rcases HR4.out with ⟨rfl, _, _, ao4, cap4, zs4, rfl, hz4', hl4, hp4⟩ | ⟨_, h4⟩
              · have HZ3 := Lib.hid hz3'
                have HZ4 := Lib.hid hz4'
                have HSUB2 : RowKit.Hid (∀ x, x ∈ zs4 → decide (x ∈ zs3) = true) := Lib.hid fun x hx => by
                  rw [hp4, passed_mem] at hx
                  obtain ⟨v, rfl, hv, hr⟩ := hx
                  rw [hp3]
                  exact decide_eq_true ((passed_mem _ _ _ _).2 ⟨v, rfl, hv, fun h => hr (h.more HMO.out)⟩)
                clear hz3' hz4' hp3 hp4 h31
                go_wp2_with fail
                go_loop [20] (fun v => ∃ j : Nat, v = .int .i64 j ∧ j ≤ zs4.length) (fun v => zs4.length - (intOf v).toNat)
                case atStart => exact ⟨0, rfl, by omega⟩
                case round =>
                  obtain ⟨k, rfl, hk⟩ := hrel
                  by_cases hlt2 : k < zs4.length
                  · obtain ⟨b, o, rfl, hc⟩ := HZ4.out k hlt2
                    have hin := HSUB2.out (zs4.getD k 0) (by simp [hlt2])
                    obtain ⟨z, hz⟩ : ∃ z, z = zs4.getD k 0 := ⟨_, rfl⟩
                    rw [← hz] at hc hin
                    clear hz
                    have HIN := In_any zs3 z ao3 cap3 w6 HZ3.out (by unfold maxLen; omega)
                    rw [hin] at HIN
                    clear hin
                    go_wp2_with fail
                    refine HIN.mono ?_
                    rintro e w' ⟨rfl, rfl⟩
                    go_wp2_with fail
                    go_round
                    case rel => exact ⟨k + 1, by go_num, by omega⟩
                    case measure => simp [intOf]; omega
                  · have hke : k = zs4.length := by omega
                    subst hke
                    go_wp2_with fail
                    go_ret
                    exact ⟨rfl, HB6.out⟩
              · exact absurd ⟨h31.1, h31.2.1, h31.2.2.more HMO.out⟩ (h4 HOK2.out)
            · go_wp2_with fail
              go_loop [20] (fun v => v = .int .i64 0) (fun _ => 0)
              case atStart => rfl
              case round =>
                subst hrel
                go_wp2_with fail
                go_ret
                exact ⟨rfl, HB6.out⟩
      · go_wp2_with fail
        go_ret
        exact ⟨rfl, HB6.out⟩
    · rcases hr2 with ⟨rfl, _, ao2, cap2, zs2, rfl, hz2', hl2, hm2⟩ | ⟨⟨c2, rfl⟩, hok2⟩
      · clear hz2' hm2
        go_wp2_with fail
        go_ret
        exact ⟨rfl, HB6.out⟩
      · go_wp2_with fail
        go_ret
        exact ⟨rfl, HB6.out⟩
end Go.Proofs.Ytobhclmibmpffaa
