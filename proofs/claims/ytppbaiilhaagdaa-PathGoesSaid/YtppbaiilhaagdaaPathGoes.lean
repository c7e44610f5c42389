/- PathGoes' walk: a path goes edge by edge from 0 to the last node, and is nowhere twice; with one edge more there are no fewer. No conditions but what the reading tells. -/
import Derived.Test.YtppbaiilhaagdaaPath7
import Derived.Test.YtppbaiilhaagdaaHasG
import Derived.Test.YtppbaiilhaagdaaQIn
namespace Go.Proofs.Ytppbaiilhaagdaa
open Go.RowKit Go.Mine Go.Mine.Path Go.Mine.Flow Go.Deep

theorem infoE : (Try.prog.info? 32).map (fun i => (i.zero, i.size, i.bytes)) = some (some (.agg #[.int .i64 0, .int .i64 0]), 2, 16) := by kernel_rfl
theorem nodup_take {w : List Nat} (h : w.Nodup) {i : Nat} (hi : i < w.length) : decide ((ints w).getD i 0 ∈ (ints w).take i) = false := by
  rw [decide_eq_false_iff_not]
  intro hm
  have e : (ints w).getD i 0 = ((w[i] : Nat) : Int) := by simp [ints, hi]
  have e2 : (ints w).take i = ints (w.take i) := by simp [ints, List.map_take]
  rw [e, e2] at hm
  simp only [ints, List.mem_map] at hm
  obtain ⟨k, hk, hke⟩ := hm
  have hke2 : k = w[i] := by omega
  subst hke2
  have hn := List.Nodup.sublist (List.take_sublist (i + 1) w) h
  rw [List.take_succ_eq_append_getElem hi, List.nodup_append] at hn
  exact hn.2.2 _ hk _ (List.mem_singleton.2 rfl) rfl
theorem nat_mem {n : Int} {es : List (Int × Int)} (hok : ok n es) {a b : Nat} (h : (a, b) ∈ natE es) : ((a : Int), (b : Int)) ∈ es := by
  simp only [natE, List.mem_map] at h
  obtain ⟨⟨x, y⟩, hm, he⟩ := h
  have := hok.2.2.2 _ hm
  simp only [Prod.mk.injEq] at he this
  have e1 : x = (a : Int) := by omega
  have e2 : y = (b : Int) := by omega
  rw [← e1, ← e2]
  exact hm
theorem natE_more (es : List (Int × Int)) (p : Int × Int) : ∀ e, e ∈ natE es → e ∈ natE (es ++ [p]) := fun e h => by
  simp only [natE, List.map_append, List.mem_append]
  exact .inl h
set_option maxHeartbeats 4000000 in
set_option maxRecDepth 100000 in
theorem pathGoes_any (n : Int) (es : List (Int × Int)) (k x y : Int) (lo : Option Addr) (lc : Nat) (W : World) (hx : PairsAt W lo es) (hl : es.length ≤ maxLen) (hs : lo = none → es.length = 0) (hc : lo ≠ none → es.length ≤ lc) (hre : es.length * 16 ≤ 140737488351232) :
    Calls Try.prog 4 #[.int .i64 n, .slice lo es.length lc, .int .i64 k, .agg #[.int .i64 x, .int .i64 y]] W fun e w' => e = .returned (.bool true) ∧ Below W.heap.size W w' := by
  obtain ⟨i0, hi0, hz0, hz1, hz2⟩ := info_parts infoE
  have HX := Lib.hid (show ∀ w, Below W.heap.size W w → PairsAt w lo es from fun w hb => hx.below (Nat.le_refl _) hb)
  have HL := Lib.hid (And.intro hl (And.intro hs (And.intro hc hre)))
  obtain ⟨w0, hw0⟩ : ∃ w0, w0 = W.alloc (.cells #[.int .i64 x, .int .i64 y] 32) := ⟨_, rfl⟩
  have hb0 : Below W.heap.size W w0 := by rw [hw0]; exact (Below.refl _ _).alloc (Nat.le_refl _) _
  have k0 : w0.cell? ⟨W.heap.size, 0, none⟩ = some (.int .i64 x) := by rw [hw0]; exact at_fst _ _ _ _ _ rfl
  have k1 : w0.cell? ⟨W.heap.size, 1, none⟩ = some (.int .i64 y) := by rw [hw0]; exact at_snd _ _ _ _ _ rfl
  have HXY := Lib.hid (And.intro k0 k1)
  have HB0 := Lib.hid hb0
  have HF := Lib.hid (pathed_any w0)
  have hw0' := hw0.symm
  clear hx hl hs hc hre hb0 k0 k1 hw0
  go_enter Try.func4, Try.ntmps4
  go_wp2_with fail
  clear hw0'
  refine HF.out.mono ?_
  clear HF
  rintro e w1 ⟨rfl, hb1⟩
  have HB1 := Lib.hid hb1
  have HN := Lib.hid (nth_any n es k lo lc w1 (HX.out w1 (HB0.out.trans (hb1.mono HB0.out.size))) HL.out.1 HL.out.2.2.1)
  clear hb1
  go_wp2_with fail
  refine HN.out.mono ?_
  clear HN
  rintro e w2 ⟨hb, hp⟩
  have HB2 := Lib.hid (HB1.out.trans (hb.mono HB1.out.size))
  have hpp : ∃ ao m cap x1, e = .returned (.tuple #[.slice ao m cap, x1]) ∧ ((x1 = .nilIface ∧ pathOk n es ∧ ∃ w : List Nat, w.length = m ∧ IsPath (natE es) n.toNat 0 w ∧ IntsAt .i64 w2 ao (ints w) ∧ m ≤ cap) ∨ ∃ c : Int, x1 = .iface 48 (.int .i64 c)) := by
    rcases hp with ⟨hok, w, ao, cap, _, hkw, rfl, hiw, hcap⟩ | ⟨_, _, rfl⟩ | ⟨_, c, rfl, _, _⟩
    · exact ⟨ao, w.length, cap, _, rfl, .inl ⟨rfl, hok, w, rfl, paths_isPath (List.mem_of_getElem? hkw), hiw, hcap⟩⟩
    · exact ⟨none, 0, 0, _, rfl, .inr ⟨1, rfl⟩⟩
    · exact ⟨none, 0, 0, _, rfl, .inr ⟨c, rfl⟩⟩
  obtain ⟨ao, m, cap, x1, rfl, hx1⟩ := hpp
  have HX1 := Lib.hid hx1
  clear hb hp hx1
  rcases HX1.out with ⟨rfl, hok, w, rfl, hpath, hiw, hcap⟩ | ⟨c0, rfl⟩
  rotate_left
  · clear HX1
    have hb3 : Below w0.heap.size w0 w2 := HB2.out
    obtain ⟨w3, hw3⟩ : ∃ w3, w3 = w2 := ⟨_, rfl⟩
    subst hw3
    have HB3 := Lib.hid hb3
    have HC1 := Lib.hid (pcount_any n es lo lc w3 (HX.out w3 (HB0.out.trans (hb3.mono HB0.out.size))) HL.out.1 HL.out.2.2.1)
    clear hb3
    go_wp2_with fail
    refine HC1.out.mono ?_
    clear HC1
    rintro e w4 ⟨hb, hp⟩
    obtain ⟨z1, x2, rfl, hq1⟩ : ∃ (z1 : Nat) (x2 : Value), e = .returned (.tuple #[.int .i64 (z1 : Int), x2]) ∧ ((x2 = .nilIface ∧ z1 = np (natE es) n.toNat 0 ∧ z1 ≤ 1792160394037) ∨ ∃ c : Int, x2 = .iface 48 (.int .i64 c)) := by
      rcases hp with ⟨hok, rfl⟩ | ⟨_, c, rfl, _, _⟩
      · exact ⟨_, _, rfl, .inl ⟨rfl, rfl, np_le _ _ _ (by have := hok.1.2.1; omega)⟩⟩
      · exact ⟨0, _, rfl, .inr ⟨c, rfl⟩⟩
    have HQ1 := Lib.hid hq1
    have hb4 : Below w0.heap.size w0 w4 := HB3.out.trans (hb.mono HB3.out.size)
    have HB4 := Lib.hid hb4
    have hW0 : W.heap.size < w0.heap.size := World.block_lt_of_cell? w0 _ HXY.out.1
    have hs4 := hb4.size
    have hc0 : w4.cell? ⟨W.heap.size, 0, none⟩ = some (.int .i64 x) := (hb4.cell hW0).trans HXY.out.1
    have hc1 : w4.cell? ⟨W.heap.size, 1, none⟩ = some (.int .i64 y) := (hb4.cell hW0).trans HXY.out.2
    have hx2 := HX.out w4 (HB0.out.trans (hb4.mono HB0.out.size))
    have hs := HL.out.2.1
    have hl := HL.out.1
    have hre := HL.out.2.2.2
    have hbx2 : Below w4.heap.size w4 w4 := Below.refl _ _
    have hml : (es ++ [(x, y)]).length = es.length + 1 := by simp
    have hlm : (es ++ [(x, y)]).length ≤ maxLen := by rw [hml]; unfold maxLen at hl ⊢; omega
    have HC2 := Lib.hid (show ∀ (w : World) (g cap2 : Nat), PairsAt w (some ⟨g, 0, none⟩) (es ++ [(x, y)]) → es.length + 1 ≤ cap2 → Calls Try.prog 6 #[.int .i64 n, .slice (some ⟨g, 0, none⟩) (es.length + 1) cap2] w fun e w' => ∃ (z2 : Nat) (x3 : Value), e = .returned (.tuple #[.int .i64 (z2 : Int), x3]) ∧ ((x3 = .nilIface ∧ z2 = np (natE (es ++ [(x, y)])) n.toNat 0) ∨ ∃ c : Int, x3 = .iface 48 (.int .i64 c)) ∧ Below w.heap.size w w' from fun w g cap2 hp hcap => by
      have h := pcount_any n (es ++ [(x, y)]) (some ⟨g, 0, none⟩) cap2 w hp hlm (fun _ => by rw [hml]; exact hcap)
      rw [hml] at h
      refine h.mono ?_
      rintro e w' ⟨hb, ⟨hok, rfl⟩ | ⟨_, c, rfl, _, _⟩⟩
      · exact ⟨_, _, rfl, .inl ⟨rfl, rfl⟩, hb⟩
      · exact ⟨0, _, rfl, .inr ⟨c, rfl⟩, hb⟩)
    clear hb hp hq1 HB3 hb4 hlm hml
    go_upto_region 14 with fail
    go_cut [15, 16] from 87 to 97 (fun cv ev wx => ∃ (z2 : Nat) (x3 : Value), cv = .int .i64 (z2 : Int) ∧ ev = x3 ∧ RowKit.Hid ((x3 = .nilIface ∧ z2 = np (natE (es ++ [(x, y)])) n.toNat 0) ∨ ∃ c : Int, x3 = .iface 48 (.int .i64 c)) ∧ RowKit.Hid (Below w4.heap.size w4 wx))
    case first =>
      go_region_held3 (fun w' => w'.cell? ⟨W.heap.size, 0, none⟩ = some (.int .i64 x) ∧ w'.cell? ⟨W.heap.size, 1, none⟩ = some (.int .i64 y) ∧ Below w4.heap.size w4 w')
        (first
          | (go_keep; done)
          | (try go_split_ands
             refine ⟨?_, ?_, ?_⟩
             · first | assumption | (go_keep; done)
             · first | assumption | (go_keep; done)
             · repeat' (first | assumption | exact Below.refl _ _ | refine Below.drew ?_ | refine Below.alloc ?_ (Below.size (B := w4.heap.size) ?_) _)))
        (first
          | ((refine step_append_any _ rfl (.tmp 89) (.tmp 90) 22 rfl w4.heap.size 32 i0 _ 2 16 Try.underlying22 hi0 hz0 hz1 hz2 rfl (by decide) _ 0 _ [] rfl ?_ lo es.length lc (two es) rfl (two_len es) hs ?_ (two_one es) ?_ ?_ ?_ _ rfl ?_)
             · refine owns_empty ?_ ?_
               · simp
               · repeat' (first | refine heap_drew_at ?_ | exact heap_alloc_at _ _ (by simp) | refine heap_alloc_keep _ ?_)
             · try go_split_ands
               exact (hx2.below (Nat.le_refl _) (by assumption)).cells
             · omega
             · omega
             · first | omega | (simp; try omega)
             intro g1 cap1 w7 hown7 hgrow7 hat7 hlt7
             simp only [Nat.zero_add, List.nil_append] at hown7 ⊢
             have hg7 := (hown7.lt g1 rfl).1
             try go_split_ands
             have hb7 : Below w4.heap.size w4 w7 := Below.grown (by assumption) hgrow7 (by first | omega | (simp; try omega)) (by simp; try omega)
             have hs7 := Below.size hb7
             have hc7 : w7.cell? ⟨W.heap.size, 0, none⟩ = some (.int .i64 x) := hgrow7.cell (by assumption) (by simp; omega)
             have hd7 : w7.cell? ⟨W.heap.size, 1, none⟩ = some (.int .i64 y) := hgrow7.cell (by assumption) (by simp; omega))
          | ((refine step_append_any _ rfl (.tmp 91) (.tmp 93) 22 rfl w4.heap.size 32 i0 _ 2 16 Try.underlying22 hi0 hz0 hz1 hz2 rfl (by decide) _ es.length _ (two es) rfl ?_ (some ⟨_, 0, none⟩) 1 1 [.int .i64 x, .int .i64 y] rfl rfl (by simp) ?_ (one2 _ _ _ _) ?_ ?_ ?_ _ rfl ?_)
             · first
                 | exact hown7
                 | exact hown7.alloc _
             · intro ad had
               cases had
               refine World.news_of_block (cs := #[.int .i64 x, .int .i64 y]) (t := 32) (fr := (0, 0)) ?_
               first
                 | exact heap_alloc_at _ _ rfl
                 | (refine grown_heap hgrow7 ?_ (by simp)
                    repeat' (first | refine heap_drew_at ?_ | exact heap_alloc_at _ _ (by simp) | refine heap_alloc_keep _ ?_))
             · unfold maxLen at hl ⊢; omega
             · omega
             · first | omega | (simp; try omega)
             intro g2 cap2 w8 hown8 hgrow8 hat8 hlt8
             try go_split_ands
             have hb8 : Below w4.heap.size w4 w8 := Below.grown (by assumption) hgrow8 (by first | omega | (simp; try omega)) (by simp; try omega)
             have hcap8 := own_room hown8
             have hp8 : PairsAt w8 (some ⟨g2, 0, none⟩) (es ++ [(x, y)]) := by
               rw [show two es ++ [Value.int .i64 x, Value.int .i64 y] = two (es ++ [(x, y)]) by simp [two_append, two]] at hown8
               exact PairsAt.of_owns hown8
             have hc8 : w8.cell? ⟨W.heap.size, 0, none⟩ = some (.int .i64 x) := hgrow8.cell (by assumption) (by simp; omega)
             have hd8 : w8.cell? ⟨W.heap.size, 1, none⟩ = some (.int .i64 y) := hgrow8.cell (by assumption) (by simp; omega))
          | ((go_at_call 6
              (with_reducible refine (HC2.out _ _ _ hp8 hcap8).mono ?_))
             rintro e w9 ⟨z2, x3, rfl, hq3, hb9'⟩
             have hb9 : Below w4.heap.size w4 w9 := hb8.trans (hb9'.mono hb8.size)
             have hc9 := (hb9'.cell (World.block_lt_of_cell? w8 _ hc8)).trans hc8
             have hd9 := (hb9'.cell (World.block_lt_of_cell? w8 _ hd8)).trans hd8))
      all_goals
        have HQ3 := Lib.hid hq3
        have HB9 := Lib.hid hb9
        clear hq3
        go_wp2_with fail
        go_meet
        exact ⟨z2, x3, rfl, rfl, HQ3, HB9⟩
    case rest =>
      obtain ⟨z2, x3, rfl, rfl, hq3, hb9⟩ := hcut
      have HB9 := Lib.hid (HB0.out.trans ((HB4.out.trans (hb9.out.mono HB4.out.size)).mono HB0.out.size))
      rcases HQ1.out with ⟨rfl, hz1e, hz1b⟩ | ⟨c, rfl⟩
      · rcases hq3.out with ⟨rfl, hz2e⟩ | ⟨c, rfl⟩
        · have hle : z1 ≤ z2 := by rw [hz1e, hz2e]; exact np_more (natE_more es (x, y)) 0
          have d1 : decide ((z1 : Int) ≤ (z2 : Int)) = true := by simp; omega
          have d2 : decide (z1 ≤ z2) = true := by simp; omega
          clear hz1e hz2e hq3 hb9 HQ1
          go_wp2_with fail
          go_ret
          exact ⟨rfl, HB9.out⟩
        · clear hq3 hb9 HQ1 hz1e
          go_wp2_with fail
          go_ret
          exact ⟨rfl, HB9.out⟩
      · clear hq3 hb9 HQ1
        go_wp2_with fail
        go_ret
        exact ⟨rfl, HB9.out⟩
  obtain ⟨N, hNe⟩ := Int.eq_ofNat_of_zero_le (show 0 ≤ n by have := hok.1.1; omega)
  have hn1 : 1 ≤ n := hok.1.1
  have hn12 : n ≤ 12 := hok.1.2.1
  have hN0 : 0 < N := by omega
  have hN12 : N ≤ 12 := by omega
  rw [show n.toNat = N by omega] at hpath
  have hes : ∀ e ∈ natE es, e.1 < N ∧ e.2 < N := by have h := nat_ok hok.1; rw [show n.toNat = N by omega] at h; exact h
  have HNE := Lib.hid hNe
  clear hNe
  have hgood := good_of_acy hes hok.2.2 0
  obtain ⟨r, hwr⟩ := hpath.start
  have hnd : w.Nodup := by rw [hwr]; exact (by rw [← hwr]; exact hpath.walk : Walk (natE es) (0 :: r)).nodup hgood
  have hwl : w.length ≤ 12 := by
    have h := (by rw [← hwr]; exact hpath.walk : Walk (natE es) (0 :: r)).short hes hgood hN0
    rw [← hwr] at h
    omega
  have hwl1 : 0 < w.length := by rw [hwr]; simp
  have HPA := Lib.hid (And.intro hok (And.intro hpath hnd))
  have HIW := Lib.hid hiw
  have HFIRST := Lib.hid (show w.getD 0 0 = 0 by rw [hwr]; rfl)
  have HLAST := Lib.hid (show w.getD (w.length - 1) 0 = N - 1 by
    have h := hpath.end_
    rw [List.getLast?_eq_getElem?] at h
    simp [List.getD_eq_getElem?_getD, h])
  obtain ⟨b, o, rfl, _⟩ := hiw 0 (by rw [ints_len]; exact hwl1)
  have HCE := Lib.hid (show ∀ j, j < w.length → w2.cell? ⟨b, o + j, none⟩ = some (.int .i64 ((w.getD j 0 : Nat) : Int)) from fun j hj => by
    obtain ⟨b2, o2, e2, h2⟩ := hiw j (by rw [ints_len]; exact hj)
    cases e2
    rw [show (ints w).getD j 0 = ((w.getD j 0 : Nat) : Int) by simp [ints, hj]] at h2
    exact h2)
  obtain ⟨m, hm⟩ : ∃ m, w.length = m + 1 := ⟨w.length - 1, by omega⟩
  have HM := Lib.hid hm
  rw [hm] at hcap hwl HLAST HCE ⊢
  clear hok hpath hes hgood hwr hnd hiw hwl1 hm HX1
  go_wp2_with fail
  go_loopw [12] (fun iv wr => ∃ i nq : Nat, iv = .int .i64 (i : Int) ∧ i ≤ m + 1 ∧ RowKit.Hid (wr = w2.drewN nq)) (fun iv _ => m + 1 - (intOf iv).toNat)
  case atStart => exact ⟨0, 0, rfl, by omega, Lib.hid (drewN_zero _).symm⟩
  case round =>
    obtain ⟨i, nq, rfl, hi, hwr⟩ := hrel
    have HWR := Lib.hid hwr.out
    clear hwr
    by_cases him : i < m + 1
    · have c0 : wr.cell? ⟨b, o + i, none⟩ = some (.int .i64 ((w.getD i 0 : Nat) : Int)) := by rw [HWR.out]; exact HCE.out i him
      have hlen : ((ints w).take i).length = i := by rw [List.length_take, ints_len, HM.out]; omega
      have HIN := Lib.hid (fun nq' => show Calls Try.prog 10 #[.slice (some ⟨b, o, none⟩) i cap, .int .i64 ((w.getD i 0 : Nat) : Int)] (wr.drewN nq') fun e w' => e = .returned (.bool false) ∧ wr.drewN nq' = w' from by
        have h := In_any ((ints w).take i) ((w.getD i 0 : Nat) : Int) (some ⟨b, o, none⟩) cap (wr.drewN nq') (fun j hj => by
          rw [hlen] at hj
          refine ⟨b, o, rfl, ?_⟩
          have h1 := HCE.out j (by omega)
          have e : ((ints w).take i).getD j 0 = ((w.getD j 0 : Nat) : Int) := by
            simp only [List.getD_eq_getElem?_getD]
            rw [List.getElem?_take_of_lt hj]
            simp [ints, HM.out, show j < m + 1 by omega]
          rw [e, HWR.out]
          exact h1) (by rw [hlen]; unfold maxLen; omega)
        rw [hlen] at h
        have hn := nodup_take HPA.out.2.2 (i := i) (by rw [HM.out]; exact him)
        rw [show (ints w).getD i 0 = ((w.getD i 0 : Nat) : Int) by simp [ints, HM.out, him]] at hn
        rw [hn] at h
        exact h)
      have hi0 : (0 : Int) ≤ (i : Int) := by omega
      have hic : (i : Int) ≤ (cap : Int) := by omega
      have him2 : (i : Int) < (m : Int) + 1 := by omega
      have HWR2 := Lib.hid (show Below W.heap.size W wr by rw [HWR.out]; exact below_drewN (HB0.out.trans (HB2.out.mono HB0.out.size)) nq)
      by_cases hz : i = 0
      · subst hz
        rw [Nat.add_zero] at c0
        have e1 : (0 : Int) ≤ (cap : Int) := by omega
        have e2 : (0 : Int) < (m : Int) + 1 := by omega
        obtain ⟨v0, hv0⟩ : ∃ v0 : Int, v0 = ((w.getD 0 0 : Nat) : Int) := ⟨_, rfl⟩
        rw [← hv0] at c0 HIN
        clear hlen hv0
        go_wp2_with fail
        go_quiet (first | (go_at_call 10; refine Calls.quiet_of_same ((HIN.out _).mono fun e w' h => ⟨h.1, h.2.symm⟩)))
        go_wp2_with fail
        go_roundw
        case rel => exact ⟨1, _, rfl, by omega, Lib.hid (by rw [HWR.out]; exact drewN_drewN _ _ _)⟩
        case measure => first | (simp [intOf]; done) | (simp [intOf]; omega)
      · obtain ⟨q, rfl⟩ : ∃ q, i = q + 1 := ⟨i - 1, by omega⟩
        have c1 : wr.cell? ⟨b, o + q, none⟩ = some (.int .i64 ((w.getD q 0 : Nat) : Int)) := by rw [HWR.out]; exact HCE.out q (by omega)
        have hedge : ((w.getD q 0 : Nat), (w.getD (q + 1) 0 : Nat)) ∈ natE es := walk_pair (q := q) HPA.out.2.1.walk (by simp [List.getD_eq_getElem?_getD, HM.out, show q < m + 1 by omega]) (by simp [List.getD_eq_getElem?_getD, HM.out, him])
        have HHE := Lib.hid (fun nq' => show Calls Try.prog 11 #[.slice lo es.length lc, .int .i64 ((w.getD q 0 : Nat) : Int), .int .i64 ((w.getD (q + 1) 0 : Nat) : Int)] (wr.drewN nq') fun e w' => e = .returned (.bool true) ∧ wr.drewN nq' = w' from by
          have h := hasEdge_any es ((w.getD q 0 : Nat) : Int) ((w.getD (q + 1) 0 : Nat) : Int) lo lc (wr.drewN nq') ((HX.out wr HWR2.out)) HL.out.1
          rw [decide_eq_true (nat_mem HPA.out.1.1 hedge)] at h
          exact h)
        obtain ⟨v0, hv0⟩ : ∃ v0 : Int, v0 = ((w.getD q 0 : Nat) : Int) := ⟨_, rfl⟩
        obtain ⟨v1, hv1⟩ : ∃ v1 : Int, v1 = ((w.getD (q + 1) 0 : Nat) : Int) := ⟨_, rfl⟩
        rw [← hv0] at c1 HHE
        rw [← hv1] at c0 HIN HHE
        have d1 : decide ((0 : Int) < (((q + 1 : Nat)) : Int)) = true := by first | (simp; done) | (simp; omega)
        have d2 : decide ((0 : Int) < (q : Int) + 1) = true := by first | (simp; done) | (simp; omega)
        have d3 : decide (0 < q + 1) = true := by simp
        have hq0 : (0 : Int) ≤ (q : Int) := by omega
        have hqm : (q : Int) < (m : Int) + 1 := by omega
        have hqe : IntKind.i64.wrap (((q + 1 : Nat) : Int) - 1) = (q : Int) := by rw [show ((q + 1 : Nat) : Int) - 1 = (q : Int) by omega]; exact IntWalk.i64_in _ (by omega)
        have hqe2 : IntKind.i64.wrap ((q : Int) + 1 - 1) = (q : Int) := by rw [show (q : Int) + 1 - 1 = (q : Int) by omega]; exact IntWalk.i64_in _ (by omega)
        clear hlen hedge hv0 hv1 hz
        go_wp2_with fail
        go_quiet (first | (go_at_call 10; refine Calls.quiet_of_same ((HIN.out _).mono fun e w' h => ⟨h.1, h.2.symm⟩)) | (go_at_call 11; refine Calls.quiet_of_same ((HHE.out _).mono fun e w' h => ⟨h.1, h.2.symm⟩)))
        clear hqe hqe2
        go_wp2_with fail
        go_roundw
        case rel => exact ⟨q + 2, _, by go_num, by omega, Lib.hid (by rw [HWR.out]; exact drewN_drewN _ _ _)⟩
        case measure => first | (simp [intOf]; done) | (simp [intOf]; omega)
    · obtain rfl : i = m + 1 := by omega
      have c0 : wr.cell? ⟨b, o, none⟩ = some (.int .i64 0) := by rw [HWR.out]; have h := HCE.out 0 (by omega); rw [HFIRST.out] at h; exact h
      have cm : wr.cell? ⟨b, o + m, none⟩ = some (.int .i64 (n - 1)) := by
        rw [HWR.out]
        have h := HCE.out m (by omega)
        have e := HLAST.out
        rw [Nat.add_sub_cancel] at e
        rw [e, show (((N - 1 : Nat)) : Int) = n - 1 by have := HNE.out; omega] at h
        exact h
      have hb : ((m : Int) + 1 == 0) = false := by rw [beq_eq_false_iff_ne]; omega
      have hb5 : (n - 1 != n - 1) = false := by rw [bne_eq_false_iff_eq]
      have hm0 : (0 : Int) ≤ (m : Int) := by omega
      have hmm : (m : Int) < (m : Int) + 1 := by omega
      go_wp2_with fail
      clear c0 cm hb hb5 hm0 hmm
      have hb3 : Below w0.heap.size w0 wr := by rw [HWR.out]; exact below_drewN HB2.out nq
      obtain ⟨w3, hw3⟩ : ∃ w3, w3 = wr := ⟨_, rfl⟩
      subst hw3
      have HB3 := Lib.hid hb3
      have HC1 := Lib.hid (pcount_any n es lo lc w3 (HX.out w3 (HB0.out.trans (hb3.mono HB0.out.size))) HL.out.1 HL.out.2.2.1)
      clear hb3
      refine HC1.out.mono ?_
      clear HC1
      rintro e w4 ⟨hb, hp⟩
      obtain ⟨z1, x2, rfl, hq1⟩ : ∃ (z1 : Nat) (x2 : Value), e = .returned (.tuple #[.int .i64 (z1 : Int), x2]) ∧ ((x2 = .nilIface ∧ z1 = np (natE es) n.toNat 0 ∧ z1 ≤ 1792160394037) ∨ ∃ c : Int, x2 = .iface 48 (.int .i64 c)) := by
        rcases hp with ⟨hok, rfl⟩ | ⟨_, c, rfl, _, _⟩
        · exact ⟨_, _, rfl, .inl ⟨rfl, rfl, np_le _ _ _ (by have := hok.1.2.1; omega)⟩⟩
        · exact ⟨0, _, rfl, .inr ⟨c, rfl⟩⟩
      have HQ1 := Lib.hid hq1
      have hb4 : Below w0.heap.size w0 w4 := HB3.out.trans (hb.mono HB3.out.size)
      have HB4 := Lib.hid hb4
      have hW0 : W.heap.size < w0.heap.size := World.block_lt_of_cell? w0 _ HXY.out.1
      have hs4 := hb4.size
      have hc0 : w4.cell? ⟨W.heap.size, 0, none⟩ = some (.int .i64 x) := (hb4.cell hW0).trans HXY.out.1
      have hc1 : w4.cell? ⟨W.heap.size, 1, none⟩ = some (.int .i64 y) := (hb4.cell hW0).trans HXY.out.2
      have hx2 := HX.out w4 (HB0.out.trans (hb4.mono HB0.out.size))
      have hs := HL.out.2.1
      have hl := HL.out.1
      have hre := HL.out.2.2.2
      have hbx2 : Below w4.heap.size w4 w4 := Below.refl _ _
      have hml : (es ++ [(x, y)]).length = es.length + 1 := by simp
      have hlm : (es ++ [(x, y)]).length ≤ maxLen := by rw [hml]; unfold maxLen at hl ⊢; omega
      have HC2 := Lib.hid (show ∀ (w : World) (g cap2 : Nat), PairsAt w (some ⟨g, 0, none⟩) (es ++ [(x, y)]) → es.length + 1 ≤ cap2 → Calls Try.prog 6 #[.int .i64 n, .slice (some ⟨g, 0, none⟩) (es.length + 1) cap2] w fun e w' => ∃ (z2 : Nat) (x3 : Value), e = .returned (.tuple #[.int .i64 (z2 : Int), x3]) ∧ ((x3 = .nilIface ∧ z2 = np (natE (es ++ [(x, y)])) n.toNat 0) ∨ ∃ c : Int, x3 = .iface 48 (.int .i64 c)) ∧ Below w.heap.size w w' from fun w g cap2 hp hcap => by
        have h := pcount_any n (es ++ [(x, y)]) (some ⟨g, 0, none⟩) cap2 w hp hlm (fun _ => by rw [hml]; exact hcap)
        rw [hml] at h
        refine h.mono ?_
        rintro e w' ⟨hb, ⟨hok, rfl⟩ | ⟨_, c, rfl, _, _⟩⟩
        · exact ⟨_, _, rfl, .inl ⟨rfl, rfl⟩, hb⟩
        · exact ⟨0, _, rfl, .inr ⟨c, rfl⟩, hb⟩)
      clear hb hp hq1 HB3 hb4 hlm hml
      go_upto_region 14 with fail
      go_cut [15, 16] from 87 to 97 (fun cv ev wx => ∃ (z2 : Nat) (x3 : Value), cv = .int .i64 (z2 : Int) ∧ ev = x3 ∧ RowKit.Hid ((x3 = .nilIface ∧ z2 = np (natE (es ++ [(x, y)])) n.toNat 0) ∨ ∃ c : Int, x3 = .iface 48 (.int .i64 c)) ∧ RowKit.Hid (Below w4.heap.size w4 wx))
      case first =>
        go_region_held3 (fun w' => w'.cell? ⟨W.heap.size, 0, none⟩ = some (.int .i64 x) ∧ w'.cell? ⟨W.heap.size, 1, none⟩ = some (.int .i64 y) ∧ Below w4.heap.size w4 w')
          (first
            | (go_keep; done)
            | (try go_split_ands
               refine ⟨?_, ?_, ?_⟩
               · first | assumption | (go_keep; done)
               · first | assumption | (go_keep; done)
               · repeat' (first | assumption | exact Below.refl _ _ | refine Below.drew ?_ | refine Below.alloc ?_ (Below.size (B := w4.heap.size) ?_) _)))
          (first
            | ((refine step_append_any _ rfl (.tmp 89) (.tmp 90) 22 rfl w4.heap.size 32 i0 _ 2 16 Try.underlying22 hi0 hz0 hz1 hz2 rfl (by decide) _ 0 _ [] rfl ?_ lo es.length lc (two es) rfl (two_len es) hs ?_ (two_one es) ?_ ?_ ?_ _ rfl ?_)
               · refine owns_empty ?_ ?_
                 · simp
                 · repeat' (first | refine heap_drew_at ?_ | exact heap_alloc_at _ _ (by simp) | refine heap_alloc_keep _ ?_)
               · try go_split_ands
                 exact (hx2.below (Nat.le_refl _) (by assumption)).cells
               · omega
               · omega
               · first | omega | (simp; try omega)
               intro g1 cap1 w7 hown7 hgrow7 hat7 hlt7
               simp only [Nat.zero_add, List.nil_append] at hown7 ⊢
               have hg7 := (hown7.lt g1 rfl).1
               try go_split_ands
               have hb7 : Below w4.heap.size w4 w7 := Below.grown (by assumption) hgrow7 (by first | omega | (simp; try omega)) (by simp; try omega)
               have hs7 := Below.size hb7
               have hc7 : w7.cell? ⟨W.heap.size, 0, none⟩ = some (.int .i64 x) := hgrow7.cell (by assumption) (by simp; omega)
               have hd7 : w7.cell? ⟨W.heap.size, 1, none⟩ = some (.int .i64 y) := hgrow7.cell (by assumption) (by simp; omega))
            | ((refine step_append_any _ rfl (.tmp 91) (.tmp 93) 22 rfl w4.heap.size 32 i0 _ 2 16 Try.underlying22 hi0 hz0 hz1 hz2 rfl (by decide) _ es.length _ (two es) rfl ?_ (some ⟨_, 0, none⟩) 1 1 [.int .i64 x, .int .i64 y] rfl rfl (by simp) ?_ (one2 _ _ _ _) ?_ ?_ ?_ _ rfl ?_)
               · first
                   | exact hown7
                   | exact hown7.alloc _
               · intro ad had
                 cases had
                 refine World.news_of_block (cs := #[.int .i64 x, .int .i64 y]) (t := 32) (fr := (0, 0)) ?_
                 first
                   | exact heap_alloc_at _ _ rfl
                   | (refine grown_heap hgrow7 ?_ (by simp)
                      repeat' (first | refine heap_drew_at ?_ | exact heap_alloc_at _ _ (by simp) | refine heap_alloc_keep _ ?_))
               · unfold maxLen at hl ⊢; omega
               · omega
               · first | omega | (simp; try omega)
               intro g2 cap2 w8 hown8 hgrow8 hat8 hlt8
               try go_split_ands
               have hb8 : Below w4.heap.size w4 w8 := Below.grown (by assumption) hgrow8 (by first | omega | (simp; try omega)) (by simp; try omega)
               have hcap8 := own_room hown8
               have hp8 : PairsAt w8 (some ⟨g2, 0, none⟩) (es ++ [(x, y)]) := by
                 rw [show two es ++ [Value.int .i64 x, Value.int .i64 y] = two (es ++ [(x, y)]) by simp [two_append, two]] at hown8
                 exact PairsAt.of_owns hown8
               have hc8 : w8.cell? ⟨W.heap.size, 0, none⟩ = some (.int .i64 x) := hgrow8.cell (by assumption) (by simp; omega)
               have hd8 : w8.cell? ⟨W.heap.size, 1, none⟩ = some (.int .i64 y) := hgrow8.cell (by assumption) (by simp; omega))
            | ((go_at_call 6
                (with_reducible refine (HC2.out _ _ _ hp8 hcap8).mono ?_))
               rintro e w9 ⟨z2, x3, rfl, hq3, hb9'⟩
               have hb9 : Below w4.heap.size w4 w9 := hb8.trans (hb9'.mono hb8.size)
               have hc9 := (hb9'.cell (World.block_lt_of_cell? w8 _ hc8)).trans hc8
               have hd9 := (hb9'.cell (World.block_lt_of_cell? w8 _ hd8)).trans hd8))
        all_goals
          have HQ3 := Lib.hid hq3
          have HB9 := Lib.hid hb9
          clear hq3
          go_wp2_with fail
          go_meet
          exact ⟨z2, x3, rfl, rfl, HQ3, HB9⟩
      case rest =>
        obtain ⟨z2, x3, rfl, rfl, hq3, hb9⟩ := hcut
        have HB9 := Lib.hid (HB0.out.trans ((HB4.out.trans (hb9.out.mono HB4.out.size)).mono HB0.out.size))
        rcases HQ1.out with ⟨rfl, hz1e, hz1b⟩ | ⟨c, rfl⟩
        · rcases hq3.out with ⟨rfl, hz2e⟩ | ⟨c, rfl⟩
          · have hle : z1 ≤ z2 := by rw [hz1e, hz2e]; exact np_more (natE_more es (x, y)) 0
            have d1 : decide ((z1 : Int) ≤ (z2 : Int)) = true := by simp; omega
            have d2 : decide (z1 ≤ z2) = true := by simp; omega
            clear hz1e hz2e hq3 hb9 HQ1
            go_wp2_with fail
            go_ret
            exact ⟨rfl, HB9.out⟩
          · clear hq3 hb9 HQ1 hz1e
            go_wp2_with fail
            go_ret
            exact ⟨rfl, HB9.out⟩
        · clear hq3 hb9 HQ1
          go_wp2_with fail
          go_ret
          exact ⟨rfl, HB9.out⟩
end Go.Proofs.Ytppbaiilhaagdaa
