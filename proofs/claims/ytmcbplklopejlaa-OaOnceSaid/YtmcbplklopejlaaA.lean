/- OaOnce's walk. No condition. -/
import Derived.Test.YtmcbplklopejlaaOa4
import Derived.Test.YtmcbplklopejlaaMore
import Derived.Deep.RegionHeld3
import Derived.Deep.Cut
import Derived.Deep.CutBlock
namespace Go.Proofs.Ytmcbplklopejlaa
open Go.RowKit Go.Mine Go.Deep

theorem qok_nat {q : Int} (h : qok q) : ∃ n : Nat, q = n ∧ (n = 2 ∨ n = 3 ∨ n = 5 ∨ n = 7) := ⟨q.toNat, by rcases h with rfl | rfl | rfl | rfl <;> rfl, by rcases h with rfl | rfl | rfl | rfl <;> simp⟩
theorem vals_below {w : World} {ao : Option Addr} {rows : List (List Int)} (h : RowsAt w ao rows) : ∃ vs, RVals w vs rows ∧ ∀ w', Below w.heap.size w w' → ∀ ad, ao = some ad → ∀ j u, vs[j]? = some u → w'.cell? (ad.add j) = some u := by
  obtain ⟨vs, h1, h2⟩ := h.vals
  refine ⟨vs, h1, fun w' hb ad had j u hu => ?_⟩
  have := h2 ad had j u hu
  exact (hb.cell (World.block_lt_of_cell? w _ this)).trans this
theorem rev_take {rows : List (List Int)} {m k : Nat} (h : (rows.length : Int) - 1 - m = k) : rows.reverse.take (m + 1) = rows.reverse.take m ++ [rows.getD k []] := by
  have hm : m < rows.reverse.length := by rw [List.length_reverse]; omega
  rw [List.take_succ_eq_append_getElem hm, List.getElem_reverse]
  have hk : rows.length - 1 - m = k := by omega
  have hk2 : k < rows.length := by omega
  simp only [hk]
  rw [List.getD, List.getElem?_eq_getElem hk2]
  rfl
set_option maxHeartbeats 2000000 in
set_option maxRecDepth 100000 in
theorem oaOnce_walk (q i j : Int) (W : World) :
    Calls Try.prog 3 #[.int .i64 q, .int .i64 i, .int .i64 j] W fun e w' => e = .returned (.bool true) ∧ Below W.heap.size W w' := by
  obtain ⟨i27, hi27, hz271, hz272, hz273⟩ := info_parts infoO27
  go_enter Try.func3, Try.ntmps3
  go_wp2_with fail
  refine (oarows_any q W).mono ?_
  rintro e w1 ⟨hp, hb1⟩
  have HR2 := Lib.hid (oarows_any 2 w1)
  have HB1 := Lib.hid hb1
  clear hb1
  rcases hp with ⟨hq, rfl⟩ | ⟨hq, n, ao, c, rfl, rfl, hrows, hcap⟩
  · clear hq
    go_wp2_with fail
    refine HR2.out.mono ?_
    rintro e w2 ⟨⟨h, _⟩ | ⟨_, m, a2, c2, hm, rfl, _⟩, hb2⟩
    · exact absurd (Or.inl rfl) h
    obtain rfl : m = 2 := by omega
    have HB2 := Lib.hid (HB1.out.trans (hb2.mono HB1.out.size))
    clear hm hb2
    go_wp2_with fail
    go_ret
    exact ⟨rfl, HB2.out⟩
  obtain ⟨n', hn', hqn⟩ := qok_nat hq
  obtain rfl : n' = n := by omega
  have hn2 : 2 ≤ n' := by omega
  have hn7 : n' ≤ 7 := by omega
  have HQ := Lib.hid hq
  have HQN := Lib.hid hqn
  have HRW := Lib.hid hrows
  clear hq hn' hqn hrows
  go_wp2_with fail
  refine HR2.out.mono ?_
  rintro e w2 ⟨⟨h, _⟩ | ⟨_, m, a2, c2, hm, rfl, _⟩, hb2⟩
  · exact absurd (Or.inl rfl) h
  obtain rfl : m = 2 := by omega
  have HB2 := Lib.hid (HB1.out.trans (hb2.mono HB1.out.size))
  have HL := Lib.hid (show ∀ w, Below w2.heap.size w2 w → RowsAt w ao (oaRows n') from fun w hw => HRW.out.below (Nat.le_refl _) (hb2.trans (hw.mono hb2.size)))
  obtain ⟨N, hN⟩ : ∃ N, N = n' * n' := ⟨_, rfl⟩
  have HN := Lib.hid hN
  have hN49 : N ≤ 49 := by rw [hN]; exact Nat.mul_le_mul hn7 hn7
  have hN4 : 4 ≤ N := by rw [hN]; exact Nat.mul_le_mul hn2 hn2
  have HLEN := Lib.hid (show (oaRows n').length = N by rw [oaRows_len, hN])
  rw [← hN] at hcap ⊢
  clear hm hb2 HR2 HRW hN
  go_wp2_with fail
  go_loopw [11, 12] (fun bv kv wr => ∃ (m : Nat) (vo : List Value), kv = .int .i64 ((N : Int) - 1 - m) ∧ m ≤ N ∧ wr.ownsRow w2.heap.size 27 1 bv m vo ∧ RowKit.Hid (RVals w2 vo ((oaRows n').reverse.take m)) ∧ RowKit.Hid (Below w2.heap.size w2 wr)) (fun _ kv _ => (intOf kv + 1).toNat)
  case atStart => exact ⟨0, [], by go_num, by omega, World.ownsRow_nil _ _ _ _, Lib.hid .nil, Lib.hid (Below.refl _ _)⟩
  case round =>
    obtain ⟨m, vo, rfl, hm, ho, hv, hq⟩ := hrel
    by_cases hmN : m < N
    · obtain ⟨k, hk⟩ : ∃ k : Nat, (N : Int) - 1 - m = k := ⟨N - 1 - m, by omega⟩
      have hkN : k < N := by omega
      obtain ⟨b, o, ro, rc, hae, hrl, hrn, hrc, hri, hcell⟩ := (HL.out w2 (Below.refl _ _)).get (j := k) (by rw [HLEN.out]; exact hkN)
      subst hae
      have hc := hcell wr hq.out
      have HT := Lib.hid (rev_take (rows := oaRows n') (m := m) (k := k) (by rw [HLEN.out]; omega))
      have HRL := Lib.hid (show ((oaRows n').getD k []).length = n' + 1 from by
        have := oaRows_form (q := n') (by omega) ((oaRows n').getD k []) (by simp [show k < (oaRows n').length by rw [HLEN.out]; exact hkN])
        exact this.1)
      obtain ⟨r, hr⟩ : ∃ r, r = (oaRows n').getD k [] := ⟨_, rfl⟩
      rw [← hr] at hc hri hrl hrn hrc HT HRL
      have HV := Lib.hid (hv.out.append (.cons hri hrl hrn hrc .nil))
      rw [← HT.out, HRL.out] at HV
      rw [HRL.out] at hc
      have HQ2 := Lib.hid hq.out
      have hs2 := hq.out.size
      have HO := Lib.hid ho
      rw [hk]
      have hk0 : (0 : Int) ≤ (k : Int) := by omega
      clear hr hri hcell hv hq hrl ho hrn hrc
      go_wp2_with (at_builtin; refine wpList_push _ rfl _ _ 22 rfl w2.heap.size 27 i27 (.slice none 0 0) 1 24 Try.underlying22 hi27 hz271 hz272 hz273 rfl (by decide) _ _ _ rfl (HO.out.alloc _) ⟨wr.heap.size, 0, none⟩ 1 [.slice ro (n' + 1) rc] rfl rfl (cell_one_new _ _ _) (by intro u hu; simp at hu; subst hu; rfl) (by unfold maxLen; omega) (by omega) (by simp; omega) ?_)
      intro g7 cap w7 ho7 hg7
      have hq7 := (HQ2.out.alloc hs2 (.cells #[.slice ro (n' + 1) rc] 27)).grown hg7 (by simp; omega) (fun k hk => (HO.out.lt k hk).1)
      have HO7 := Lib.hid ho7
      have HQ7 := Lib.hid hq7
      clear ho7 hg7 hq7 HO HQ2
      go_wp2_with fail
      go_roundw
      case rel => exact ⟨m + 1, _, by congr 1 <;> omega, by omega, HO7.out, HV, HQ7⟩
      case measure => first | (simp [intOf]; done) | (simp [intOf]; omega)
    · obtain rfl : m = N := by omega
      have hte : (oaRows n').reverse.take m = (oaRows n').reverse := List.take_of_length_le (by simp [HLEN.out])
      have hv' := hv.out
      rw [hte] at hv'
      obtain ⟨bo, bc, rfl⟩ := owns_shape ho
      have HBK := Lib.hid (show ∀ w, Below wr.heap.size wr w → RowsAt w bo (oaRows n').reverse from fun w hw => (RowsAt.of_owns ho (hv'.keep hq.out)).below (Nat.le_refl _) hw)
      have HLW := Lib.hid (show ∀ w, Below wr.heap.size wr w → RowsAt w ao (oaRows n') from fun w hw => HL.out w (hq.out.trans (hw.mono hq.out.size)))
      have HBW := Lib.hid (HB2.out.trans (hq.out.mono HB2.out.size))
      obtain ⟨w3, hw3⟩ : ∃ w3, w3 = wr := ⟨_, rfl⟩
      subst hw3
      have HRT1 := Lib.hid (oaright_any n' (oaRows n') ao c w3 (HLW.out w3 (Below.refl _ _)) (by rw [HLEN.out]; unfold maxLen; omega))
      rw [HLEN.out] at HRT1
      have hne : (m : Int) - 1 - m < 0 := by omega
      clear ho hv hv' hte hq
      go_wp2_with fail
      refine HRT1.out.mono ?_
      clear HRT1
      rintro e w4 ⟨hp, hb4⟩
      have HF := Lib.hid (oaRows_form (q := n') (by omega))
      have HON := Lib.hid (oaRows_once HQN.out)
      have HON2 := Lib.hid (oaBack_once HQN.out)
      rcases hp with ⟨h, _⟩ | ⟨_, n1, h1, h2, _⟩ | ⟨_, n1, b4, h1, _, rfl, hb⟩
      · exact absurd HQ.out h
      · obtain rfl : n1 = n' := by omega
        exact absurd HF.out h2
      obtain rfl : n1 = n' := by omega
      obtain rfl : b4 = true := hb.2 ⟨HON.out, oaRows_len _⟩
      have HB4 := Lib.hid hb4
      have HFB := Lib.hid (show oaForm n1 (oaRows n1).reverse from fun r hr => HF.out r (by simpa using hr))
      have HRT2 := Lib.hid (oaright_any n1 (oaRows n1).reverse bo bc w4 (HBK.out w4 hb4) (by rw [List.length_reverse, HLEN.out]; unfold maxLen; omega))
      rw [List.length_reverse, HLEN.out] at HRT2
      clear hb h1 hb4
      go_wp2_with fail
      refine HRT2.out.mono ?_
      clear HRT2
      rintro e w5 ⟨hp, hb5⟩
      rcases hp with ⟨h, _⟩ | ⟨_, n2, h1, h2, _⟩ | ⟨_, n2, b5, h1, _, rfl, hb⟩
      · exact absurd HQ.out h
      · obtain rfl : n2 = n1 := by omega
        exact absurd HFB.out h2
      obtain rfl : n2 = n1 := by omega
      obtain rfl : b5 = true := hb.2 ⟨HON2.out, by rw [List.length_reverse]; exact oaRows_len _⟩
      have HB5 := Lib.hid (HB4.out.trans (hb5.mono HB4.out.size))
      clear hb h1 hb5 HB4
      -- all but the first one
      obtain ⟨b, o, ro, rc, hae, hrl, hrn, hrc, hri, hcell⟩ := (HLW.out w3 (Below.refl _ _)).get (j := 0) (by rw [HLEN.out]; omega)
      subst hae
      obtain ⟨r0, rt, hrt⟩ : ∃ r0 rt, oaRows n2 = r0 :: rt := by
        cases h : oaRows n2 with
        | nil => have := HLEN.out; rw [h] at this; simp at this; omega
        | cons r0 rt => exact ⟨r0, rt, rfl⟩
      have HTL := Lib.hid (show ∀ w, Below w3.heap.size w3 w → RowsAt w (some ⟨b, o + 1, none⟩) rt from fun w hw => by
        have := HLW.out w hw
        rw [hrt] at this
        exact this.tail)
      have HRTL := Lib.hid (show rt.length = m - 1 by have := HLEN.out; rw [hrt] at this; simp at this; omega)
      have HFT := Lib.hid (show oaForm n2 rt from fun r hr => HF.out r (by rw [hrt]; exact List.mem_cons_of_mem _ hr))
      have HRT3 := Lib.hid (oaright_any n2 rt (some ⟨b, o + 1, none⟩) (c - 1) w5 (HTL.out w5 HB5.out) (by rw [HRTL.out]; unfold maxLen; omega))
      rw [HRTL.out] at HRT3
      have hm1 : ((m : Int) - 1) = ((m - 1 : Nat) : Int) := by omega
      have hc1 : 1 < c := by omega
      clear hrt
      go_wp2_with fail
      refine HRT3.out.mono ?_
      clear HRT3
      rintro e w6 ⟨hp, hb6⟩
      rcases hp with ⟨h, _⟩ | ⟨_, n3, h1, h2, _⟩ | ⟨_, n3, b6, h1, _, rfl, hb⟩
      · exact absurd HQ.out h
      · obtain rfl : n3 = n2 := by omega
        exact absurd HFT.out h2
      obtain rfl : n3 = n2 := by omega
      have hb6f : b6 = false := by
        cases b6 with
        | false => rfl
        | true =>
          have h3 := (hb.1 rfl).2
          have h4 := HRTL.out
          have h5 := HN.out
          omega
      subst hb6f
      have hB6 := HB5.out.trans (hb6.mono HB5.out.size)
      have HB6 := Lib.hid hB6
      have hrl0 : ((oaRows n3).getD 0 []).length = n3 + 1 := by
        have := HF.out ((oaRows n3).getD 0 []) (by simp [show 0 < (oaRows n3).length by rw [HLEN.out]; omega])
        exact this.1
      rw [hrl0] at hrl hrn hrc hcell
      have hc0 := hcell w6 hB6
      rw [Nat.add_zero] at hc0
      obtain ⟨vs, hvs, hvc⟩ := vals_below (HLW.out w6 hB6)
      have hvl := hvs.len
      rw [HLEN.out] at hvl
      have HVS := Lib.hid hvs
      have HVC := Lib.hid hvc
      have HR0 := Lib.hid (show RVals w6 [.slice ro (n3 + 1) rc] [(oaRows n3).getD 0 []] from by
        have := RVals.cons (w := w6) (ro := ro) (rc := rc) (r := (oaRows n3).getD 0 []) (vs := []) (rows := []) (hri.below (Nat.le_refl _) hB6) (by rw [hrl0]; exact hrl) (by rw [hrl0]; exact hrn) (by rw [hrl0]; exact hrc) .nil
        rwa [hrl0] at this)
      have HVO := Lib.hid (hvs.one1)
      have HF2 := Lib.hid (show oaForm n3 (oaRows n3 ++ [(oaRows n3).getD 0 []]) from fun r hr => by
        rcases List.mem_append.1 hr with hr | hr
        · exact HF.out r hr
        · obtain rfl := List.mem_singleton.1 hr
          exact HF.out _ (by simp [show 0 < (oaRows n3).length by rw [HLEN.out]; omega]))
      have HRT4 := Lib.hid (show ∀ (w : World) (g cap : Nat), RowsAt w (some ⟨g, 0, none⟩) (oaRows n3 ++ [(oaRows n3).getD 0 []]) → Calls Try.prog 5 #[.int .i64 (n3 : Int), .slice (some ⟨g, 0, none⟩) (m + 1) cap] w (fun e w' => e = .returned (.tuple #[.bool false, .nilIface]) ∧ Below w.heap.size w w') from fun w g cap hw => by
        have h := oaright_any n3 (oaRows n3 ++ [(oaRows n3).getD 0 []]) (some ⟨g, 0, none⟩) cap w hw (by rw [List.length_append, HLEN.out]; unfold maxLen; simp; omega)
        rw [List.length_append, HLEN.out, List.length_singleton] at h
        refine h.mono ?_
        rintro e w' ⟨hp, hb8⟩
        rcases hp with ⟨h, _⟩ | ⟨_, n4, h1, h2, _⟩ | ⟨_, n4, b7, h1, _, rfl, hb7⟩
        · exact absurd HQ.out h
        · obtain rfl : n4 = n3 := by omega
          exact absurd HF2.out h2
        obtain rfl : n4 = n3 := by omega
        cases b7 with
        | false => exact ⟨rfl, hb8⟩
        | true =>
          have h3 := (hb7.1 rfl).2
          have h5 := HN.out
          have h6 := HLEN.out
          rw [List.length_append, List.length_singleton] at h3
          omega)
      have hbx6 : Below w6.heap.size w6 w6 := Below.refl _ _
      have HB5' := Lib.hid hB6.size
      clear hb h1 hb6 hB6 hri hrl hrn hrc hcell hvs hvc hrl0 HB5 HTL
      have hm0 : 0 < m := by omega
      have hbl : b < w6.heap.size := World.block_lt_of_cell? w6 _ hc0
      have hm00 : (0 : Int) < (m : Int) := by omega
      go_upto_region 15 with fail
      go_cut [19, 20] from 77 to 89 (fun v e wx => v = .bool false ∧ e = .nilIface ∧ Below w6.heap.size w6 wx)
      case first =>
        go_region_held3 (fun w' => w'.cell? ⟨b, o, none⟩ = some (.slice ro (n3 + 1) rc) ∧ Below w6.heap.size w6 w')
          (first
            | (go_keep; done)
            | (try go_split_ands
               refine ⟨?_, ?_⟩
               · first | assumption | (go_keep; done)
               · repeat' (first | assumption | exact Below.refl _ _ | refine Below.drew ?_ | refine Below.alloc ?_ (Below.size (B := w6.heap.size) ?_) _)))
          (first
            | ((refine step_append_any _ rfl (.tmp 79) (.tmp 80) 22 rfl w6.heap.size 27 i27 _ 1 24 Try.underlying22 hi27 hz271 hz272 hz273 rfl (by decide) _ 0 _ [] rfl ?_ (some ⟨b, o, none⟩) m c vs rfl (by omega) (fun h => by cases h) ?_ HVO.out ?_ ?_ ?_ _ rfl ?_)
               · refine owns_empty ?_ ?_
                 · first | omega | exact Nat.le_refl _ | (simp; done) | (simp; omega)
                 · repeat' (first | refine heap_drew_at ?_ | exact heap_alloc_at _ _ (by simp) | refine heap_alloc_keep _ ?_)
               · try go_split_ands
                 exact HVC.out _ (by assumption)
               · first | decide | (unfold maxLen; omega)
               · first | decide | omega
               · first | omega | (simp; try omega)
               intro g1 cap1 w7 hown7 hgrow7 hat7 hlt7
               simp only [Nat.zero_add, List.nil_append] at hown7 ⊢
               have hg7 := (hown7.lt g1 rfl).1
               try go_split_ands
               have hb7 : Below w6.heap.size w6 w7 := Below.grown (by assumption) hgrow7 (by first | omega | (simp; try omega)) (by simp; try omega)
               have hs7 := Below.size hb7
               have hc7 : w7.cell? ⟨b, o, none⟩ = some (.slice ro (n3 + 1) rc) := hgrow7.cell (by assumption) (by first | (simp; done) | (simp; omega)))
            | ((refine step_append_any _ rfl (.tmp 81) (.tmp 85) 22 rfl w6.heap.size 27 i27 _ 1 24 Try.underlying22 hi27 hz271 hz272 hz273 rfl (by decide) _ m _ vs rfl ?_ (some ⟨_, 0, none⟩) 1 1 [.slice ro (n3 + 1) rc] rfl rfl (by simp) ?_ (by intro u hu; simp at hu; subst hu; rfl) ?_ ?_ ?_ _ rfl ?_)
               · first
                   | exact hown7
                   | exact hown7.alloc _
               · intro ad had
                 cases had
                 refine World.news_of_block (cs := #[.slice ro (n3 + 1) rc]) (t := 27) (fr := (0, 0)) ?_
                 first
                   | exact heap_alloc_at _ _ rfl
                   | (refine grown_heap hgrow7 ?_ (by simp)
                      repeat' (first | refine heap_drew_at ?_ | exact heap_alloc_at _ _ (by simp) | refine heap_alloc_keep _ ?_))
               · first | decide | (unfold maxLen; omega)
               · first | decide | omega
               · first | omega | (simp; try omega)
               intro g2 cap2 w8 hown8 hgrow8 hat8 hlt8
               try go_split_ands
               have hb8 : Below w6.heap.size w6 w8 := Below.grown (by assumption) hgrow8 (by first | omega | (simp; try omega)) (by simp; try omega)
               have hp8 : RowsAt w8 (some ⟨g2, 0, none⟩) (oaRows n3 ++ [(oaRows n3).getD 0 []]) := RowsAt.of_owns hown8 ((HVS.out.append HR0.out).keep hb8)
               have hc8 : w8.cell? ⟨b, o, none⟩ = some (.slice ro (n3 + 1) rc) := hgrow8.cell (by assumption) (by first | (simp; done) | (simp; omega)))
            | (go_at_call 5; refine (HRT4.out _ _ _ hp8).mono ?_; rintro e w9 ⟨rfl, hb9⟩; have hb9' := hb8.trans (hb9.mono hb8.size); have hc9 : w9.cell? ⟨b, o, none⟩ = some (.slice ro (n3 + 1) rc) := (hb9.cell (p := ⟨b, o, none⟩) (World.block_lt_of_cell? w8 _ hc8)).trans hc8))
        all_goals
          go_wp2_with fail
          go_meet
          exact ⟨rfl, rfl, hb9'⟩
      case rest =>
        obtain ⟨rfl, rfl, hbc⟩ := hcut
        have hbw := HB6.out.trans (hbc.mono HB6.out.size)
        have HBC := Lib.hid (HBW.out.trans (hbw.mono HBW.out.size))
        have HBC3 := Lib.hid hbw
        have hmm : (m : Int) = (n3 : Int) * (n3 : Int) := by rw [HN.out]; simp
        have hbne : ((m : Int) != (n3 : Int) * (n3 : Int)) = false := by rw [bne_eq_false_iff_eq]; exact hmm
        have hnn1 : (n3 : Int) * (n3 : Int) ≤ 49 := by omega
        have hnn0 : (0 : Int) ≤ (n3 : Int) * (n3 : Int) := by omega
        clear hbc hbw hvl hmm hc0
        by_cases hi0 : i < 0
        · have hd1 : decide (i < 0) = true := decide_eq_true hi0
          go_wp2_with fail
          go_ret
          exact ⟨rfl, HBC.out⟩
        have hd1 : decide (i < 0) = false := decide_eq_false hi0
        by_cases hiN : (m : Int) ≤ i
        · have hd2 : decide ((m : Int) ≤ i) = true := decide_eq_true hiN
          go_wp2_with fail
          go_ret
          exact ⟨rfl, HBC.out⟩
        have hd2 : decide ((m : Int) ≤ i) = false := decide_eq_false hiN
        by_cases hj0 : j < 0
        · have hd3 : decide (j < 0) = true := decide_eq_true hj0
          go_wp2_with fail
          go_ret
          exact ⟨rfl, HBC.out⟩
        have hd3 : decide (j < 0) = false := decide_eq_false hj0
        by_cases hjN : (m : Int) ≤ j
        · have hd4 : decide ((m : Int) ≤ j) = true := decide_eq_true hjN
          go_wp2_with fail
          go_ret
          exact ⟨rfl, HBC.out⟩
        have hd4 : decide ((m : Int) ≤ j) = false := decide_eq_false hjN
        by_cases hij : i = j
        · subst hij
          have hd5 : (i == i) = true := by simp
          go_wp2_with fail
          go_ret
          exact ⟨rfl, HBC.out⟩
        have hd5 : (i == j) = false := beq_eq_false_iff_ne.2 hij
        obtain ⟨x, rfl⟩ := Int.eq_ofNat_of_zero_le (show 0 ≤ i by omega)
        obtain ⟨y, rfl⟩ := Int.eq_ofNat_of_zero_le (show 0 ≤ j by omega)
        have hxm : x < m := by omega
        have hym : y < m := by omega
        obtain ⟨b1, o1, rx, cx, he1, _, _, _, hix, hcx⟩ := (HLW.out w3 (Below.refl _ _)).get (j := x) (by rw [HLEN.out]; exact hxm)
        obtain ⟨b2, o2, ry, cy, he2, _, _, _, hiy, hcy⟩ := (HLW.out w3 (Below.refl _ _)).get (j := y) (by rw [HLEN.out]; exact hym)
        cases he1
        cases he2
        have hcxw := hcx wc HBC3.out
        have hcyw := hcy wc HBC3.out
        have HIX := Lib.hid (hix.below (Nat.le_refl _) HBC3.out)
        have HIY := Lib.hid (hiy.below (Nat.le_refl _) HBC3.out)
        have hlx : ((oaRows n3).getD x []).length = n3 + 1 := (HF.out _ (by simp [show x < (oaRows n3).length by rw [HLEN.out]; exact hxm])).1
        have hly : ((oaRows n3).getD y []).length = n3 + 1 := (HF.out _ (by simp [show y < (oaRows n3).length by rw [HLEN.out]; exact hym])).1
        rw [hlx] at hcxw
        rw [hly] at hcyw
        have HLX := Lib.hid hlx
        have HLY := Lib.hid hly
        have HGX := Lib.hid (show ∀ k, k < n3 + 1 → ((oaRows n3).getD x []).getD k 0 = (oaCell n3 x k : Int) from fun k hk => by
          rw [oaRows_get (by rw [← HN.out]; exact hxm)]; exact oaRow_get hk)
        have HGY := Lib.hid (show ∀ k, k < n3 + 1 → ((oaRows n3).getD y []).getD k 0 = (oaCell n3 y k : Int) from fun k hk => by
          rw [oaRows_get (by rw [← HN.out]; exact hym)]; exact oaRow_get hk)
        have HONE := Lib.hid (oa_same HQN.out (i := x) (j := y) (by rw [← HN.out]; exact hxm) (by rw [← HN.out]; exact hym) (fun e => hij (by rw [e])))
        clear hix hiy hcx hcy hlx hly hij hi0 hiN hj0 hjN
        go_wp2_with fail
        go_loopw [21, 22] (fun sv kv wr => ∃ (k s nq : Nat), kv = .int .i64 k ∧ k ≤ n3 + 1 ∧ sv = .int .i64 s ∧ s ≤ k ∧ RowKit.Hid (s = (List.range k).countP fun k => oaCell n3 x k == oaCell n3 y k) ∧ wr = wc.drewN nq) (fun _ kv _ => n3 + 1 - (intOf kv).toNat)
        case atStart => exact ⟨0, 0, 0, rfl, by omega, rfl, by omega, Lib.hid (by simp), (drewN_zero _).symm⟩
        case round =>
          obtain ⟨k, s, nq, rfl, hk, rfl, hs, hcount, rfl⟩ := hrel
          by_cases hkn : k < n3 + 1
          · obtain ⟨bb1, oo1, hee1, hck1⟩ := HIX.out k (by rw [HLX.out]; exact hkn)
            obtain ⟨bb2, oo2, hee2, hck2⟩ := HIY.out k (by rw [HLY.out]; exact hkn)
            subst hee1 hee2
            rw [HGX.out k hkn] at hck1
            rw [HGY.out k hkn] at hck2
            have HCS := Lib.hid (show (List.range (k + 1)).countP (fun k => oaCell n3 x k == oaCell n3 y k) = s + (if oaCell n3 x k == oaCell n3 y k then 1 else 0) by
              rw [List.range_succ, List.countP_append, ← hcount.out]; simp [List.countP_cons])
            obtain ⟨u, hu⟩ : ∃ u, u = oaCell n3 x k := ⟨_, rfl⟩
            obtain ⟨v, hv⟩ : ∃ v, v = oaCell n3 y k := ⟨_, rfl⟩
            rw [← hu] at hck1 HCS
            rw [← hv] at hck2 HCS
            clear hu hv hcount
            by_cases huv : u = v
            · subst huv
              have hb : ((u : Int) == (u : Int)) = true := by simp
              have HCS2 := Lib.hid (HCS.out.trans (show s + (if u == u then 1 else 0) = s + 1 by simp))
              go_wp2_with fail
              go_quiet (fail)
              go_wp2_with fail
              go_roundw
              case rel => exact ⟨k + 1, s + 1, _, by go_num, by omega, by go_num, by omega, Lib.hid HCS2.out.symm, rfl⟩
              case measure => simp [intOf]; omega
            · have hb : ((u : Int) == (v : Int)) = false := by rw [beq_eq_false_iff_ne]; omega
              have HCS2 := Lib.hid (HCS.out.trans (show s + (if u == v then 1 else 0) = s by simp [huv]))
              go_wp2_with fail
              go_quiet (fail)
              go_wp2_with fail
              go_roundw
              case rel => exact ⟨k + 1, s, _, by go_num, by omega, rfl, by omega, Lib.hid HCS2.out.symm, rfl⟩
              case measure => simp [intOf]; omega
          · obtain rfl : k = n3 + 1 := by omega
            have hs1 : s = 1 := hcount.out.trans HONE.out
            subst hs1
            have HBE := Lib.hid (below_drewN HBC.out nq)
            clear hcount
            go_wp2_with fail
            go_ret
            exact ⟨rfl, HBE.out⟩
end Go.Proofs.Ytmcbplklopejlaa
